/- What is right stays so without its costs. -/
import Derived.Test.YtjgkfgocgknjjaaDoorU13
set_option linter.unusedVariables false
set_option linter.unusedSimpArgs false
namespace Go.Proofs.YtjgkfgocgknjjaaDoor
open Go Go.RowKit Go.Proofs.YtjgkfgocgknjjaaDoor.Abs

mutual
theorem St.er_er : ∀ x : St, x.er.er = x.er
  | .mk k c n m e i l args body els arms => by
    have h1 := St.erL_erL body
    have h2 := St.erL_erL els
    have h3 := Arm.erL_erL arms
    simp only [St.er, h1, h2, h3]
theorem Arm.er_er : ∀ x : Arm, x.er.er = x.er
  | .mk labels body => by
    have h1 := St.erL_erL body
    simp only [Arm.er, h1]
theorem St.erL_erL : ∀ l : List St, St.erL (St.erL l) = St.erL l
  | [] => by simp [St.erL]
  | x :: r => by
    have h1 := St.er_er x
    have h2 := St.erL_erL r
    by_cases h : x.kind = 0
    · simp [St.erL, h, h2]
    · have h3 : x.er.kind = x.kind := by rw [St.er_eq]; rfl
      simp [St.erL, h, h1, h2, h3]
theorem Arm.erL_erL : ∀ l : List Arm, Arm.erL (Arm.erL l) = Arm.erL l
  | [] => by simp [Arm.erL]
  | x :: r => by
    have h1 := Arm.er_er x
    have h2 := Arm.erL_erL r
    simp [Arm.erL, h1, h2]
end
mutual
theorem St.er_less : ∀ x : St, x.er.size ≤ x.size ∧ x.er.cnt ≤ x.cnt ∧ (x.wf → x.er.wf)
  | .mk k c n m e i l args body els arms => by
    have h1 := St.erL_less body
    have h2 := St.erL_less els
    have h3 := Arm.erL_less arms
    simp only [St.er, St.size, St.cnt, St.wf]
    refine ⟨by omega, by omega, fun ⟨a, b, c, d, e, f, g⟩ => ⟨a, b, c, d, h1.2.2 e, h2.2.2 f, h3.2.2 g⟩⟩
theorem Arm.er_less : ∀ x : Arm, x.er.size ≤ x.size ∧ x.er.cnt ≤ x.cnt ∧ (x.wf → x.er.wf)
  | .mk labels body => by
    have h1 := St.erL_less body
    simp only [Arm.er, Arm.size, Arm.cnt, Arm.wf]
    exact ⟨by omega, by omega, h1.2.2⟩
theorem St.erL_less : ∀ l : List St, St.sizeL (St.erL l) ≤ St.sizeL l ∧ St.cntL (St.erL l) ≤ St.cntL l ∧ (St.wfL l → St.wfL (St.erL l))
  | [] => by simp [St.erL]
  | x :: r => by
    have h1 := St.er_less x
    have h2 := St.erL_less r
    by_cases h : x.kind = 0
    · simp only [St.erL, h, if_true, St.sizeL, St.cntL, St.wfL]
      exact ⟨by omega, by omega, fun w => h2.2.2 w.2⟩
    · simp only [St.erL, h, if_false, St.sizeL, St.cntL, St.wfL]
      exact ⟨by omega, by omega, fun w => ⟨h1.2.2 w.1, h2.2.2 w.2⟩⟩
theorem Arm.erL_less : ∀ l : List Arm, Arm.sizeL (Arm.erL l) ≤ Arm.sizeL l ∧ Arm.cntL (Arm.erL l) ≤ Arm.cntL l ∧ (Arm.wfL l → Arm.wfL (Arm.erL l))
  | [] => by simp [Arm.erL]
  | x :: r => by
    have h1 := Arm.er_less x
    have h2 := Arm.erL_less r
    simp only [Arm.erL, Arm.sizeL, Arm.cntL, Arm.wfL]
    exact ⟨by omega, by omega, fun w => ⟨h1.2.2 w.1, h2.2.2 w.2⟩⟩
end
theorem St.er_kind (x : St) : x.er.kind = x.kind := by rw [St.er_eq]; exact Eq.refl _
theorem St.er_cost (x : St) : x.er.cost = 0 := by rw [St.er_eq]; exact Eq.refl _
theorem St.er_n (x : St) : x.er.n = x.n := by rw [St.er_eq]; exact Eq.refl _
theorem St.er_m (x : St) : x.er.m = x.m := by rw [St.er_eq]; exact Eq.refl _
theorem St.er_e (x : St) : x.er.e = x.e := by rw [St.er_eq]; exact Eq.refl _
theorem St.er_i (x : St) : x.er.i = x.i := by rw [St.er_eq]; exact Eq.refl _
theorem St.er_l (x : St) : x.er.l = x.l := by rw [St.er_eq]; exact Eq.refl _
theorem St.er_args (x : St) : x.er.args = x.args := by rw [St.er_eq]; exact Eq.refl _
theorem St.er_body (x : St) : x.er.body = St.erL x.body := by rw [St.er_eq]; exact Eq.refl _
theorem St.er_els (x : St) : x.er.els = St.erL x.els := by rw [St.er_eq]; exact Eq.refl _
theorem St.er_arms (x : St) : x.er.arms = x.arms.map Arm.er := by rw [St.er_eq]; exact Eq.refl _
theorem St.bare_eq (x y : St) (h1 : y.kind = x.kind) (h2 : y.cost = 0) (h3 : y.n = x.n) (h4 : y.m = x.m) (h5 : y.e = x.e) (h6 : y.i = x.i) (h7 : y.l = x.l) (h8 : y.args = x.args) (h9 : y.body = St.erL x.body) (h10 : y.els = St.erL x.els) (h11 : y.arms = x.arms.map Arm.er) : y.bare = x.bare.er := by
  rw [St.er_eq x.bare]
  unfold St.bare
  rw [h2, h3, h4, h5, h6, h7, h8, h9, h10, h11]
  simp only [h1]
  generalize hk : x.kind = k
  have b1 : (if 7 ≤ k ∧ k ≤ 10 then St.erL x.body else []) = St.erL (if 7 ≤ k ∧ k ≤ 10 then x.body else []) := by split <;> simp [St.erL]
  have b2 : (if k = 7 ∨ k = 11 then St.erL x.els else []) = St.erL (if k = 7 ∨ k = 11 then x.els else []) := by split <;> simp [St.erL]
  have b3 : (if k = 11 then x.arms.map Arm.er else []) = (if k = 11 then x.arms else []).map Arm.er := by split <;> simp
  rw [b1, b2, b3]
  rfl
theorem St.er_bare (x : St) : x.er.bare = x.bare.er := St.bare_eq x x.er x.er_kind x.er_cost x.er_n x.er_m x.er_e x.er_i x.er_l x.er_args x.er_body x.er_els x.er_arms
theorem St.er_head {x : St} (h : x.head = true) : x.er.head = true := by
  simp only [St.head, Bool.and_eq_true, decide_eq_true_eq, St.beq_iff] at h ⊢
  rw [St.er_bare, ← h.2, St.er_cost]
  exact ⟨by omega, rfl⟩
theorem St.er_plain (s : Sc) (x : St) (t : Int) : plainB s x.er t = plainB s x t := by
  unfold plainB
  rw [St.er_n, St.er_m, St.er_e, St.er_i, St.er_l, St.er_args]
  simp only [St.er_kind]
theorem St.er_ok' (s : Sc) (x : St) (hb : ∀ loop, St.okL s x.body loop = true → St.okL s (St.erL x.body) loop = true) (he : ∀ loop, St.okL s x.els loop = true → St.okL s (St.erL x.els) loop = true)
    (ha : ∀ met loop, Arm.okL s x.arms met loop = true → Arm.okL s (Arm.erL x.arms) met loop = true) (loop : Int) (h : x.okB s loop = true) : x.er.okB s loop = true := by
  rw [St.okB_eq, Bool.and_eq_true] at h
  rw [St.okB_eq, Bool.and_eq_true]
  obtain ⟨h1, h2⟩ := h
  refine ⟨St.er_head h1, ?_⟩
  have e6 : x.er.t0 s = x.t0 s := by unfold St.t0; rw [St.er_e]
  rw [e6, St.er_plain, St.er_body, St.er_els, St.er_arms, St.er_cost, ← Arm.erL_map]
  simp only [St.er_kind]
  generalize x.t0 s = t at h2 ⊢
  generalize x.kind = k at h2 ⊢
  by_cases k0 : k = 0 ∨ k = 14
  · rw [if_pos k0]
  rw [if_neg k0] at h2 ⊢
  by_cases k12 : k = 12
  · rw [if_pos k12] at h2 ⊢; exact h2
  rw [if_neg k12] at h2 ⊢
  by_cases k13 : k = 13
  · rw [if_pos k13] at h2 ⊢; exact h2
  rw [if_neg k13] at h2 ⊢
  by_cases k7 : k = 7
  · rw [if_pos k7] at h2 ⊢
    simp only [Bool.and_eq_true] at h2 ⊢
    exact ⟨⟨h2.1.1, hb _ h2.1.2⟩, he _ h2.2⟩
  rw [if_neg k7] at h2 ⊢
  by_cases k8 : k = 8
  · rw [if_pos k8] at h2 ⊢
    simp only [Bool.and_eq_true] at h2 ⊢
    exact ⟨h2.1, hb _ h2.2⟩
  rw [if_neg k8] at h2 ⊢
  by_cases k9 : k = 9
  · rw [if_pos k9] at h2 ⊢
    simp only [Bool.and_eq_true] at h2 ⊢
    exact ⟨by decide, hb _ h2.2⟩
  rw [if_neg k9] at h2 ⊢
  by_cases k10 : k = 10
  · rw [if_pos k10] at h2 ⊢
    simp only [Bool.and_eq_true] at h2 ⊢
    exact ⟨h2.1, hb _ h2.2⟩
  rw [if_neg k10] at h2 ⊢
  by_cases k11 : k = 11
  · rw [if_pos k11] at h2 ⊢
    simp only [Bool.and_eq_true] at h2 ⊢
    exact ⟨⟨h2.1.1, ha _ _ h2.1.2⟩, he _ h2.2⟩
  rw [if_neg k11] at h2 ⊢
  exact h2
mutual
theorem St.er_ok (s : Sc) : ∀ (x : St) (loop : Int), x.okB s loop = true → x.er.okB s loop = true
  | .mk k c n m e i l args body els arms, loop => St.er_ok' s (.mk k c n m e i l args body els arms) (St.erL_ok s body) (St.erL_ok s els) (Arm.erL_ok s arms) loop
theorem Arm.er_ok (s : Sc) : ∀ (x : Arm) (loop : Int), x.okB s loop = true → x.er.okB s loop = true
  | .mk labels body, loop => by
    have hb := St.erL_ok s body loop
    simp only [Arm.er, Arm.okB]; exact hb
theorem St.erL_ok (s : Sc) : ∀ (l : List St) (loop : Int), St.okL s l loop = true → St.okL s (St.erL l) loop = true
  | [], _ => by simp [St.erL]
  | x :: r, loop => by
    have h1 := St.er_ok s x loop
    have h2 := St.erL_ok s r loop
    by_cases h : x.kind = 0
    · simp only [St.erL, h, if_true, St.okL, Bool.and_eq_true]; exact fun w => h2 w.2
    · simp only [St.erL, h, if_false, St.okL, Bool.and_eq_true]; exact fun w => ⟨h1 w.1, h2 w.2⟩
theorem Arm.erL_ok (s : Sc) : ∀ (l : List Arm) (met : List Int) (loop : Int), Arm.okL s l met loop = true → Arm.okL s (Arm.erL l) met loop = true
  | [], _, _ => by simp [Arm.erL]
  | x :: r, met, loop => by
    have h1 := Arm.er_ok s x loop
    have h2 := fun met => Arm.erL_ok s r met loop
    have h3 : x.er.labels = x.labels := by rw [Arm.er_eq]; rfl
    simp only [Arm.erL, Arm.okL, Bool.and_eq_true, h3]
    exact fun w => ⟨⟨w.1.1, h1 w.1.2⟩, h2 _ w.2⟩
end
end Go.Proofs.YtjgkfgocgknjjaaDoor
