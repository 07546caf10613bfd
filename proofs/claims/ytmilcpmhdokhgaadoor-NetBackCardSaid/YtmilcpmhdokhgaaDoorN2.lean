/- Normal forms: what is in normal form, by definition; how many literals. -/
import Derived.Test.YtmilcpmhdokhgaaDoorN1
set_option linter.unusedVariables false
set_option linter.unusedSimpArgs false
namespace Go.Proofs.YtmilcpmhdokhgaaDoor
open Go Go.RowKit Go.Proofs.YtmilcpmhdokhgaaDoor.Abs

theorem Ex.one_leaf {e : Ex} (s : Sc) (h : e.isOne = true) : e.leaf s = false := by simp [Ex.isOne] at h; simp [Ex.leaf, Ex.lop, h.1]
theorem Ex.two_leaf {e : Ex} {ops : List Int} (s : Sc) (h : e.isTwo ops = true) : e.leaf s = false := by simp [Ex.isTwo] at h; simp [Ex.leaf, Ex.lop, h.1.1]
theorem Ex.leaf_one {e : Ex} {s : Sc} (h : e.leaf s = true) : e.isOne = false := by cases h2 : e.isOne with | false => rfl | true => rw [Ex.one_leaf s h2] at h; cases h
theorem Ex.leaf_two {e : Ex} {s : Sc} {ops : List Int} (h : e.leaf s = true) : e.isTwo ops = false := by cases h2 : e.isTwo ops with | false => rfl | true => rw [Ex.two_leaf s h2] at h; cases h
theorem Ex.two_one {e : Ex} {ops : List Int} (h : e.isTwo ops = true) : e.isOne = false := by simp [Ex.isTwo] at h; simp [Ex.isOne, h.1.1]
theorem Ex.leaf_l {e : Ex} {s : Sc} (h : e.leaf s = true) : e.l = [] := by
  simp [Ex.leaf, Ex.lop] at h
  obtain ⟨h1, h2⟩ := h
  rw [Ex.ty_eq] at h2
  rcases hL : e.l with _ | ⟨x, _ | ⟨y, _ | ⟨z, r⟩⟩⟩
  · rfl
  · rw [hL] at h2
    simp [nodeTy] at h2
    split at h2
    · cases h2
    · simp only [oneTy] at h2
      rw [if_neg (by omega), if_neg (by omega), if_neg (by omega)] at h2
      cases h2
  · rw [hL] at h2
    simp [nodeTy] at h2
    split at h2
    · cases h2
    · rw [twoTy, if_neg (by omega)] at h2
      cases h2
  · rw [hL] at h2; simp [nodeTy] at h2
theorem Ex.nf_truth (s : Sc) (e : Ex) : e.nf s = true → e.truth s = true := by
  refine Ex.sized (p := fun e => e.nf s = true → e.truth s = true) ?_ e
  intro e ih h
  rw [Ex.nf_eq] at h
  rw [Ex.truth_eq]
  cases h1 : e.isOne with
  | true =>
    obtain ⟨x, hx⟩ := Ex.one_l h1
    simp [h1, hx] at h
    simp [hx, Ex.truth_eq s x, h.2]
  | false =>
    cases h2 : e.isTwo [14, 15] with
    | true =>
      obtain ⟨x, y, hx⟩ := Ex.two_l h2
      have i1 := ih 0 (by simp [hx])
      have i2 := ih 1 (by simp [hx])
      simp only [hx, List.getElem_cons_zero, List.getElem_cons_succ] at i1 i2
      simp [h1, h2, hx] at h
      simp [hx, i1 h.1, i2 h.2]
    | false => simp [h1, h2] at h; simp [h]

set_option maxRecDepth 20000 in
set_option maxHeartbeats 2000000 in
theorem r43_is (s : Sc) : ∀ (k : Nat), k ≤ 1000000000 → ∀ e : Ex, e.size < k → PCall Tryd.prog 13 [.agg s.cells, .agg e.cells] (.bool (e.nf s)) := by
  intro k
  induction k with
  | zero => intro _ e h; omega
  | succ k ih =>
  intro hk e he
  have hsz := Ex.size_eq e
  refine pcall_fn Code.ok13 (by simp [Code.f13]) fun H => ?_
  have e0 := Ex.nf_eq s e
  simp [Code.f13]
  intro g1 g2
  refine CallK.pure (r43_leaf s e (by omega)) ?_
  cases hl : e.leaf s with
  | true =>
    simp
    exact vbd (by rw [e0]; simp [Ex.leaf_one hl, Ex.leaf_two hl, hl])
  | false =>
    simp
    refine CallK.pure (r43_truth s _ (by omega) e he) ?_
    cases ht : e.truth s with
    | false =>
      simp
      refine vbd ?_
      cases hn : e.nf s with
      | false => rfl
      | true => rw [Ex.nf_truth s e hn] at ht; cases ht
    | true =>
      simp
      rw [Ex.truth_eq, hl] at ht
      cases h1 : e.isOne with
      | true =>
        obtain ⟨x, hx⟩ := Ex.one_l h1
        have h6 : e.op = 6 := by simp [Ex.isOne] at h1; exact h1.1
        have hs := Ex.size_mem (l := e.l) (i := 0) (by simp [hx])
        simp only [hx, List.getElem_cons_zero] at hs
        rw [hx] at hsz
        simp [h1, hx] at e0
        rw [e0]
        simp [hx, h6]
        refine ⟨fun h => ?_, fun h => vbd (by simp [h])⟩
        refine PCallK.pure (r43_leaf s x (by omega)) ?_
        simp
        exact vbd (by simp [h])
      | false =>
        have h7 : ∃ ops, e.isTwo ops = true := by
          rw [h1] at ht
          cases h2 : e.isTwo [14, 15] with
          | true => exact ⟨_, h2⟩
          | false => rw [h2] at ht; simp at ht; exact ⟨_, ht.1⟩
        obtain ⟨ops, h7⟩ := h7
        obtain ⟨x, y, hx⟩ := Ex.two_l h7
        have hop : e.op = 7 := by simp [Ex.isTwo] at h7; exact h7.1.1
        have hs := Ex.size_mem (l := e.l) (i := 0) (by simp [hx])
        have hs2 := Ex.size_mem (l := e.l) (i := 1) (by simp [hx])
        simp only [hx, List.getElem_cons_zero, List.getElem_cons_succ] at hs hs2
        rw [hx] at hsz
        have e2 : e.isTwo [14, 15] = decide (e.m = 14 ∨ e.m = 15) := by
          simp [Ex.isTwo] at h7
          simp [Ex.isTwo, h7.1]
        rw [h1, e2, hl, hx] at e0
        by_cases hm : e.m = 14 ∨ e.m = 15
        · have e3 : e.nf s = (x.nf s && y.nf s) := by rw [e0]; simp [hm]
          rw [e3]
          rcases hm with hm | hm
          all_goals
            simp [hx, hop, hm]
            refine PCallK.pure (ih (by omega) x (by omega)) ?_
            simp [hx]
            refine ⟨fun hf => ?_, fun hf => vbd (by simp [hf])⟩
            refine PCallK.pure (ih (by omega) y (by omega)) ?_
            simp
            exact vbd (by simp [hf])
        · rw [e0]
          have h14 : e.m ≠ 14 := by omega
          have h15 : e.m ≠ 15 := by omega
          simp [hx, hop, h14, h15]
          exact vbd rfl

/-- How many literals a normal form has, at most 1000. -/
def Ex.dbl (e : Ex) : Bool := decide (e.op = 7 ∧ e.m ≠ 14 ∧ e.m ≠ 15)
def clamp (n : Int) : Int := if 1000 < n then 1000 else n
def Ex.many : Ex → Int := Ex.para fun e rs => clamp ((if e.dbl then 2 else 1) * (if e.l.length = 0 then 1 else rs.sum))
theorem Ex.many_eq (e : Ex) : e.many = clamp ((if e.dbl then 2 else 1) * (if e.l.length = 0 then 1 else (e.l.map Ex.many).sum)) := Ex.para_eq _ e
theorem sum_range {f : Ex → Int} : ∀ {l : List Ex}, (∀ x ∈ l, 0 ≤ f x ∧ f x ≤ 1000) → 0 ≤ (l.map f).sum ∧ (l.map f).sum ≤ 1000 * l.length
  | [], _ => by simp
  | x :: r, h => by
    have h1 := h x (by simp)
    have h2 := sum_range (f := f) (l := r) fun y hy => h y (by simp [hy])
    simp; omega
theorem Ex.many_range (e : Ex) : 0 ≤ e.many ∧ e.many ≤ 1000 := by
  refine Ex.sized (p := fun e => 0 ≤ e.many ∧ e.many ≤ 1000) ?_ e
  intro e ih
  rw [Ex.many_eq]
  have h := sum_range (f := Ex.many) (l := e.l) fun x hx => by obtain ⟨i, hi, rfl⟩ := List.mem_iff_getElem.1 hx; exact ih i hi
  unfold clamp
  split <;> split <;> split <;> omega
set_option maxRecDepth 20000 in
set_option maxHeartbeats 2000000 in
theorem r43_many : ∀ (k : Nat), k ≤ 1000000000 → ∀ e : Ex, e.size < k → PCall Tryd.prog 43 [.agg e.cells] (.int .i64 e.many) := by
  intro k
  induction k with
  | zero => intro _ e h; omega
  | succ k ih =>
  intro hk e he
  have hsz := Ex.size_eq e
  have hlen := Ex.len_size e.l
  refine pcall_fn Code.ok43 (by simp [Code.f43]) fun H => ?_
  have e0 := Ex.many_eq e
  have hr : ∀ i, 0 ≤ ((e.l.take i).map Ex.many).sum ∧ ((e.l.take i).map Ex.many).sum ≤ 1000 * (e.l.take i).length := fun i => sum_range fun x _ => Ex.many_range x
  simp [Code.f43]
  intro g
  refine LoopK.told (σ := Nat) (fun s => [(4, .int .i64 s), (3, .int .i64 ((e.l.take s).map Ex.many).sum), (1, .ptr H.length g 0 0)]) (fun _ => H ++ [some (.rows g [e.cells])]) (fun i => i ≤ e.l.length) (fun s => e.l.length - s) 0 ?_ ?_ ?_ ?_
  · simp
  · simp
  · simp
  intro i hi
  have hr1 := hr i
  have hr2 := hr (i + 1)
  simp at hr1 hr2
  simp [Code.f43l0]
  refine ⟨fun h => ?_, fun h => ?_⟩
  · have := Ex.size_mem h
    have ht := List.take_succ_eq_append_getElem h
    simp [List.getElem?_eq_getElem h]
    refine CallK.pure (ih (by omega) e.l[i] (by omega)) ?_
    simp
    have hm := Ex.many_range e.l[i]
    refine ⟨i + 1, by omega, by omega, wkn_int (wrap_id (by omega) (by omega)), wkn_int ?_⟩
    have e1 : List.take (i + 1) (e.l.map Ex.many) = List.take i (e.l.map Ex.many) ++ [e.l[i].many] := by rw [← List.map_take, ht, List.map_append, List.map_take]; rfl
    rw [wrap_id (by omega) (by omega), e1, List.sum_append]; simp
  · obtain rfl : i = e.l.length := by omega
    have hs : List.take e.l.length (e.l.map Ex.many) = e.l.map Ex.many := List.take_of_length_le (by simp)
    rw [hs] at hr1 ⊢
    rw [Nat.min_self] at hr1
    cases hL : e.l with
    | nil =>
      by_cases h7 : e.op = 7
      · by_cases h14 : e.m = 14 ∨ e.m = 15
        · have e1 : e.many = 1 := by
            have hd : e.dbl = false := by simp [Ex.dbl]; omega
            rw [e0]; simp [hd, hL, clamp]
          rw [e1]
          rcases h14 with h | h <;> simp [hL, h7, h] <;> exact vid rfl
        · have h1 : e.m ≠ 14 := by omega
          have h2 : e.m ≠ 15 := by omega
          have e1 : e.many = 2 := by rw [e0]; simp [Ex.dbl, h7, hL, clamp, h1, h2]
          rw [e1]
          simp [hL, h7, h1, h2, show IntKind.i64.wrap 2 = 2 from rfl]
          exact vid rfl
      · have e1 : e.many = 1 := by rw [e0]; simp [Ex.dbl, h7, hL, clamp]
        rw [e1]
        simp [hL, h7]
        exact vid rfl
    | cons x r =>
      have hne : e.l.length ≠ 0 := by simp [hL]
      rw [← hL]
      generalize (e.l.map Ex.many).sum = m at hr1 e0 ⊢
      rw [if_neg hne] at e0
      have hne2 : e.l ≠ [] := by simp [hL]
      by_cases h7 : e.op = 7 ∧ e.m ≠ 14 ∧ e.m ≠ 15
      · have e1 : e.many = clamp (2 * m) := by rw [e0]; simp [Ex.dbl, h7]
        rw [e1]
        simp [h7, hne2]
        rw [wrap_id (by omega) (by omega)]
        refine ⟨fun h => vid (by simp [clamp, h]), fun h => vid ?_⟩
        simp [clamp]; omega
      · have e1 : e.many = clamp m := by
          rw [e0]
          have : e.dbl = false := by simp [Ex.dbl]; simp at h7; exact h7
          simp [this]
        rw [e1]
        have fin : (1000 < m → VShift (.int .i64 1000) (H ++ [some (.rows g [e.cells])]) (.int .i64 (clamp m)) H) ∧ (m ≤ 1000 → VShift (.int .i64 m) (H ++ [some (.rows g [e.cells])]) (.int .i64 (clamp m)) H) :=
          ⟨fun h => vid (by simp [clamp, h]), fun h => vid (by simp [clamp]; omega)⟩
        by_cases h : e.op = 7
        · by_cases h14 : e.m = 14
          · simp [h, h14, hne2]; exact fin
          · have h15 : e.m = 15 := by simp at h7; exact h7 h h14
            simp [h, h15, hne2]; exact fin
        · simp [h, hne2]; exact fin
end Go.Proofs.YtmilcpmhdokhgaaDoor
