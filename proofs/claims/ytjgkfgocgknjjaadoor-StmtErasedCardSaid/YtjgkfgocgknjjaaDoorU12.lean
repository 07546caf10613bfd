/- Right: calls of units; what has no statements. -/
import Derived.Test.YtjgkfgocgknjjaaDoorU11
set_option linter.unusedVariables false
set_option linter.unusedSimpArgs false
namespace Go.Proofs.YtjgkfgocgknjjaaDoor
open Go Go.RowKit Go.Proofs.YtjgkfgocgknjjaaDoor.Abs

def callL (s : Sc) : List Ex → List Int → Bool
  | [], [] => true
  | e :: l, t :: m => decide (e.ty s ≠ 0 ∧ e.ty s = t) && callL s l m
  | [], _ :: _ => false
  | _ :: _, [] => false
theorem callL_drop (s : Sc) {l : List Ex} {m : List Int} {i : Nat} (h : i < l.length) (h' : i < m.length) : callL s (l.drop i) (m.drop i) = (decide (l[i].ty s ≠ 0 ∧ l[i].ty s = m[i]) && callL s (l.drop (i + 1)) (m.drop (i + 1))) := by
  rw [List.drop_eq_getElem_cons h, List.drop_eq_getElem_cons h', callL]
def callB (s : Sc) (n m : Int) (l : List Ex) : Bool := match s.sigs[n.toNat]? with
  | some g => decide (1 ≤ n ∧ l.length = g.params.length) && callL s l g.params && (decide (m = -1) || (decide (0 ≤ m ∧ m < s.slots.length) && kR g.result && decide (s.slots[m.toNat]? = some g.result)))
  | none => false

set_option maxRecDepth 20000 in
set_option maxHeartbeats 4000000 in
theorem call_ok (s : Sc) (loop : Int) (x : St) (hx : x.size < 900000000) (hw : Ex.wfL x.l) : PCall Tryd.prog 52 [.agg (s.pl loop), .agg x.cells] (.bool (callB s x.n x.m x.l)) := by
  have hsz := St.size_eq x
  have hl1 := Ex.len_size x.l
  refine pcall_fn Code.ok52 (by simp [Code.f52]) fun H => ?_
  by_cases h1 : x.n < 1
  · have e0 : callB s x.n x.m x.l = false := by
      unfold callB; split
      · have : ¬ 1 ≤ x.n := by omega
        simp [this]
      · rfl
    rw [e0]
    simp [Code.f52, h1]
    intro g1 g2
    exact vbd rfl
  by_cases h2 : x.n < s.sigs.length
  rotate_left
  · have e0 : callB s x.n x.m x.l = false := by unfold callB; rw [List.getElem?_eq_none (by omega)]
    have h2' : (s.sigs.length : Int) ≤ x.n := by omega
    rw [e0]
    simp [Code.f52, h1, h2']
    intro g1 g2
    exact vbd rfl
  have h2' : ¬ (s.sigs.length : Int) ≤ x.n := by omega
  have h3 : x.n.toNat < s.sigs.length := by omega
  have h4 : 0 ≤ x.n := by omega
  have h4' : 1 ≤ x.n := by omega
  have hg := List.getElem?_eq_getElem h3
  unfold callB
  rw [hg]
  have hG : ∀ h, s.sigs[x.n.toNat]'h = s.sigs[x.n.toNat]'h3 := fun _ => rfl
  generalize hgd : s.sigs[x.n.toNat]'h3 = g at hg hG
  by_cases h5 : x.l.length = g.params.length
  rotate_left
  · simp [Code.f52, h1, h2, h2', h3, h4, hG, h5]
    intro g1 g2
    repeat' (first | exact vbd rfl | (exfalso; omega) | apply And.intro | intro _)
  simp [Code.f52, h1, h2, h2', h3, h4, h4', hG, h5]
  intro g1 g2
  refine LoopK.told (σ := Nat) (fun z => [(39, .int .i64 z), (38, .int .i64 x.l.length), (37, .sl .no (Ex.rows x.l)), (2, .ptr H.length g1 0 0), (3, .ptr (H.length + 1) g2 0 0)])
    (fun z => H ++ [some (.rows g1 [s.pl loop]), some (.rows g2 [x.cells])])
    (fun z => z ≤ x.l.length ∧ callL s x.l g.params = callL s (x.l.drop z) (g.params.drop z)) (fun z => x.l.length - z) 0 ?_ ?_ ?_ ?_
  · simp
  · simp [h5]
  · simp
  rintro i ⟨hi, hb⟩
  simp [Code.f52l0]
  refine ⟨fun h => ?_, fun h => ?_⟩
  · have h' : i < g.params.length := by omega
    have hs := Ex.size_mem h
    have hwe := Ex.wf_mem h hw
    have hge := List.getElem?_eq_getElem h
    rw [callL_drop s h h'] at hb
    generalize x.l[i] = e at hs hwe hge hb
    simp [hge]
    intro g4
    refine CallK.pure (type_ok s _ (Nat.le_refl _) e (by omega) hwe) ?_
    simp
    by_cases h6 : e.ty s = 0
    · simp [h6]
      rw [hb]; exact vbd (by simp [h6])
    by_cases h7 : e.ty s = g.params[i]
    rotate_left
    · simp [h6, h2, h3, h4, hG, h', h7, h5]
      rw [hb]; exact vbd (by simp [h7])
    have h6' : g.params[i] ≠ 0 := h7 ▸ h6
    simp [h6', h2, h3, h4, hG, h', h7, h5]
    refine ⟨i + 1, ⟨by omega, ?_⟩, by omega, wkn_int (wrap_id (by omega) (by omega)), ?_⟩
    · rw [hb]; simp [h7, h6']
    · exact hwk_app (by simp)
  have hL : callL s x.l g.params = true := by rw [hb, List.drop_eq_nil_of_le h, List.drop_eq_nil_of_le (by omega)]; rfl
  rw [hL]
  simp [h2, h3, h4, hG]
  by_cases h6 : x.m = -1
  · simp [h6]; exact vbd rfl
  by_cases h7 : x.m < 0
  · have h8 : ¬ 0 ≤ x.m := by omega
    simp [h6, h8]; repeat' (first | exact vbd rfl | (exfalso; omega) | apply And.intro | intro _)
  have h8 : 0 ≤ x.m := by omega
  by_cases h9 : x.m < s.slots.length
  rotate_left
  · simp [h6, h8, h9]; repeat' (first | exact vbd rfl | (exfalso; omega) | apply And.intro | intro _)
  have h10 : x.m.toNat < s.slots.length := by omega
  have h8' : ¬ x.m < 0 := by omega
  have h9' : ¬ (s.slots.length : Int) ≤ x.m := by omega
  simp [h6, h8, h8', h9, h9', h10]
  refine CallK.pure (kind_right _) ?_
  cases h11 : kR g.result
  · simp; exact vbd (by simp [h6])
  simp [h6, h8, h9, h10]
  exact vbd rfl

def plainB (s : Sc) (x : St) (t : Int) : Bool :=
  if x.kind = 1 ∨ x.kind = 3 then (match s.vars[x.n.toNat]? with
    | some v => decide (0 ≤ x.n ∧ t ≠ 0 ∧ v.t = t) && (decide (1 < v.n) == decide (x.kind = 3)) && (!decide (x.kind = 3) || decide (x.i.ty s = 2))
    | none => false)
  else if x.kind = 2 then decide (0 ≤ x.n) && decide (s.slots[x.n.toNat]? = some t) && kR t
  else if x.kind = 4 then inputB s x.n x.m x.e
  else if x.kind = 5 then blockB s x.n [] x.args
  else if x.kind = 6 then callB s x.n x.m x.l
  else false
set_option maxRecDepth 20000 in
set_option maxHeartbeats 4000000 in
theorem plain_ok (s : Sc) (loop : Int) (x : St) (t : Int) (hx : x.size < 900000000) (hw1 : x.e.wf) (hw2 : x.i.wf) (hw3 : Ex.wfL x.l) (hw4 : Arg.wfL x.args) :
    PCall Tryd.prog 45 [.agg (s.pl loop), .agg x.cells, .int .i64 t] (.bool (plainB s x t)) := by
  have hsz := St.size_eq x
  refine pcall_fn Code.ok45 (by simp [Code.f45]) fun H => ?_
  by_cases k13 : x.kind = 1 ∨ x.kind = 3
  · have e0 : plainB s x t = (match s.vars[x.n.toNat]? with
      | some v => decide (0 ≤ x.n ∧ t ≠ 0 ∧ v.t = t) && (decide (1 < v.n) == decide (x.kind = 3)) && (!decide (x.kind = 3) || decide (x.i.ty s = 2))
      | none => false) := by rw [plainB, if_pos k13]
    rw [e0]
    by_cases h1 : x.n < 0
    · have h1' : ¬ 0 ≤ x.n := by omega
      have e1 : (match s.vars[x.n.toNat]? with
        | some v => decide (0 ≤ x.n ∧ t ≠ 0 ∧ v.t = t) && (decide (1 < v.n) == decide (x.kind = 3)) && (!decide (x.kind = 3) || decide (x.i.ty s = 2))
        | none => false) = false := by split <;> simp [h1']
      rw [e1]
      rcases k13 with k | k <;>
      · simp [Code.f45, k, h1]
        intro g1 g2
        exact vbd rfl
    have h1' : 0 ≤ x.n := by omega
    by_cases h2 : x.n < s.vars.length
    rotate_left
    · have h2' : (s.vars.length : Int) ≤ x.n := by omega
      rw [List.getElem?_eq_none (by omega)]
      rcases k13 with k | k <;>
      · simp [Code.f45, k, h1, h2']
        intro g1 g2
        exact vbd rfl
    have h2' : ¬ (s.vars.length : Int) ≤ x.n := by omega
    have h3 : x.n.toNat < s.vars.length := by omega
    have hg := List.getElem?_eq_getElem h3
    rw [hg]
    have hG : ∀ h, s.vars[x.n.toNat]'h = s.vars[x.n.toNat]'h3 := fun _ => rfl
    generalize hgd : s.vars[x.n.toNat]'h3 = v at hg hG
    by_cases ht : t = 0
    · rcases k13 with k | k <;>
      · simp [Code.f45, k, h1, h2', ht]
        intro g1 g2
        exact vbd rfl
    by_cases hv : v.t = t
    rotate_left
    · rcases k13 with k | k <;>
      · simp [Code.f45, k, h1, h1', h2, h2', h3, hG, ht, hv]
        intro g1 g2 g3
        exact vbd rfl
    rcases k13 with k | k
    · simp [Code.f45, k, h1, h1', h2, h2', h3, hG, ht, hv]
      intro g1 g2 g3
      by_cases hn : 1 < v.n
      · have hn' : ¬ v.n ≤ 1 := by omega
        simp [hn, hn']; repeat' (first | exact vbd rfl | (exfalso; omega) | apply And.intro | intro _)
      · have hn' : v.n ≤ 1 := by omega
        simp [hn, hn']; repeat' (first | exact vbd rfl | (exfalso; omega) | apply And.intro | intro _)
    · simp [Code.f45, k, h1, h1', h2, h2', h3, hG, ht, hv]
      intro g1 g2 g3
      by_cases hn : 1 < v.n
      · have hn' : ¬ v.n ≤ 1 := by omega
        simp [hn, hn']
        refine CallK.pure (type_ok s _ (Nat.le_refl _) x.i (by omega) hw2) ?_
        simp; exact vbd (by simp [hn])
      · have hn' : v.n ≤ 1 := by omega
        simp [hn, hn']; repeat' (first | exact vbd rfl | (exfalso; omega) | apply And.intro | intro _)
  have k1 : x.kind ≠ 1 := fun h => k13 (.inl h)
  have k3 : x.kind ≠ 3 := fun h => k13 (.inr h)
  rw [plainB, if_neg k13]
  by_cases k2 : x.kind = 2
  · rw [if_pos k2]
    by_cases h1 : 0 ≤ x.n
    rotate_left
    · simp [Code.f45, k2, h1]
      intro g1 g2
      repeat' (first | exact vbd rfl | (exfalso; omega) | apply And.intro | intro _)
    by_cases h2 : x.n < s.slots.length
    rotate_left
    · rw [List.getElem?_eq_none (by omega)]
      simp [Code.f45, k2, h1, h2]
      intro g1 g2
      repeat' (first | exact vbd rfl | (exfalso; omega) | apply And.intro | intro _)
    have h3 : x.n.toNat < s.slots.length := by omega
    by_cases h4 : s.slots[x.n.toNat] = t
    rotate_left
    · simp [Code.f45, k2, h1, h2, h3, h4]
      intro g1 g2
      exact vbd rfl
    simp [Code.f45, k2, h1, h2, h3, h4]
    intro g1 g2
    refine CallK.pure (kind_right _) ?_
    simp
    exact vbd rfl
  rw [if_neg k2]
  by_cases k4 : x.kind = 4
  · rw [if_pos k4]
    simp [Code.f45, k4]
    intro g1 g2
    refine CallK.pure (input_ok s loop _ _ x.e (by omega) hw1) ?_
    simp; exact vbd rfl
  rw [if_neg k4]
  by_cases k5 : x.kind = 5
  · rw [if_pos k5]
    simp [Code.f45, k5]
    intro g1 g2
    refine CallK.pure (block_ok s loop x hx hw4) ?_
    simp; exact vbd rfl
  rw [if_neg k5]
  by_cases k6 : x.kind = 6
  · rw [if_pos k6]
    simp [Code.f45, k6]
    intro g1 g2
    refine CallK.pure (call_ok s loop x hx hw3) ?_
    simp; exact vbd rfl
  rw [if_neg k6]
  simp [Code.f45, k1, k2, k3, k4, k5, k6]
  intro g1 g2
  exact vbd rfl
end Go.Proofs.YtjgkfgocgknjjaaDoor
