/- Normal forms: how many literals; the normal form. -/
import Derived.Test.YtmilcpmhdokhgaaDoorN2
set_option linter.unusedVariables false
set_option linter.unusedSimpArgs false
namespace Go.Proofs.YtmilcpmhdokhgaaDoor
open Go Go.RowKit Go.Proofs.YtmilcpmhdokhgaaDoor.Abs

def m25 (n : Int) : Int := if n < 25 then n else 25
def Ex.cnt (s : Sc) : Ex → Int := Ex.para fun e rs => if e.isOne then rs.getD 0 25 else if e.isTwo [14, 15] then m25 (rs.getD 0 0 + rs.getD 1 0) else if e.isTwo [16, 20, 21] then m25 (2 * (rs.getD 0 0 + rs.getD 1 0)) else if e.leaf s then 1 else 25
theorem Ex.cnt_eq (s : Sc) (e : Ex) : e.cnt s = if e.isOne then (e.l.map (Ex.cnt s)).getD 0 25 else if e.isTwo [14, 15] then m25 ((e.l.map (Ex.cnt s)).getD 0 0 + (e.l.map (Ex.cnt s)).getD 1 0)
    else if e.isTwo [16, 20, 21] then m25 (2 * ((e.l.map (Ex.cnt s)).getD 0 0 + (e.l.map (Ex.cnt s)).getD 1 0)) else if e.leaf s then 1 else 25 := Ex.para_eq _ e
theorem Ex.cnt_range (s : Sc) (e : Ex) : 0 ≤ e.cnt s ∧ e.cnt s ≤ 25 := by
  refine Ex.sized (p := fun e => 0 ≤ e.cnt s ∧ e.cnt s ≤ 25) ?_ e
  intro e ih
  rw [Ex.cnt_eq]
  cases h1 : e.isOne with
  | true =>
    obtain ⟨x, hx⟩ := Ex.one_l h1
    have i1 := ih 0 (by simp [hx])
    simp only [hx, List.getElem_cons_zero] at i1
    simp [hx]; exact i1
  | false =>
    have two : ∀ ops, e.isTwo ops = true → 0 ≤ (e.l.map (Ex.cnt s)).getD 0 0 + (e.l.map (Ex.cnt s)).getD 1 0 := by
      intro ops h2
      obtain ⟨x, y, hx⟩ := Ex.two_l h2
      have i1 := ih 0 (by simp [hx])
      have i2 := ih 1 (by simp [hx])
      simp only [hx, List.getElem_cons_zero, List.getElem_cons_succ] at i1 i2
      simp [hx]; omega
    cases h2 : e.isTwo [14, 15] with
    | true => have := two _ h2; simp only [m25]; simp only [Bool.false_eq_true, if_false, if_true]; split <;> omega
    | false =>
      cases h3 : e.isTwo [16, 20, 21] with
      | true => have := two _ h3; simp only [m25]; simp only [Bool.false_eq_true, if_false, if_true]; split <;> omega
      | false => simp; split <;> omega
set_option maxRecDepth 20000 in
set_option maxHeartbeats 2000000 in
theorem nnf_count (s : Sc) : ∀ (k : Nat), k ≤ 1000000000 → ∀ e : Ex, e.size < k → e.wf → PCall Tryd.prog 14 [.agg s.cells, .agg e.cells] (.int .i64 (e.cnt s)) := by
  intro k
  induction k with
  | zero => intro _ e h; omega
  | succ k ih =>
  intro hk e he hw
  have hsz := Ex.size_eq e
  have hw2 := hw
  rw [Ex.wf_eq] at hw2
  obtain ⟨_, _, _, hm, hwl⟩ := hw2
  refine pcall_fn Code.ok14 (by simp [Code.f14]) fun H => ?_
  have e0 := Ex.cnt_eq s e
  have two : ∀ ops, e.isTwo ops = true → ∃ x y, e.l = [x, y] ∧ ∀ (g1 g2 : Nat) (K : AV → AHeap → Prop), K (.int .i64 (x.cnt s + y.cnt s)) (H ++ [some (.rows g1 [s.cells]), some (.rows g2 [e.cells])]) →
      CallK Tryd.prog 42 [.ptr H.length g1 0 0, .ptr (H.length + 1) g2 0 0] (H ++ [some (.rows g1 [s.cells]), some (.rows g2 [e.cells])]) K := by
    intro ops h2
    obtain ⟨x, y, hx⟩ := Ex.two_l h2
    have hs := Ex.size_mem (l := e.l) (i := 0) (by simp [hx])
    have hwx := Ex.wf_mem (l := e.l) (i := 0) (by simp [hx]) hwl
    have hs2 := Ex.size_mem (l := e.l) (i := 1) (by simp [hx])
    have hwy := Ex.wf_mem (l := e.l) (i := 1) (by simp [hx]) hwl
    simp only [hx, List.getElem_cons_zero, List.getElem_cons_succ] at hs hwx hs2 hwy
    rw [hx] at hsz
    refine ⟨x, y, hx, fun g1 g2 K hK => acallsH Code.ok42 (by simp [Code.f42]) ?_ hK⟩
    simp [Code.f42, hx]
    refine PCallK.pure (ih (by omega) x (by omega) hwx) ?_
    simp [hx]
    refine PCallK.pure (ih (by omega) y (by omega) hwy) ?_
    simp
    have := Ex.cnt_range s x
    have := Ex.cnt_range s y
    rw [wrap_id (by omega) (by omega)]
    exact .refl _ _
  simp [Code.f14]
  intro g1 g2
  refine CallK.pure (nnf_one e) ?_
  cases h1 : e.isOne with
  | true =>
    obtain ⟨x, hx⟩ := Ex.one_l h1
    have hs := Ex.size_mem (l := e.l) (i := 0) (by simp [hx])
    have hwx := Ex.wf_mem (l := e.l) (i := 0) (by simp [hx]) hwl
    simp only [hx, List.getElem_cons_zero] at hs hwx
    rw [hx] at hsz
    simp [h1, hx] at e0
    rw [e0]
    simp [hx]
    refine PCallK.pure (ih (by omega) x (by omega) hwx) ?_
    simp
    exact vid rfl
  | false =>
    simp
    refine CallK.pure (nnf_two e .full [14, 15] (by simp)) ?_
    cases h2 : e.isTwo [14, 15] with
    | true =>
      obtain ⟨x, y, hx, hc⟩ := two _ h2
      simp [h1, h2, hx] at e0
      rw [e0]
      simp
      refine ⟨by rfl, hc g1 g2 _ ?_⟩
      simp
      exact vid rfl
    | false =>
      simp
      refine CallK.pure (nnf_two e .full [16, 20, 21] (by simp)) ?_
      cases h3 : e.isTwo [16, 20, 21] with
      | true =>
        obtain ⟨x, y, hx, hc⟩ := two _ h3
        simp [h1, h2, h3, hx] at e0
        rw [e0]
        simp
        refine ⟨by rfl, hc g1 g2 _ ?_⟩
        simp
        have := Ex.cnt_range s x
        have := Ex.cnt_range s y
        rw [wrap_id (by omega) (by omega)]
        exact vid rfl
      | false =>
        simp [h1, h2, h3] at e0
        rw [e0]
        simp
        refine CallK.pure (nnf_leaf s e (by omega) hw) ?_
        simp
        exact ⟨fun h => vid (by simp [h]), fun h => vid (by simp [h])⟩

/-- The count, by definition. -/
theorem Ex.cnt_many (s : Sc) (e : Ex) : e.cnt s = if e.truth s = true ∧ e.many ≤ 24 then e.many else 25 := by
  refine Ex.sized (p := fun e => e.cnt s = if e.truth s = true ∧ e.many ≤ 24 then e.many else 25) ?_ e
  intro e ih
  rw [Ex.cnt_eq, Ex.truth_eq, Ex.many_eq]
  cases h1 : e.isOne with
  | true =>
    obtain ⟨x, hx⟩ := Ex.one_l h1
    have i1 := ih 0 (by simp [hx])
    simp only [hx, List.getElem_cons_zero] at i1
    have hd : e.dbl = false := by simp [Ex.isOne] at h1; simp [Ex.dbl, h1.1]
    have := Ex.many_range x
    have e1 : clamp x.many = x.many := by rw [clamp, if_neg (by omega)]
    simp [Ex.one_leaf s h1, hx, hd, e1, i1]
  | false =>
    have two : ∀ ops, e.isTwo ops = true → ∃ x y, e.l = [x, y] ∧ x.cnt s = (if x.truth s = true ∧ x.many ≤ 24 then x.many else 25) ∧ y.cnt s = (if y.truth s = true ∧ y.many ≤ 24 then y.many else 25) := by
      intro ops h2
      obtain ⟨x, y, hx⟩ := Ex.two_l h2
      have i1 := ih 0 (by simp [hx])
      have i2 := ih 1 (by simp [hx])
      simp only [hx, List.getElem_cons_zero, List.getElem_cons_succ] at i1 i2
      exact ⟨x, y, hx, i1, i2⟩
    cases h2 : e.isTwo [14, 15] with
    | true =>
      obtain ⟨x, y, hx, i1, i2⟩ := two _ h2
      have hd : e.dbl = false := by simp [Ex.isTwo] at h2; simp [Ex.dbl, h2.1]; omega
      have := Ex.many_range x
      have := Ex.many_range y
      simp [Ex.two_leaf s h2, hx, hd, i1, i2, clamp, m25]
      cases x.truth s <;> cases y.truth s <;> simp
      all_goals (repeat' split) <;> omega
    | false =>
      cases h3 : e.isTwo [16, 20, 21] with
      | true =>
        obtain ⟨x, y, hx, i1, i2⟩ := two _ h3
        have hd : e.dbl = true := by simp [Ex.isTwo] at h3; simp [Ex.dbl, h3.1]; omega
        have := Ex.many_range x
        have := Ex.many_range y
        simp [Ex.two_leaf s h3, hx, hd, i1, i2, clamp, m25]
        cases x.truth s <;> cases y.truth s <;> simp
        all_goals (repeat' split) <;> omega
      | false =>
        cases hl : e.leaf s with
        | false => simp
        | true =>
          have hL := Ex.leaf_l hl
          have hd : e.dbl = false := by
            simp [Ex.leaf, Ex.lop] at hl
            simp [Ex.dbl]; omega
          simp [hL, hd, clamp]
theorem r43_count (s : Sc) (e : Ex) (he : e.size < 1000000000) : PCall Tryd.prog 15 [.agg s.cells, .agg e.cells] (.int .i64 (e.cnt s)) := by
  refine pcall_fn Code.ok15 (by simp [Code.f15]) fun H => ?_
  rw [Ex.cnt_many]
  simp [Code.f15]
  intro g1 g2
  refine CallK.pure (r43_truth s _ (Nat.le_refl _) e he) ?_
  cases ht : e.truth s with
  | false => simp; exact vid rfl
  | true =>
    simp
    refine CallK.pure (r43_many _ (Nat.le_refl _) e he) ?_
    simp
    refine ⟨fun h => vid (by rw [if_neg (by omega)]), fun h => ?_⟩
    refine CallK.pure (r43_many _ (Nat.le_refl _) e he) ?_
    simp
    exact vid (by rw [if_pos h])
end Go.Proofs.YtmilcpmhdokhgaaDoor
