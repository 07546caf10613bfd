/- How many statements one takes. -/
import Derived.Test.YtafhiicjmlkhcaaS8
set_option linter.unusedVariables false
set_option linter.unusedSimpArgs false
namespace Go.Proofs.Ytafhiicjmlkhcaa
open Go Go.RowKit Go.Proofs.Ytafhiicjmlkhcaa.Abs

theorem intRows_snoc (l : List Int) (n : Int) : intRows (l ++ [n]) = intRows l ++ [[.int .i64 n]] := by simp [intRows]
@[simp] theorem intRows_nil : intRows [] = [] := rfl
theorem intRows_mem {l : List Int} : ∀ r ∈ intRows l, r.length = 1 := by simp [intRows]
theorem nth_get {l : List St} {k : Nat} (h : k < l.length) : nth l k = l[k] := by simp [nth, List.getElem?_eq_getElem h]
/-- Costs that may be, at one level. -/
def CostOk (l : List St) : Prop := ∀ (j : Nat) (h : j < l.length), 0 ≤ l[j].cost ∧ l[j].cost ≤ 1048576

set_option maxRecDepth 20000 in
set_option maxHeartbeats 8000000 in
theorem ahead_ok (l : List St) (i : Nat) (hi : i < l.length) (hl : l.length ≤ 100000000) (hc : CostOk l) (ha : l[i].args.length ≤ 100000000) : PCall Try.prog 17 [.sl .no (St.rows l), .int .i64 i] (.int .i64 (ahead l i)) := by
  refine pcall_fn Code.ok17 (by simp [Code.f17]) fun H => ?_
  have hn := nth_get hi
  have hcx := hc i hi
  generalize hx : l[i] = x at ha hn hcx
  simp [Code.f17, List.getElem?_eq_getElem hi, hx]
  intro g
  have hx1 : (H ++ [some (.rows g [x.cells])])[H.length]? = some (some (.rows g [x.cells])) := by simp
  have hJ1 := (Ov.refl H).app [some (.rows g [x.cells])]
  generalize H ++ [some (.rows g [x.cells])] = J1 at hx1 hJ1 ⊢
  generalize hbxe : H.length = bx at hx1 ⊢
  have hbx : H.length ≤ bx := by omega
  clear hbxe
  refine LoopK.told (σ := Nat × Wh × AHeap) (fun s => [(7, .int .i64 s.1), (6, .sl (ownS s.2.1) (intRows ((x.args.take s.1).map (·.field)))), (5, .ptr bx g 0 0), (0, .sl .no (St.rows l)), (1, .int .i64 i)]) (fun s => s.2.2)
    (fun s => s.1 ≤ x.args.length ∧ WOk H.length s.2.1 ∧ TailAt s.2.2 s.2.1 1 ∧ Ov s.2.2 H ∧ s.2.2[bx]? = some (some (.rows g [x.cells]))) (fun s => x.args.length - s.1) (0, none, J1) ?_ ?_ ?_ ?_
  · exact ⟨by simp, by simp, by simp, hJ1, hx1⟩
  · simp
  · simp
  rintro ⟨j, w, J⟩ ⟨hj, hw, hT, hJ, hx2⟩
  simp only at hj hw hT hJ hx2
  simp [Code.f17l0, hx2]
  refine ⟨fun hjl => ?_, fun hjl => ?_⟩
  · have hjt := List.take_succ_eq_append_getElem hjl
    simp [List.getElem?_eq_getElem hjl]
    intro g2
    refine app_own hT hw hJ (by simp) intRows_mem (by simp) (by simp; omega) fun w3 J3 hT3 hw3 hJ3 hk3 => ?_
    simp
    refine ⟨j + 1, w3, J3, ⟨by omega, hw3, hT3, hJ3, hk3 _ _ _ hx2⟩, by omega, ⟨wkn_int (wrap_id (by omega) (by omega)), ?_⟩, .refl _⟩
    have e : List.take (j + 1) (List.map Arg.field x.args) = List.take j (List.map Arg.field x.args) ++ [x.args[j].field] := by rw [← List.map_take, hjt, List.map_append, List.map_take]; rfl
    rw [e, intRows_snoc]; exact .refl _
  rw [← List.map_take, List.take_of_length_le hjl]
  rw [wrap_id (n := (i : Int) - 1) (by omega) (by omega)]
  refine LoopK.told (σ := Nat × List Int × Int × Nat × Wh × AHeap) (fun s => [(10, .int .i64 ((s.1 : Int) - 1)), (9, .int .i64 s.2.2.2.1), (8, .int .i64 s.2.2.1), (6, .sl (ownS s.2.2.2.2.1) (intRows s.2.1)), (5, .ptr bx g 0 0), (0, .sl .no (St.rows l)), (1, .int .i64 i)]) (fun s => s.2.2.2.2.2)
    (fun s => s.1 ≤ i ∧ (x.kind = 5 → aheadK l x i i (x.args.map (·.field)) x.cost 0 = aheadK l x i s.1 s.2.1 s.2.2.1 s.2.2.2.1) ∧ (x.kind ≠ 5 → s.2.2.2.1 = 0) ∧ 0 ≤ s.2.2.1 ∧ s.2.2.1 ≤ 1048576 * (1 + i - s.1) ∧ s.2.1.length + s.1 ≤ x.args.length + i ∧ WOk H.length s.2.2.2.2.1 ∧ TailAt s.2.2.2.2.2 s.2.2.2.2.1 1 ∧ Ov s.2.2.2.2.2 H ∧ s.2.2.2.2.2[bx]? = some (some (.rows g [x.cells]))) (fun s => s.1) (i, x.args.map (·.field), x.cost, 0, w, J) ?_ ?_ ?_ ?_
  · exact ⟨Nat.le_refl _, fun _ => rfl, fun _ => rfl, hcx.1, by simp only; omega, by simp, hw, hT, hJ, hx2⟩
  · simp
  · simp
  rintro ⟨k, fs, c, n, w4, J4⟩ ⟨hk, ha5, ha0, hc0, hc1, hfs, hw4, hT4, hJ4, hx4⟩
  simp only at hk ha5 ha0 hc0 hc1 hfs hw4 hT4 hJ4 hx4
  have hx5 := fun l => get_app (l := l) hx4
  have hfin : ∀ m : Nat, ahead l i = m → VShift (.int .i64 m) J4 (.int .i64 (ahead l i)) H := fun m h => by rw [h]; exact vshift_drop (.refl _) hJ4.hwk
  cases k with
  | zero =>
    simp [Code.f17l1, hx4, hx5]
    refine hfin n ?_
    by_cases h5 : x.kind = 5
    · rw [ahead, hn, if_pos h5, ha5 h5, aheadK]
    · rw [ahead, hn, if_neg h5, ha0 h5]
  | succ k =>
  have hkl : k < l.length := by omega
  have hny := nth_get hkl
  have hcy := hc k hkl
  have e1 : (((k + 1 : Nat) : Int) - 1) = (k : Int) := by omega
  generalize hy : l[k] = y at hny hcy
  simp [Code.f17l1, hx4, hx5, List.getElem?_eq_getElem hkl, hy]
  refine ⟨fun h5 => ?_, fun h5 => hfin n ?_⟩
  · intro g5
    have hy1 : (J4 ++ [some (.rows g5 [y.cells])])[J4.length]? = some (some (.rows g5 [y.cells])) := by simp
    have hT6 := hT4.app [some (.rows g5 [y.cells])]
    have hJ6 := hJ4.app [some (.rows g5 [y.cells])]
    have hx6 := hx5 [some (.rows g5 [y.cells])]
    generalize J4 ++ [some (.rows g5 [y.cells])] = J6 at hy1 hT6 hJ6 hx6 ⊢
    generalize J4.length = by_ at hy1 ⊢
    have hfin : ∀ m : Nat, ahead l i = m → VShift (.int .i64 m) J6 (.int .i64 (ahead l i)) H := fun m h => by rw [h]; exact vshift_drop (.refl _) hJ6.hwk
    have hstep := ha5 h5
    rw [aheadK, hny] at hstep
    have hA : ahead l i = aheadK l x i i (x.args.map (·.field)) x.cost 0 := by rw [ahead, hn, if_pos h5]
    have hcw : IntKind.i64.wrap (c + y.cost) = c + y.cost := wrap_id (by omega) (by omega)
    rw [hcw]
    refine ⟨fun h0 => ?_, fun h0 => ⟨fun h4 => ⟨fun hnn => ⟨fun hcc => ?_, fun hcc => ?_⟩, fun hnn => ?_⟩, fun h4 => ?_⟩⟩
    · rw [if_pos h0] at hstep
      exact ⟨k, fs, c + y.cost, n, w4, J6, ⟨by omega, fun _ => hstep, fun h => absurd h5 h, by omega, by omega, by omega, hw4, hT6, hJ6, hx6⟩, by omega, ⟨wkn_int (wrap_id (by omega) (by omega)), .refl _, .refl _, .refl _⟩, .refl _⟩
    · refine hfin n ?_
      rw [if_neg h0, if_pos (by omega)] at hstep; rw [hA, hstep]
    · rw [if_neg h0, if_neg (by omega)] at hstep
      refine LoopK.told (σ := Nat) (fun s => [(12, .int .i64 s), (11, .ptr by_ g5 0 0), (10, .int .i64 k), (9, .int .i64 n), (8, .int .i64 (c + y.cost)), (6, .sl (ownS w4) (intRows fs)), (5, .ptr bx g 0 0), (0, .sl .no (St.rows l)), (1, .int .i64 i)]) (fun _ => J6)
        (fun s => s ≤ fs.length ∧ (y.m ∈ fs ↔ y.m ∈ fs.drop s)) (fun s => fs.length - s) 0 ?_ ?_ ?_ ?_
      · simp
      · simp
      · simp
      rintro q ⟨hq, hqm⟩
      simp [Code.f17l2, hx6, hy1]
      refine ⟨fun hql => ?_, fun hql => ?_⟩
      · have hqd := List.drop_eq_getElem_cons hql
        simp [List.getElem?_eq_getElem hql, hx6, hy1]
        refine ⟨fun he => hfin n ?_, fun he => ?_⟩
        · rw [hA, hstep, if_pos]; rw [hqm, hqd, he]; simp
        · refine ⟨q + 1, ⟨by omega, ?_⟩, by omega, wkn_int (wrap_id (by omega) (by omega))⟩
          rw [hqm, hqd, List.mem_cons]; exact ⟨fun h => h.resolve_left (fun e => he e.symm), .inr⟩
      · rw [if_neg (by rw [hqm, List.drop_eq_nil_of_le hql]; simp)] at hstep
        simp [hx6, hy1]
        intro g7
        refine app_own hT6 hw4 hJ6 (by simp) intRows_mem (by simp) (by simp; omega) fun w8 J8 hT8 hw8 hJ8 hk8 => ?_
        simp
        refine ⟨k, fs ++ [y.m], c + y.cost, i - k, w8, J8, ⟨by omega, fun _ => hstep, fun h => absurd h5 h, by omega, by omega, by simp; omega, hw8, hT8, hJ8, hk8 _ _ _ hx6⟩, by omega, ⟨wkn_int (wrap_id (by omega) (by omega)), wkn_int ?_, .refl _, ?_⟩, .refl _⟩
        · rw [wrap_id (by omega) (by omega)]; omega
        · rw [intRows_snoc]; exact .refl _
    · refine hfin n ?_
      rw [if_neg h0, if_pos (by simp [hnn])] at hstep; rw [hA, hstep]
    · refine hfin n ?_
      rw [if_neg h0, if_pos (by simp [h4])] at hstep; rw [hA, hstep]
  · rw [ahead, hn, if_neg h5, ha0 h5]
end Go.Proofs.Ytafhiicjmlkhcaa
