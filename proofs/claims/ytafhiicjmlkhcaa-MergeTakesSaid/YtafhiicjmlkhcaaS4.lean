/- Same: statements are the same as themselves. -/
import Derived.Test.YtafhiicjmlkhcaaS3
set_option linter.unusedVariables false
set_option linter.unusedSimpArgs false
namespace Go.Proofs.Ytafhiicjmlkhcaa
open Go Go.RowKit Go.Proofs.Ytafhiicjmlkhcaa.Abs

set_option maxRecDepth 20000 in
set_option maxHeartbeats 4000000 in
theorem one_same {k : Nat} (ih : ∀ l : List St, St.sizeL l < k → PCall Try.prog 7 [.sl .no (St.rows l), .sl .no (St.rows l)] (.bool true)) (hk : k ≤ 900000000) (x : St) (hx : x.size < k + 1) :
    PCall Try.prog 13 [.agg x.cells, .agg x.cells] (.bool true) := by
  refine pcall_fn Code.ok13 (by simp [Code.f13]) fun H => ?_
  simp [Code.f13]
  intro g1 g2
  have hsz := St.size_eq x
  have := x.e.size_pos
  have hl1 := Ex.len_size x.l
  have hl2 := Arg.len_size x.args
  have hl3 := Arm.len_size x.arms
  refine CallK.pure (expr_same _ x.e (Nat.lt_succ_self _) (by omega)) ?_
  simp
  refine CallK.pure (expr_same _ x.i (Nat.lt_succ_self _) (by omega)) ?_
  simp
  refine CallK.pure (exprs_same x.l (by omega)) ?_
  simp
  refine LoopK.told (σ := Nat) (fun s => [(5, .int .i64 s), (2, .ptr H.length g1 0 0), (3, .ptr (H.length + 1) g2 0 0)]) (fun _ => H ++ [some (.rows g1 [x.cells]), some (.rows g2 [x.cells])]) (fun s => s ≤ x.args.length) (fun s => x.args.length - s) 0 ?_ ?_ ?_ ?_
  · simp
  · simp
  · simp
  intro i hi
  simp [Code.f13l0]
  refine ⟨fun h => ?_, fun h => ?_⟩
  · have h1 := Arg.size_mem h
    have h3 : x.args[i].size = 1 + x.args[i].e.size := rfl
    simp [List.getElem?_eq_getElem h]
    refine PCallK.pure (expr_same _ x.args[i].e (Nat.lt_succ_self _) (by omega)) ?_
    simp
    exact ⟨i + 1, by omega, by omega, wkn_int (wrap_id (by omega) (by omega))⟩
  refine LoopK.told (σ := Nat) (fun s => [(6, .int .i64 s), (2, .ptr H.length g1 0 0), (3, .ptr (H.length + 1) g2 0 0)]) (fun _ => H ++ [some (.rows g1 [x.cells]), some (.rows g2 [x.cells])]) (fun s => s ≤ x.arms.length) (fun s => x.arms.length - s) 0 ?_ ?_ ?_ ?_
  · simp
  · simp
  · simp
  intro j hj
  simp [Code.f13l1]
  refine ⟨fun h => ?_, fun h => ?_⟩
  · have h1 := Arm.size_mem h
    have h3 := Arm.size_eq x.arms[j]
    simp [List.getElem?_eq_getElem h]
    refine PCallK.pure (ints_same x.arms[j].labels (by omega)) ?_
    simp [List.getElem?_eq_getElem h]
    refine PCallK.pure (ih x.arms[j].body (by omega)) ?_
    simp
    exact ⟨j + 1, by omega, by omega, wkn_int (wrap_id (by omega) (by omega))⟩
  refine CallK.pure (ih x.body (by omega)) ?_
  simp
  refine CallK.pure (ih x.els (by omega)) ?_
  simp
  exact vshift_drop (.refl _) (.front _ _)

set_option maxRecDepth 20000 in
set_option maxHeartbeats 4000000 in
theorem stmts_same : ∀ (k : Nat), k ≤ 800000000 → ∀ l : List St, St.sizeL l < k → PCall Try.prog 7 [.sl .no (St.rows l), .sl .no (St.rows l)] (.bool true) := by
  intro k
  induction k with
  | zero => intro _ l h; omega
  | succ k ih =>
  intro hk l hl
  have hlen := St.len_size l
  refine pcall_fn Code.ok7 (by simp [Code.f7]) fun H => ?_
  simp [Code.f7]
  refine LoopK.told (σ := Nat) (fun s => [(5, .int .i64 s), (0, .sl .no (St.rows l)), (1, .sl .no (St.rows l))]) (fun _ => H) (fun s => s ≤ l.length) (fun s => l.length - s) 0 ?_ ?_ ?_ ?_
  · simp
  · simp
  · simp
  intro i hi
  simp [Code.f7l0]
  refine ⟨fun h => ?_, fun h => vshift_drop (.refl _) (.refl _)⟩
  have := St.size_mem h
  simp [List.getElem?_eq_getElem h]
  refine PCallK.pure (one_same (ih (by omega)) (by omega) l[i] (by omega)) ?_
  simp
  exact ⟨i + 1, by omega, by omega, wkn_int (wrap_id (by omega) (by omega))⟩
theorem same_call {l m : List St} (h : l = m) (hl : St.sizeL l < 700000000) : PCall Try.prog 7 [.sl .no (St.rows l), .sl .no (St.rows m)] (.bool true) := h ▸ stmts_same _ (by omega) l (Nat.lt_succ_self _)
end Go.Proofs.Ytafhiicjmlkhcaa
