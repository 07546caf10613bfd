/- Same: a thing is the same as itself. -/
import Derived.Test.YtafhiicjmlkhcaaS2
set_option linter.unusedVariables false
set_option linter.unusedSimpArgs false
namespace Go.Proofs.Ytafhiicjmlkhcaa
open Go Go.RowKit Go.Proofs.Ytafhiicjmlkhcaa.Abs

set_option maxRecDepth 20000 in
set_option maxHeartbeats 2000000 in
theorem ints_same (l : List Int) (hl : l.length ≤ 1000000000) : PCall Try.prog 22 [.sl .no (intRows l), .sl .no (intRows l)] (.bool true) := by
  refine pcall_fn Code.ok22 (by simp [Code.f22]) fun H => ?_
  simp [Code.f22]
  refine LoopK.told (σ := Nat) (fun s => [(5, .int .i64 s), (0, .sl .no (intRows l)), (1, .sl .no (intRows l))]) (fun _ => H) (fun s => s ≤ l.length) (fun s => l.length - s) 0 ?_ ?_ ?_ ?_
  · simp
  · simp
  · simp
  intro i hi
  simp [Code.f22l0]
  refine ⟨fun h => ?_, fun h => vshift_drop (.refl _) (.refl _)⟩
  simp [List.getElem?_eq_getElem h]
  exact ⟨i + 1, by omega, by omega, wkn_int (wrap_id (by omega) (by omega))⟩

set_option maxRecDepth 20000 in
set_option maxHeartbeats 2000000 in
theorem expr_same : ∀ (k : Nat) (e : Ex), e.size < k → k ≤ 1000000000 → PCall Try.prog 20 [.agg e.cells, .agg e.cells] (.bool true) := by
  intro k
  induction k with
  | zero => intro e h; omega
  | succ k ih =>
  intro e he hk
  refine pcall_fn Code.ok20 (by simp [Code.f20]) fun H => ?_
  simp [Code.f20]
  intro g1 g2
  have hsz := Ex.size_eq e
  have hlen := Ex.len_size e.l
  refine LoopK.told (σ := Nat) (fun s => [(5, .int .i64 s), (2, .ptr H.length g1 0 0), (3, .ptr (H.length + 1) g2 0 0)]) (fun _ => H ++ [some (.rows g1 [e.cells]), some (.rows g2 [e.cells])]) (fun s => s ≤ e.l.length) (fun s => e.l.length - s) 0 ?_ ?_ ?_ ?_
  · simp
  · simp
  · simp
  intro i hi
  simp [Code.f20l0]
  refine ⟨fun h => ?_, fun h => vshift_drop (.refl _) (.front _ _)⟩
  have := Ex.size_mem h
  simp [List.getElem?_eq_getElem h]
  refine PCallK.pure (ih e.l[i] (by omega) (by omega)) ?_
  simp
  exact ⟨i + 1, by omega, by omega, wkn_int (wrap_id (by omega) (by omega))⟩

set_option maxRecDepth 20000 in
set_option maxHeartbeats 2000000 in
theorem exprs_same (l : List Ex) (hl : Ex.sizeL l < 1000000000) : PCall Try.prog 21 [.sl .no (Ex.rows l), .sl .no (Ex.rows l)] (.bool true) := by
  have hlen := Ex.len_size l
  refine pcall_fn Code.ok21 (by simp [Code.f21]) fun H => ?_
  simp [Code.f21]
  refine LoopK.told (σ := Nat) (fun s => [(5, .int .i64 s), (0, .sl .no (Ex.rows l)), (1, .sl .no (Ex.rows l))]) (fun _ => H) (fun s => s ≤ l.length) (fun s => l.length - s) 0 ?_ ?_ ?_ ?_
  · simp
  · simp
  · simp
  intro i hi
  simp [Code.f21l0]
  refine ⟨fun h => ?_, fun h => vshift_drop (.refl _) (.refl _)⟩
  have := Ex.size_mem h
  simp [List.getElem?_eq_getElem h]
  refine PCallK.pure (expr_same _ l[i] (Nat.lt_succ_self _) (by omega)) ?_
  simp
  exact ⟨i + 1, by omega, by omega, wkn_int (wrap_id (by omega) (by omega))⟩
end Go.Proofs.Ytafhiicjmlkhcaa
