/- Expressions, apart. -/
import Derived.Test.YtjgkfgocgknjjaaDoorU6
set_option linter.unusedVariables false
set_option linter.unusedSimpArgs false
namespace Go.Proofs.YtjgkfgocgknjjaaDoor
open Go Go.RowKit Go.Proofs.YtjgkfgocgknjjaaDoor.Abs

theorem Ex.rows_mem {l : List Ex} : ∀ r ∈ Ex.rows l, r.length = 5 := by
  intro r hr
  induction l with
  | nil => simp [Ex.rows] at hr
  | cons x l ih => rw [Ex.rows, List.mem_cons] at hr; rcases hr with rfl | h; simp; exact ih h
theorem Ex.rows_snoc (l : List Ex) (x : Ex) : Ex.rows (l ++ [x]) = Ex.rows l ++ [x.cells] := by
  induction l with
  | nil => simp [Ex.rows]
  | cons y r ih => simp [Ex.rows, ih]
set_option maxRecDepth 20000 in
set_option maxHeartbeats 4000000 in
theorem copied_ok : ∀ (k : Nat), k ≤ 800000000 → ∀ e : Ex, e.size < k → PCall Tryd.prog 20 [.agg e.cells] (.agg e.cells) := by
  intro k
  induction k with
  | zero => intro _ e h; omega
  | succ k ih =>
  intro hk e he
  have hsz := Ex.size_eq e
  have hlen := Ex.len_size e.l
  refine pcall_fn Code.ok20 (by simp [Code.f20]) fun H => ?_
  simp [Code.f20]
  intro g1 g2 g3
  rw [Ex.cells_eq e]
  simp
  refine LoopK.told (σ := Nat × Wh × AHeap) (fun s => [(11, .int .i64 s.1), (10, .int .i64 e.l.length), (9, .sl .no (Ex.rows e.l)), (3, .ptr (H.length + 2) g3 0 0), (2, .ptr (H.length + 1) g2 0 0)]) (fun s => s.2.2)
    (fun s => s.1 ≤ e.l.length ∧ WOk H.length s.2.1 ∧ TailAt s.2.2 s.2.1 5 ∧ Ov s.2.2 H ∧ s.2.2[H.length + 1]? = some (some (.rows g2 [[.int .i64 0, .int .i64 0, .int .i64 0, .int .i64 0, .sl .full []]])) ∧
      s.2.2[H.length + 2]? = some (some (.rows g3 [[.int .i64 e.op, .int .i64 e.t, .int .i64 e.n, .int .i64 e.m, .sl (ownS s.2.1) (Ex.rows (e.l.take s.1))]]))) (fun s => e.l.length - s.1) (0, none, _) ?_ ?_ (.refl _) ?_
  · exact ⟨by simp, by simp, by simp, (Ov.refl H).app _, by simp, by simp [ownS, Ex.rows]⟩
  · simp
  rintro ⟨i, w, J⟩ ⟨hi, hw, hT, hJ, hx2, hx3⟩
  simp only at hi hw hT hJ hx2 hx3
  simp [Code.f20l0]
  refine ⟨fun h => ?_, fun h => ?_⟩
  · have ht := List.take_succ_eq_append_getElem h
    have hs := Ex.size_mem h
    have hjl := hJ.len
    have h2 := get_lt hx2
    have h3 := get_lt hx3
    simp [List.getElem?_eq_getElem h]
    intro g4
    have hx2' := get_app (l := [some (Blk.rows g4 [e.l[i].cells])]) hx2
    have hx3' := get_app (l := [some (Blk.rows g4 [e.l[i].cells])]) hx3
    simp [hx3']
    refine PCallK.pure (ih (by omega) e.l[i] (by omega)) ?_
    simp
    intro g5
    refine app_own (hT.app _) hw (hJ.app _) (by simp) Ex.rows_mem (by simp) (by simp; omega) fun w3 J3 hT3 hw3 hJ3 hk3 => ?_
    have hy2 := hk3 _ _ _ hx2'
    have hy3 := hk3 _ _ _ hx3'
    have hs1 := fun y => List.getElem?_set_self (a := y) (get_lt hy3)
    simp [hy3]
    refine ⟨i + 1, w3, _, ⟨by omega, hw3, hT3.set hy3, hJ3.set (by omega) _, ?_, ?_⟩, by omega, wkn_int (wrap_id (by omega) (by omega)), .refl _⟩
    · rw [List.getElem?_set_ne (by omega)]; exact hy2
    · rw [hs1, ht, Ex.rows_snoc]
  · rw [List.take_of_length_le h] at hx3
    simp [hx3, hx2]
    have hs1 := fun y => List.getElem?_set_self (a := y) (get_lt hx2)
    simp [hs1]
    exact vshift_drop (wkn_agg (by simp)) (hJ.set (by omega) _).hwk
end Go.Proofs.YtjgkfgocgknjjaaDoor
