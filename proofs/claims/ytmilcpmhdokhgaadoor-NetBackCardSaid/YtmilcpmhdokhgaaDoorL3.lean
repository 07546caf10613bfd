/- Fitting cases; few expressions. -/
import Derived.Test.YtmilcpmhdokhgaaDoorL2
import Derived.Test.YtmilcpmhdokhgaaDoorS1
set_option linter.unusedVariables false
set_option linter.unusedSimpArgs false
namespace Go.Proofs.YtmilcpmhdokhgaaDoor
open Go Go.RowKit Go.Proofs.YtmilcpmhdokhgaaDoor.Abs

theorem few26' (e : Ex) (most : Int) (hm : most ≤ 1000000) : RCall Tryd.prog 7 [.agg e.cells, .int .i64 most] (IsB ((e.size : Int) ≤ most)) := by
  refine rcall_fn Code.ok7 (by simp [Code.f7]) fun H => ?_
  simp [Code.f7]
  intro g
  refine CallK.pure (room_call e hm (by omega)) ?_
  simp
  refine end_rel (IsB.mk fun h => ?_) (.front _ _)
  have := Ex.room_size e most 40 (by simpa using h)
  have := of_decide_eq_true h
  omega
set_option maxRecDepth 20000 in
set_option maxHeartbeats 8000000 in
theorem fits27_ok (c : Cs) : RCall Tryd.prog 6 [.agg c.cells] (IsB c.p.few) := by
  refine rcall_fn Code.ok6 (by simp [Code.f6]) fun H => ?_
  simp [Code.f6]
  intro g
  refine CallK.rel (few16_ok _) ?_
  rintro _ ⟨b, rfl, hb⟩
  cases b
  · simp; exact end_f
  have hp := hb rfl
  simp
  refine CallK.rel (short_ok _) ?_
  rintro _ ⟨b, rfl, hb⟩
  cases b
  · simp; exact end_f
  have hs := hb rfl
  simp
  refine ⟨fun hsl => ?_, fun _ => end_f⟩
  refine CallK.rel (fits23_ok _ _ _ hs) ?_
  rintro _ ⟨b, rfl, _⟩
  cases b
  · simp; exact end_f
  simp
  refine CallK.rel (scope17_ok _ hp _) ?_
  rintro _ ⟨s, rfl⟩
  simp
  refine ⟨fun _ => end_f, fun hl => ?_⟩
  refine LoopK.told (σ := Nat) (fun i => [(4, .int .i64 i), (3, .sl .no (intRows s.slots)), (1, .ptr H.length g 0 0)]) (fun _ => H ++ [some (.rows g [c.cells])]) (fun i => i ≤ s.slots.length) (fun i => s.slots.length - i) 0 ?_ ?_ ?_ ?_
  · simp
  · simp
  · simp
  intro i hi
  simp [Code.f6l0]
  refine ⟨fun h => ?_, fun h => end_bd fun _ => hp⟩
  have h' : i < c.slots.length := by omega
  simp [List.getElem?_eq_getElem h]
  refine PCallK.pure (r01_right _) ?_
  simp
  refine ⟨fun _ => ?_, fun _ => end_f⟩
  simp [List.getElem?_eq_getElem h, List.getElem?_eq_getElem h']
  refine PCallK.pure (r01_in _ _) ?_
  simp
  exact ⟨fun _ => end_f, fun _ => ⟨i + 1, by omega, by omega, wkn_int (wrap_id (by omega) (by omega))⟩⟩
end Go.Proofs.YtmilcpmhdokhgaaDoor
