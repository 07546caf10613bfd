/- Statements without their costs: the program. -/
import Derived.Test.YtjgkfgocgknjjaaDoorU8
set_option linter.unusedVariables false
set_option linter.unusedSimpArgs false
namespace Go.Proofs.YtjgkfgocgknjjaaDoor
open Go Go.RowKit Go.Proofs.YtjgkfgocgknjjaaDoor.Abs

theorem copiede (e : Ex) (h : e.size < 700000000) : PCall Tryd.prog 20 [.agg e.cells] (.agg e.cells) := copied_ok 700000000 (by omega) e h
def yc (x : St) (a b c : AV) : List AV := [.int .i64 x.kind, .int .i64 0, .int .i64 x.n, .int .i64 x.m, .int .i64 x.e.op, .int .i64 x.e.t, .int .i64 x.e.n, .int .i64 x.e.m, .sl .no (Ex.rows x.e.l),
      .int .i64 x.i.op, .int .i64 x.i.t, .int .i64 x.i.n, .int .i64 x.i.m, .sl .no (Ex.rows x.i.l), a, b, .sl .no (St.rows (St.erL x.body)), .sl .no (St.rows (St.erL x.els)), c]

set_option maxRecDepth 20000 in
set_option maxHeartbeats 8000000 in
theorem erase_ok : ∀ (k : Nat), k ≤ 600000000 → ∀ l : List St, St.sizeL l < k → PCall Tryd.prog 8 [.sl .no (St.rows l)] (.sl .no (St.rows (St.erL l))) := by
  intro k
  induction k with
  | zero => intro _ l h; omega
  | succ k ih =>
  intro hk l hl
  have hlen0 := St.len_size l
  refine pcall_fn Code.ok8 (by simp [Code.f8]) fun H => ?_
  simp [Code.f8]
  refine LoopK.told (σ := Nat × Wh × AHeap) (fun s => [(15, .int .i64 s.1), (14, .int .i64 l.length), (13, .sl .no (St.rows l)), (3, .sl (ownS s.2.1) (St.rows (St.erL (l.take s.1))))]) (fun s => s.2.2)
    (fun s => s.1 ≤ l.length ∧ WOk H.length s.2.1 ∧ TailAt s.2.2 s.2.1 19 ∧ Ov s.2.2 H) (fun s => l.length - s.1) (0, none, H) ?_ ?_ ?_ ?_
  · simp [Ov.refl]
  · simp [St.erL, St.rows]
  · simp
  rintro ⟨i, w, J⟩ ⟨hi, hw, hT, hJ⟩
  simp only at hi hw hT hJ
  simp [Code.f8l0]
  refine ⟨fun h => ?_, fun h => ?_⟩
  · have hs := St.size_mem h
    have hse := St.size_eq l[i]
    have hal := Arm.len_size l[i].arms
    have hl1 := Ex.len_size l[i].l
    have hl2 := Arg.len_size l[i].args
    have ht := congrArg St.erL (List.take_succ_eq_append_getElem h)
    have hg := List.getElem?_eq_getElem h
    have hel := St.erL_len (l.take i)
    have := l[i].e.size_pos
    have := l[i].i.size_pos
    generalize l[i] = x at *
    rw [St.erL_app] at ht
    by_cases hk0 : x.kind = 0
    · simp [hg, hk0]
      intro g
      refine ⟨i + 1, w, _, ⟨by omega, hw, hT.app _, hJ.app _⟩, by omega, ⟨wkn_int (wrap_id (by omega) (by omega)), ?_⟩, .refl _⟩
      rw [ht]; simp [St.erL, hk0]
    simp [hg, hk0]
    intro g
    refine PCallK.pure (copiede x.e (by omega)) ?_
    simp [hg]
    refine PCallK.pure (copiede x.i (by omega)) ?_
    simp [hg]
    refine PCallK.pure (ih (by omega) x.body (by omega)) ?_
    simp [hg]
    refine PCallK.pure (ih (by omega) x.els (by omega)) ?_
    simp
    intro g2
    rw [Ex.cells_eq x.e, Ex.cells_eq x.i]
    have hbx := hJ.len
    generalize hJe : J ++ [some (Blk.rows g [x.cells]), some (Blk.rows g2 [_])] = J1
    have hx1 : J1[J.length]? = some (some (.rows g [x.cells])) := by rw [← hJe]; simp
    have hy1 : J1[J.length + 1]? = some (some (.rows g2 [yc x (.sl .full []) (.sl .full []) (.sl .full [])])) := by rw [← hJe]; simp [yc]
    have hT1 : TailAt J1 w 19 := hJe ▸ hT.app _
    have hJ1 : Ov J1 H := hJe ▸ hJ.app _
    clear hJe
    refine LoopK.told (σ := Nat × Wh × AHeap) (fun s => [(44, .int .i64 s.1), (43, .int .i64 x.l.length), (42, .sl .no (Ex.rows x.l)), (5, .ptr J.length g 0 0), (6, .ptr (J.length + 1) g2 0 0), (15, .int .i64 i), (14, .int .i64 l.length), (13, .sl .no (St.rows l)), (3, .sl (ownS w) (St.rows (St.erL (l.take i))))]) (fun s => s.2.2)
      (fun s => s.1 ≤ x.l.length ∧ WOk H.length s.2.1 ∧ TailAt s.2.2 s.2.1 5 ∧ TailAt s.2.2 w 19 ∧ Ov s.2.2 H ∧ s.2.2[J.length]? = some (some (.rows g [x.cells])) ∧ s.2.2[J.length + 1]? = some (some (.rows g2 [yc x (.sl (ownS s.2.1) (Ex.rows (x.l.take s.1))) (.sl .full []) (.sl .full [])]))) (fun s => x.l.length - s.1) (0, none, J1) ?_ ?_ ?_ ?_
    · exact ⟨by simp, by simp, by simp, hT1, hJ1, hx1, by rw [hy1]; simp [ownS, Ex.rows]⟩
    · simp
    · simp
    clear hT1 hJ1 hx1 hy1
    rintro ⟨j, v, J2⟩ ⟨hj, hv, hTv, hT2, hJ2, hx2, hy2⟩
    simp only at hj hv hTv hT2 hJ2 hx2 hy2
    simp [Code.f8l1]
    refine ⟨fun hjl => ?_, fun hjl => ?_⟩
    · have hjs := Ex.size_mem hjl
      have hjt := List.take_succ_eq_append_getElem hjl
      simp [List.getElem?_eq_getElem hjl]
      intro g3
      have hx3 := get_app (l := [some (Blk.rows g3 [x.l[j].cells])]) hx2
      have hy3 := get_app (l := [some (Blk.rows g3 [x.l[j].cells])]) hy2
      simp [hy3, yc]
      refine PCallK.pure (copiede x.l[j] (by omega)) ?_
      simp
      intro g4
      refine app_own' (hTv.app _) hv (hJ2.app _) (by simp) Ex.rows_mem (by simp) (by simp; omega) fun v4 J4 hTv4 hv4 hJ4 hk4 hkt4 => ?_
      have hx4 := hk4 _ _ _ hx3
      have hy4 := hk4 _ _ _ hy3
      have hT4 := hkt4 _ _ (by omega) (hT2.app _)
      have hs4 := fun y => List.getElem?_set_self (a := y) (get_lt hy4)
      simp [hy4, yc]
      refine ⟨j + 1, v4, _, ⟨by omega, hv4, hTv4.set hy4, hT4.set hy4, hJ4.set (by omega) _, ?_, ?_⟩, by omega, wkn_int (wrap_id (by omega) (by omega)), .refl _⟩
      · rw [List.getElem?_set_ne (by omega)]; exact hx4
      · rw [hs4, hjt, Ex.rows_snoc]
    rw [List.take_of_length_le hjl] at hy2
    clear hTv
    generalize ownS v = o1 at hy2
    simp [hx2]
    refine LoopK.told (σ := Nat × Wh × AHeap) (fun s => [(59, .int .i64 s.1), (58, .int .i64 x.args.length), (57, .sl .no (Arg.rows x.args)), (5, .ptr J.length g 0 0), (6, .ptr (J.length + 1) g2 0 0), (15, .int .i64 i), (14, .int .i64 l.length), (13, .sl .no (St.rows l)), (3, .sl (ownS w) (St.rows (St.erL (l.take i))))]) (fun s => s.2.2)
      (fun s => s.1 ≤ x.args.length ∧ WOk H.length s.2.1 ∧ TailAt s.2.2 s.2.1 6 ∧ TailAt s.2.2 w 19 ∧ Ov s.2.2 H ∧ s.2.2[J.length]? = some (some (.rows g [x.cells])) ∧ s.2.2[J.length + 1]? = some (some (.rows g2 [yc x (.sl o1 (Ex.rows x.l)) (.sl (ownS s.2.1) (Arg.rows (x.args.take s.1))) (.sl .full [])]))) (fun s => x.args.length - s.1) (0, none, J2) ?_ ?_ ?_ ?_
    · exact ⟨by simp, by simp, by simp, hT2, hJ2, hx2, by rw [hy2]; simp [ownS, Arg.rows]⟩
    · simp
    · simp
    clear hT2 hJ2 hx2 hy2 hv
    rintro ⟨j, v, J2⟩ ⟨hj, hv, hTv, hT2, hJ2, hx2, hy2⟩
    simp only at hj hv hTv hT2 hJ2 hx2 hy2
    simp [Code.f8l2]
    refine ⟨fun hjl => ?_, fun hjl => ?_⟩
    · have hjs := Arg.size_mem hjl
      have hjz : x.args[j].size = 1 + x.args[j].e.size := rfl
      have hjt := List.take_succ_eq_append_getElem hjl
      simp [List.getElem?_eq_getElem hjl]
      intro g3
      have hx3 := get_app (l := [some (Blk.rows g3 [x.args[j].cells])]) hx2
      have hy3 := get_app (l := [some (Blk.rows g3 [x.args[j].cells])]) hy2
      simp [hy3, yc]
      refine PCallK.pure (copiede x.args[j].e (by omega)) ?_
      simp
      intro g4
      refine app_own' (hTv.app _) hv (hJ2.app _) (by simp) Arg.rows_mem (by simp) (by simp; omega) fun v4 J4 hTv4 hv4 hJ4 hk4 hkt4 => ?_
      have hx4 := hk4 _ _ _ hx3
      have hy4 := hk4 _ _ _ hy3
      have hT4 := hkt4 _ _ (by omega) (hT2.app _)
      have hs4 := fun y => List.getElem?_set_self (a := y) (get_lt hy4)
      simp [hy4, yc]
      refine ⟨j + 1, v4, _, ⟨by omega, hv4, hTv4.set hy4, hT4.set hy4, hJ4.set (by omega) _, ?_, ?_⟩, by omega, wkn_int (wrap_id (by omega) (by omega)), .refl _⟩
      · rw [List.getElem?_set_ne (by omega)]; exact hx4
      · rw [hs4, hjt, Arg.rows_snoc]; simp [Arg.cells]
    rw [List.take_of_length_le hjl] at hy2
    clear hTv
    generalize ownS v = o2 at hy2
    simp [hx2]
    refine LoopK.told (σ := Nat × Wh × AHeap) (fun s => [(78, .int .i64 s.1), (77, .int .i64 x.arms.length), (76, .sl .no (Arm.rows x.arms)), (6, .ptr (J.length + 1) g2 0 0), (15, .int .i64 i), (14, .int .i64 l.length), (13, .sl .no (St.rows l)), (3, .sl (ownS w) (St.rows (St.erL (l.take i))))]) (fun s => s.2.2)
      (fun s => s.1 ≤ x.arms.length ∧ WOk H.length s.2.1 ∧ TailAt s.2.2 s.2.1 2 ∧ TailAt s.2.2 w 19 ∧ Ov s.2.2 H ∧ s.2.2[J.length + 1]? = some (some (.rows g2 [yc x (.sl o1 (Ex.rows x.l)) (.sl o2 (Arg.rows x.args)) (.sl (ownS s.2.1) (Arm.rows ((x.arms.take s.1).map Arm.er)))]))) (fun s => x.arms.length - s.1) (0, none, J2) ?_ ?_ ?_ ?_
    · exact ⟨by simp, by simp, by simp, hT2, hJ2, by rw [hy2]; simp [ownS, Arm.rows]⟩
    · simp
    · simp
    clear hT2 hJ2 hx2 hy2 hv
    rintro ⟨j, v, J2⟩ ⟨hj, hv, hTv, hT2, hJ2, hy2⟩
    simp only at hj hv hTv hT2 hJ2 hy2
    simp [Code.f8l3]
    refine ⟨fun hjl => ?_, fun hjl => ?_⟩
    · have hjs := Arm.size_mem hjl
      have hjz := Arm.size_eq x.arms[j]
      have hjt := congrArg (List.map Arm.er) (List.take_succ_eq_append_getElem hjl)
      simp [List.getElem?_eq_getElem hjl]
      intro g3
      have hy3 := get_app (l := [some (Blk.rows g3 [x.arms[j].cells])]) hy2
      have haz := azA_empty 1 8 .no (intRows x.arms[j].labels) (by simp [intRows]) (by simp; omega)
      simp [hy3, yc, haz]
      refine PCallK.pure (ih (by omega) x.arms[j].body (by omega)) ?_
      simp
      intro g4
      refine app_own' (hTv.app _) hv (hJ2.app _) (by simp) Arm.rows_mem (by simp) (by simp; omega) fun v4 J4 hTv4 hv4 hJ4 hk4 hkt4 => ?_
      have hy4 := hk4 _ _ _ hy3
      have hT4 := hkt4 _ _ (by omega) (hT2.app _)
      have hs4 := fun y => List.getElem?_set_self (a := y) (get_lt hy4)
      simp [hy4, yc]
      refine ⟨j + 1, v4, _, ⟨by omega, hv4, hTv4.set hy4, hT4.set hy4, hJ4.set (by omega) _, ?_⟩, by omega, wkn_int (wrap_id (by omega) (by omega)), .refl _⟩
      simp only [List.map_append, List.map_cons, List.map_nil] at hjt
      rw [hs4, ← List.map_take, ← List.map_take, hjt, Arm.rows_snoc, Arm.er_eq]; simp [Arm.cells]
    rw [List.take_of_length_le hjl] at hy2
    clear hTv
    generalize ownS v = o3 at hy2
    simp [hy2, yc]
    intro g5
    refine app_own hT2 hw hJ2 (by simp) St.rows_mem (by simp) (by simp at hel ⊢; omega) fun w6 J6 hT6 hw6 hJ6 hk6 => ?_
    simp
    refine ⟨i + 1, w6, J6, ⟨by omega, hw6, hT6, hJ6⟩, by omega, ⟨wkn_int (wrap_id (by omega) (by omega)), ?_⟩, .refl _⟩
    rw [ht, show St.erL [x] = [x.er] by simp [St.erL, hk0], St.rows_snoc]
    refine wkn_rows (.snoc _ ?_)
    rw [St.er_eq, St.cells_eq]
    simp
  · rw [List.take_of_length_le h]
    exact vshift_drop (wkn_no _ _) hJ.hwk
end Go.Proofs.YtjgkfgocgknjjaaDoor
