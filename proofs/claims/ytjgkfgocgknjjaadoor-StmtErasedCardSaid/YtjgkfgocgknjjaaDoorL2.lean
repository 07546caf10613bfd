/- Scopes, fitting cases. -/
import Derived.Test.YtjgkfgocgknjjaaDoorL1
set_option linter.unusedVariables false
set_option linter.unusedSimpArgs false
namespace Go.Proofs.YtjgkfgocgknjjaaDoor
open Go Go.RowKit Go.Proofs.YtjgkfgocgknjjaaDoor.Abs

theorem app_ownE {g sz by_ : Nat} {w : Wh} {o : Own} {rows ys : List (List AV)} {J H : AHeap} {K : AV × AHeap → Prop} (hT : TailAt J w sz) (hw : WOk H.length w) (hJ : Ov J H) (hr : ∀ r ∈ rows, r.length = sz) (hyl : ∀ r ∈ ys, r.length = sz) (hb : (rows.length + ys.length) * by_ ≤ 140737488355328)
    (k : ∀ w' J', TailAt J' w' sz → WOk H.length w' → Ov J' H → Kept J J' → K (.sl (ownS w') (rows ++ ys), J')) : OptK (apA g false sz by_ (.sl (ownS w) rows) (.sl o ys) J) K := by
  by_cases hy : ys = []
  · subst hy
    have : apA g false sz by_ (.sl (ownS w) rows) (.sl o []) J = some (.sl (ownS w) rows, J) := by
      have h1 : (rows.all fun row => row.length == sz) = true := by simpa using hr
      simp [apA, contA, h1]
    rw [this]
    have := k w J hT hw hJ (fun _ _ _ h => h)
    simpa using this
  · exact app_own hT hw hJ hy hr hyl hb k
theorem end_rel2 {o : Own} {l : List Int} {J H : AHeap} (h : HWk J H) : ∃ r, VShift (.sl o (intRows l)) J r H ∧ ∃ l, r = .sl .no (intRows l) := ⟨_, vshift_drop (wkn_no _ _) h, _, rfl⟩
set_option maxRecDepth 20000 in
set_option maxHeartbeats 4000000 in
theorem slots15_ok (u : Un) (hu : u.few) : RCall Tryd.prog 25 [.agg u.cells] fun r => ∃ l : List Int, r = .sl .no (intRows l) := by
  refine rcall_fn Code.ok25 (by simp [Code.f25]) fun H => ?_
  simp [Code.f25]
  intro g1 g2
  have hp := hu.1
  have hl := hu.2.1
  have hx1 : (H ++ [some (.rows g1 [u.cells])])[H.length]? = some (some (.rows g1 [u.cells])) := by simp
  have loop : ∀ (w : Wh) (J : AHeap) (n : Nat) (l : List Int), n ≤ 21 → l.length = n → TailAt J w 1 → WOk H.length w → Ov J H → J[H.length]? = some (some (.rows g1 [u.cells])) → ∀ E : Env, EnvTo E [(4, .int .i64 0), (3, .sl (ownS w) (intRows l)), (1, .ptr H.length g1 0 0)] →
      LoopK Tryd.prog 33 Code.f25l0 (AInBlock 0 (AThen (SwK Tryd.prog 33 ((SCode.region false [{ dst := some 32, op := SOp.mv (Opd.t 3) }, { dst := some 2, op := SOp.mv (Opd.t 32) }]).seq SCode.ret) (RetQ [SRes.t 2] fun x H' => ∃ r, VShift x H' r H ∧ ∃ l, r = .sl .no (intRows l))) (RetQ [SRes.t 2] fun x H' => ∃ r, VShift x H' r H ∧ ∃ l, r = .sl .no (intRows l)))) E [] J := by
    intro w J n l hn hln hT hw hJ hx E hE
    refine LoopK.told (σ := Nat × Wh × AHeap × List Int) (fun s => [(4, .int .i64 s.1), (3, .sl (ownS s.2.1) (intRows s.2.2.2)), (1, .ptr H.length g1 0 0)]) (fun s => s.2.2.1)
      (fun s => s.1 ≤ u.locals.length ∧ WOk H.length s.2.1 ∧ TailAt s.2.2.1 s.2.1 1 ∧ Ov s.2.2.1 H ∧ s.2.2.1[H.length]? = some (some (.rows g1 [u.cells])) ∧ s.2.2.2.length ≤ n + s.1) (fun s => u.locals.length - s.1) (0, w, J, l) ?_ ?_ ?_ ?_
    · exact ⟨by simp, hw, hT, hJ, hx, by simp; omega⟩
    · exact hE
    · simp
    rintro ⟨i, w2, J2, l2⟩ ⟨hi, hw2, hT2, hJ2, hx2, hl2⟩
    simp only at hi hw2 hT2 hJ2 hx2 hl2
    simp [Code.f25l0, hx2]
    refine ⟨fun h => ?_, fun h => end_rel2 hJ2.hwk⟩
    simp [hx2, List.getElem?_eq_getElem h]
    intro g3
    refine app_own hT2 hw2 hJ2 (by simp) intRows_mem (by simp) (by simp; omega) fun w3 J3 hT3 hw3 hJ3 hk3 => ?_
    simp
    refine ⟨i + 1, w3, J3, l2 ++ [u.locals[i]], ⟨by omega, hw3, hT3, hJ3, hk3 _ _ _ hx2, by simp; omega⟩, by omega, ⟨wkn_int (wrap_id (by omega) (by omega)), ?_⟩, .refl _⟩
    rw [intRows_snoc]; exact .refl _
  show OptK (apA g2 false 1 8 (.sl (ownS none) []) _ _) _
  refine app_ownE (TailAt_none _ _) (WOk_none _) ((Ov.refl H).app _) (by simp) intRows_mem (by simp; omega) fun w J hT hw hJ hk => ?_
  have hx := hk _ _ _ hx1
  simp [hx]
  refine ⟨fun hr => ?_, fun hr => ?_⟩
  · intro g3
    refine app_own hT hw hJ (by simp) intRows_mem (by simp) (by simp; omega) fun w3 J3 hT3 hw3 hJ3 hk3 => ?_
    simp
    refine loop w3 J3 (u.params.length + 1) (u.params ++ [u.result]) (by omega) (by simp) hT3 hw3 hJ3 (hk3 _ _ _ hx) _ ?_
    simp [intRows_snoc]
  · exact loop w J u.params.length u.params (by omega) rfl hT hw hJ hx _ (by simp)

structure ScSt (H : AHeap) (p : Pg) (g1 g2 g3 i : Nat) (w : Wh) (J : AHeap) (sg : List Sg) (o3 : Own) (sl : List Int) : Prop where
  hi : i ≤ p.units.length
  hw : WOk H.length w
  hT : TailAt J w 2
  hJ : Ov J H
  hx1 : J[H.length]? = some (some (.rows g1 [p.cells]))
  hx2 : J[H.length + 1]? = some (some (.rows g2 [[.sl .full [], .sl .full [], .sl .full [], .sl .full []]]))
  hx3 : J[H.length + 2]? = some (some (.rows g3 [[.sl .no (Vr.rows p.vars), .sl .no (Bk.rows p.blocks), .sl (ownS w) (Sg.rows sg), .sl o3 (intRows sl)]]))
  hsl : sg.length = i
set_option maxRecDepth 20000 in
set_option maxHeartbeats 8000000 in
theorem scope17_ok (p : Pg) (hp : p.few) (u : Int) : RCall Tryd.prog 16 [.agg p.cells, .int .i64 u] fun r => ∃ s : Sc, r = .agg s.cells := by
  refine rcall_fn Code.ok16 (by simp [Code.f16]) fun H => ?_
  simp [Code.f16]
  intro g1 g2 g3
  have hu := hp.2.2.1
  refine LoopK.told (σ := Nat × Wh × AHeap × List Sg × Own × List Int) (fun s => [(6, .int .i64 s.1), (1, .int .i64 u), (2, .ptr H.length g1 0 0), (4, .ptr (H.length + 1) g2 0 0), (5, .ptr (H.length + 2) g3 0 0)]) (fun s => s.2.2.1)
    (fun s => ScSt H p g1 g2 g3 s.1 s.2.1 s.2.2.1 s.2.2.2.1 s.2.2.2.2.1 s.2.2.2.2.2) (fun s => p.units.length - s.1) (0, none, _, [], .full, []) ?_ ?_ (.refl _) ?_
  · exact ⟨by simp, by simp, by simp, (Ov.refl H).app _, by simp, by simp, by simp, rfl⟩
  · simp
  rintro ⟨i, w, J, sg, o3, sl⟩ ⟨hi, hw, hT, hJ, hx1, hx2, hx3, hsl⟩
  simp only at hi hw hT hJ hx1 hx2 hx3 hsl
  simp [Code.f16l0, hx1]
  refine ⟨fun h => ?_, fun h => ?_⟩
  · have hue := hp.2.2.2 _ (List.getElem_mem h)
    simp [hx1, hx3, List.getElem?_eq_getElem h]
    intro g4
    refine app_own hT hw hJ (by simp) Sg.rows_mem (by simp) (by simp; omega) fun w3 J3 hT3 hw3 hJ3 hk3 => ?_
    have hy1 := hk3 _ _ _ hx1
    have hy2 := hk3 _ _ _ hx2
    have hy3 := hk3 _ _ _ hx3
    simp [hy3]
    have hs3 := fun y => List.getElem?_set_self (a := y) (get_lt hy3)
    have hJ4 := hJ3.set (b := H.length + 2) (by omega)
    have hT4 := fun x => hT3.set (x := x) hy3
    have n1 : ∀ y, (J3.set (H.length + 2) y)[H.length]? = J3[H.length]? := fun y => List.getElem?_set_ne (by omega)
    have n2 : ∀ y, (J3.set (H.length + 2) y)[H.length + 1]? = J3[H.length + 1]? := fun y => List.getElem?_set_ne (by omega)
    have e1 : ∀ x : Sg, Sg.rows (sg ++ [x]) = Sg.rows sg ++ [x.cells] := fun x => Sg.rows_snoc sg x
    refine ⟨fun hq => ?_, fun hq => ?_⟩
    · simp [n1, hy1, List.getElem?_eq_getElem h]
      refine CallK.rel (slots15_ok _ hue) ?_
      rintro _ ⟨l2, rfl⟩
      simp [hs3]
      refine ⟨i + 1, w3, _, ⟨sg ++ [⟨p.units[i].params, p.units[i].result⟩], .no, l2, ⟨by omega, hw3, hT4 _, hJ4 _, ?_, ?_, ?_, by simp; omega⟩⟩, by omega, wkn_int (wrap_id (by omega) (by omega)), .refl _⟩
      · rw [n1]; exact hy1
      · rw [n2]; exact hy2
      · rw [hs3, e1]; rfl
    · refine ⟨i + 1, w3, _, ⟨sg ++ [⟨p.units[i].params, p.units[i].result⟩], o3, sl, ⟨by omega, hw3, hT4 _, hJ4 _, ?_, ?_, ?_, by simp; omega⟩⟩, by omega, wkn_int (wrap_id (by omega) (by omega)), .refl _⟩
      · rw [n1]; exact hy1
      · rw [n2]; exact hy2
      · rw [hs3, e1]; rfl
  · have hs2 := fun y => List.getElem?_set_self (a := y) (get_lt hx2)
    simp [hx3, hx2, hs2]
    refine ⟨_, vshift_drop (wkn_agg (l := _) (m := Sc.cells ⟨p.vars, p.blocks, sg, sl⟩) ?_) (hJ.set (by omega) _).hwk, _, rfl⟩
    simp [Sc.cells]
end Go.Proofs.YtjgkfgocgknjjaaDoor
