/- Splitting, by definition. -/
import Derived.Test.YtafhiicjmlkhcaaS7
set_option linter.unusedVariables false
set_option linter.unusedSimpArgs false
namespace Go.Proofs.Ytafhiicjmlkhcaa
open Go Go.RowKit Go.Proofs.Ytafhiicjmlkhcaa.Abs

theorem Arm.rows_snoc (l : List Arm) (x : Arm) : Arm.rows (l ++ [x]) = Arm.rows l ++ [x.cells] := by rw [Arm.rows_append]; simp [Arm.rows]
/-- The cells of a statement whose lists are other ones. -/
def cellsOf (x : St) (args body els arms : AV) : List AV := [.int .i64 x.kind, .int .i64 x.cost, .int .i64 x.n, .int .i64 x.m, .int .i64 x.e.op, .int .i64 x.e.t, .int .i64 x.e.n, .int .i64 x.e.m, .sl .no (Ex.rows x.e.l),
      .int .i64 x.i.op, .int .i64 x.i.t, .int .i64 x.i.n, .int .i64 x.i.m, .sl .no (Ex.rows x.i.l), .sl .no (Ex.rows x.l), args, body, els, arms]

theorem St.sizeL_snoc (l : List St) (x : St) : St.sizeL (l ++ [x]) = St.sizeL l + x.size := by
  induction l with
  | nil => simp [St.sizeL]
  | cons y r ih => simp [St.sizeL, ih]; omega
theorem splitF_len' (l : List St) : (splitF (l.map (St.dp splitF))).length ≤ St.sizeL l := by
  induction l with
  | nil => simp [splitF]
  | cons x r ih =>
    have h1 : (splitOne (x.dp splitF)).length ≤ x.size := by
      have := St.size_eq x
      have := Arg.len_size x.args
      have ha : (x.dp splitF).args = x.args := by rw [St.dp_eq]; rfl
      unfold splitOne
      split <;> simp [ha] <;> omega
    simp only [splitF, List.map_cons, List.flatMap_cons, List.length_append, St.sizeL] at ih ⊢; omega
set_option maxRecDepth 20000 in
set_option maxHeartbeats 8000000 in
theorem split36_ok : ∀ (k : Nat) (l : List St), St.sizeL l < k → k < 100000000 → PCall Try.prog 11 [.sl .no (St.rows l)] (.sl .no (St.rows (splitF (l.map (St.dp splitF))))) := by
  intro k
  induction k with
  | zero => intro l h; omega
  | succ k ih =>
  intro l hk hk2
  have hlen := St.len_size l
  refine pcall_fn Code.ok11 (by simp [Code.f11]) fun H => ?_
  simp [Code.f11]
  refine LoopK.told (σ := Nat × Wh × AHeap) (fun s => [(4, .int .i64 s.1), (0, .sl .no (St.rows l)), (3, .sl (ownS s.2.1) (St.rows (splitF ((l.take s.1).map (St.dp splitF)))))]) (fun s => s.2.2)
    (fun s => s.1 ≤ l.length ∧ WOk H.length s.2.1 ∧ TailAt s.2.2 s.2.1 19 ∧ Ov s.2.2 H) (fun s => l.length - s.1) (0, none, H) ?_ ?_ ?_ ?_
  · simp [Ov.refl]
  · simp [splitF]
  · simp
  rintro ⟨i, w, J⟩ ⟨hi, hw, hT, hJ⟩
  simp only at hi hw hT hJ
  simp [Code.f11l0]
  refine ⟨fun h => ?_, fun h => ?_⟩
  · have hs := St.size_mem h
    have hse := St.size_eq l[i]
    have hal := Arm.len_size l[i].arms
    have har := Arg.len_size l[i].args
    have ht := List.take_succ_eq_append_getElem h
    generalize hx : l[i] = x at hs hse hal har ht
    simp [List.getElem?_eq_getElem h, hx]
    intro g
    have hx1 : (J ++ [some (.rows g [x.cells])])[J.length]? = some (some (.rows g [x.cells])) := by simp
    have hT1 := hT.app [some (.rows g [x.cells])]
    have hJ1 := hJ.app [some (.rows g [x.cells])]
    have hbx := hJ.len
    generalize J ++ [some (.rows g [x.cells])] = J1 at hx1 hT1 hJ1 ⊢
    generalize J.length = bx at hx1 hbx ⊢
    have hs1 := fun y => List.getElem?_set_self (a := y) (get_lt hx1)
    refine CallK.pure (ih x.body (by omega) (by omega)) ?_
    rw [St.cells_eq x] at hx1
    simp [hx1, hs1]
    refine CallK.pure (ih x.els (by omega) (by omega)) ?_
    simp [hx1, hs1]
    generalize hb' : splitF (x.body.map (St.dp splitF)) = body
    generalize he' : splitF (x.els.map (St.dp splitF)) = els
    generalize hJe : J1.set bx _ = J2
    have hx2 := (congrArg (fun J => J[bx]?) hJe.symm).trans (hs1 _)
    have hT2 : TailAt J2 w 19 := hJe ▸ hT1.set hx1
    have hJ2 : Ov J2 H := hJe ▸ hJ1.set hbx _
    clear hJe hs1 hx1 hT1 hJ1
    refine LoopK.told (σ := Nat × Wh × AHeap) (fun s => [(7, .int .i64 s.1), (6, .sl (ownS s.2.1) (Arm.rows ((x.arms.take s.1).map (Arm.dp splitF)))), (5, .ptr bx g 0 0), (4, .int .i64 i), (0, .sl .no (St.rows l)), (3, .sl (ownS w) (St.rows (splitF ((l.take i).map (St.dp splitF)))))]) (fun s => s.2.2)
      (fun s => s.1 ≤ x.arms.length ∧ WOk H.length s.2.1 ∧ TailAt s.2.2 s.2.1 2 ∧ TailAt s.2.2 w 19 ∧ Ov s.2.2 H ∧ s.2.2[bx]? = J2[bx]?) (fun s => x.arms.length - s.1) (0, none, J2) ?_ ?_ ?_ ?_
    · exact ⟨by simp, by simp, by simp, hT2, hJ2, rfl⟩
    · simp
    · simp
    rintro ⟨j, v, J3⟩ ⟨hj, hv, hTv, hT3, hJ3, hx3⟩
    simp only at hj hv hTv hT3 hJ3 hx3
    simp only [hx2] at hx3
    simp [Code.f11l1, hx3]
    refine ⟨fun hjl => ?_, fun hjl => ?_⟩
    · have hav := Arm.size_mem hjl
      have hae := Arm.size_eq x.arms[j]
      have hat := List.take_succ_eq_append_getElem hjl
      have hg := List.getElem?_eq_getElem hjl
      simp [hg, hx3]
      refine PCallK.pure (ih x.arms[j].body (by omega) (by omega)) ?_
      simp
      intro g3
      refine app_own' hTv hv hJ3 (by simp) Arm.rows_mem (by simp) (by simp; omega) fun v4 J4 hTv4 hv4 hJ4 hk4 hkt4 => ?_
      simp
      refine ⟨j + 1, v4, J4, ⟨by omega, hv4, hTv4, hkt4 _ _ (by omega) hT3, hJ4, ?_⟩, by omega, ⟨wkn_int (wrap_id (by omega) (by omega)), ?_⟩, .refl _⟩
      · rw [hx2]; exact hk4 _ _ _ hx3
      · have e : List.take (j + 1) (List.map (Arm.dp splitF) x.arms) = List.take j (List.map (Arm.dp splitF) x.arms) ++ [Arm.dp splitF x.arms[j]] := by rw [← List.map_take, hat, List.map_append, List.map_take]; rfl
        rw [e, Arm.rows_snoc]
        refine wkn_rows (.snoc _ ?_)
        rw [Arm.dp_eq, Arm.cells]
        simp
    · simp [hx3]
      generalize hJe : J3.set bx _ = J5
      have hs3 := fun y => List.getElem?_set_self (a := y) (get_lt hx3)
      have hx5 := (congrArg (fun J => J[bx]?) hJe.symm).trans (hs3 _)
      have hT5 : TailAt J5 w 19 := hJe ▸ hT3.set hx3
      have hJ5 : Ov J5 H := hJe ▸ hJ3.set hbx _
      rw [← List.map_take, List.take_of_length_le hjl] at hx5
      clear hJe hs3 hx3 hT3 hJ3
      refine LoopK.told (σ := Nat × Wh × AHeap) (fun s => [(8, .int .i64 s.1), (5, .ptr bx g 0 0), (4, .int .i64 i), (0, .sl .no (St.rows l)), (3, .sl (ownS s.2.1) (St.rows (splitF ((l.take i).map (St.dp splitF)) ++ (x.args.take s.1).map (St.field x.n))))]) (fun s => s.2.2)
        (fun s => s.1 ≤ x.args.length ∧ (x.kind ≠ 5 → s.1 = 0) ∧ WOk H.length s.2.1 ∧ TailAt s.2.2 s.2.1 19 ∧ Ov s.2.2 H ∧ s.2.2[bx]? = J5[bx]?) (fun s => x.args.length - s.1) (0, w, J5) ?_ ?_ ?_ ?_
      · exact ⟨by simp, fun _ => rfl, hw, hT5, hJ5, rfl⟩
      · simp
      · simp
      rintro ⟨u, w6, J6⟩ ⟨hu, hu0, hw6, hT6, hJ6, hx6⟩
      simp only at hu hu0 hw6 hT6 hJ6 hx6
      simp only [hx5] at hx6
      have hs6 := fun y => List.getElem?_set_self (a := y) (get_lt hx6)
      simp [Code.f11l2, hx6, hs6]
      have hlF := splitF_len' (l.take i)
      have hst := St.sizeL_take_le l (i + 1)
      rw [ht, St.sizeL_snoc] at hst
      have he1 : splitF (List.take (i + 1) (List.map (St.dp splitF) l)) = splitF (List.take i (List.map (St.dp splitF) l)) ++ splitOne (x.dp splitF) := by
        rw [← List.map_take, ht, List.map_append, List.map_take]; simp [splitF]
      have hkd : (x.dp splitF).kind = x.kind := by rw [St.dp_eq]; rfl
      refine ⟨fun hul => ⟨fun h5 => ?_, fun h5 => ?_⟩, fun hul => ?_⟩
      · have hut := List.take_succ_eq_append_getElem hul
        simp [List.getElem?_eq_getElem hul, hx6]
        intro g7
        refine app_own hT6 hw6 hJ6 (by simp) St.rows_mem (by simp) (by simp at hlF ⊢; omega) fun w7 J7 hT7 hw7 hJ7 hk7 => ?_
        simp
        refine ⟨u + 1, w7, J7, ⟨by omega, fun h => absurd h5 h, hw7, hT7, hJ7, ?_⟩, by omega, ⟨wkn_int (wrap_id (by omega) (by omega)), ?_⟩, .refl _⟩
        · rw [hx5]; exact hk7 _ _ _ hx6
        · have e : List.take (u + 1) (List.map (St.field x.n) x.args) = List.take u (List.map (St.field x.n) x.args) ++ [St.field x.n x.args[u]] := by rw [← List.map_take, hut, List.map_append, List.map_take]; rfl
          rw [e, ← List.append_assoc, St.rows_snoc]
          exact wkn_rows (.snoc _ (field_wk x.n _))
      · obtain rfl := hu0 h5
        refine ⟨fun h => absurd h h5, fun _ g8 => ?_⟩
        refine app_own hT6 hw6 hJ6 (by simp) St.rows_mem (by simp) (by simp at hlF ⊢; omega) fun w7 J7 hT7 hw7 hJ7 hk7 => ?_
        simp
        refine ⟨i + 1, w7, J7, ⟨by omega, hw7, hT7, hJ7⟩, by omega, ⟨wkn_int (wrap_id (by omega) (by omega)), ?_⟩, .refl _⟩
        rw [he1, splitOne, if_neg (by rw [hkd]; exact h5), St.rows_snoc]
        refine wkn_rows (.snoc _ ?_)
        rw [St.dp_eq, St.cells]
        simp [hb', he']
      · refine ⟨fun h5 g8 => ?_, fun h5 g8 => ?_⟩
        · refine app_own (hT6.set hx6) hw6 (hJ6.set hbx _) (by simp) St.rows_mem (by simp) (by simp at hlF ⊢; omega) fun w7 J7 hT7 hw7 hJ7 hk7 => ?_
          simp
          refine ⟨i + 1, w7, J7, ⟨by omega, hw7, hT7, hJ7⟩, by omega, ⟨wkn_int (wrap_id (by omega) (by omega)), ?_⟩, .refl _⟩
          rw [he1, splitOne, if_pos (by rw [hkd]; exact h5), ← List.append_assoc, St.rows_snoc, List.take_of_length_le (l := List.map (St.field x.n) x.args) (by simpa using hul)]
          have ha : (x.dp splitF).args = x.args := by rw [St.dp_eq]; rfl
          have hn : (x.dp splitF).n = x.n := by rw [St.dp_eq]; rfl
          rw [ha, hn]
          refine wkn_rows (.snoc _ ?_)
          rw [St.dp_eq, St.put, St.cells]
          simp [hb', he']
        · obtain rfl := hu0 h5
          refine app_own hT6 hw6 hJ6 (by simp) St.rows_mem (by simp) (by simp at hlF ⊢; omega) fun w7 J7 hT7 hw7 hJ7 hk7 => ?_
          simp
          refine ⟨i + 1, w7, J7, ⟨by omega, hw7, hT7, hJ7⟩, by omega, ⟨wkn_int (wrap_id (by omega) (by omega)), ?_⟩, .refl _⟩
          rw [he1, splitOne, if_neg (by rw [hkd]; exact h5), St.rows_snoc]
          refine wkn_rows (.snoc _ ?_)
          rw [St.dp_eq, St.cells]
          simp [hb', he']
  · rw [List.take_of_length_le (by simpa using h)]
    exact vshift_drop (.no _ _) hJ.hwk
end Go.Proofs.Ytafhiicjmlkhcaa
