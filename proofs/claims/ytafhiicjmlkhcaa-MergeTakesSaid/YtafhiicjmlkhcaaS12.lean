/- Merging, by definition. -/
import Derived.Test.YtafhiicjmlkhcaaS11
import Derived.Test.YtafhiicjmlkhcaaM2
set_option linter.unusedVariables false
set_option linter.unusedSimpArgs false
namespace Go.Proofs.Ytafhiicjmlkhcaa
open Go Go.RowKit Go.Proofs.Ytafhiicjmlkhcaa.Abs

theorem _root_.Go.Proofs.Ytafhiicjmlkhcaa.Abs.OutAt.kept {J J' : AHeap} {w : Wh} {n : Nat} {rows : List (List AV)} (h : OutAt J w n rows) (k : Kept J J') : OutAt J' w n rows := ⟨h.1, h.2.1, fun b g e => k _ _ _ (h.2.2 b g e)⟩
@[simp] theorem St.dp_kind (F : List St → List St) (x : St) : (x.dp F).kind = x.kind := by rw [St.dp_eq]; rfl
@[simp] theorem St.dp_cost (F : List St → List St) (x : St) : (x.dp F).cost = x.cost := by rw [St.dp_eq]; rfl
@[simp] theorem St.dp_n (F : List St → List St) (x : St) : (x.dp F).n = x.n := by rw [St.dp_eq]; rfl
@[simp] theorem St.dp_m (F : List St → List St) (x : St) : (x.dp F).m = x.m := by rw [St.dp_eq]; rfl
@[simp] theorem St.dp_e (F : List St → List St) (x : St) : (x.dp F).e = x.e := by rw [St.dp_eq]; rfl
@[simp] theorem St.dp_args (F : List St → List St) (x : St) : (x.dp F).args = x.args := by rw [St.dp_eq]; rfl
theorem nth_dp (F : List St → List St) {l : List St} {k : Nat} (h : k < l.length) : nth (l.map (St.dp F)) k = (nth l k).dp F := by simp [nth, List.getElem?_eq_getElem h]
theorem aheadK_dp (F : List St → List St) (l : List St) (x : St) (i : Nat) : ∀ (k : Nat), k ≤ l.length → ∀ fs c n, aheadK (l.map (St.dp F)) (x.dp F) i k fs c n = aheadK l x i k fs c n
  | 0, _, fs, c, n => rfl
  | k + 1, h, fs, c, n => by simp only [aheadK, nth_dp F (show k < l.length by omega), St.dp_kind, St.dp_cost, St.dp_n, St.dp_m, aheadK_dp F l x i k (by omega)]
theorem ahead_dp (F : List St → List St) {l : List St} {i : Nat} (h : i < l.length) : ahead (l.map (St.dp F)) i = ahead l i := by
  simp only [ahead, nth_dp F h, St.dp_kind, St.dp_cost, St.dp_args, aheadK_dp F l _ i i (by omega)]
theorem seg_dp (F : List St → List St) (l : List St) (a b : Nat) : seg (l.map (St.dp F)) a b = (seg l a b).map (St.dp F) := by simp [seg, List.map_drop, List.map_take]
theorem argsOf_dp (F : List St → List St) (l : List St) : argsOf (l.map (St.dp F)) = argsOf l := by
  induction l with
  | nil => rfl
  | cons x r ih =>
    rw [List.map_cons]
    by_cases h : x.kind = 4
    · rw [argsOf_4 _ h, argsOf_4 _ (by rw [St.dp_kind]; exact h), ih, St.dp_m, St.dp_e]
    · rw [argsOf_0 _ h, argsOf_0 _ (by rw [St.dp_kind]; exact h), ih]
theorem costOf_dp (F : List St → List St) (l : List St) : costOf (l.map (St.dp F)) = costOf l := by
  induction l with
  | nil => rfl
  | cons x r ih => rw [List.map_cons, costOf_cons, costOf_cons, ih, St.dp_cost]
theorem CostOk.of {l : List St} (h : St.costsL l) : CostOk l := fun j hj => by
  have := St.costsL_get h hj
  rw [St.costs_eq] at this
  exact ⟨this.1, this.2.1⟩
theorem CostOk.dp {l : List St} (F : List St → List St) (h : CostOk l) : CostOk (l.map (St.dp F)) := fun j hj => by
  have := h j (by simpa using hj)
  simpa using this
theorem Arg.rows_append (a b : List Arg) : Arg.rows (a ++ b) = Arg.rows a ++ Arg.rows b := by simp [Arg.rows]
theorem argsOf_len (l : List St) : (argsOf l).length ≤ l.length := by simp only [argsOf, List.length_map]; exact List.length_filter_le _ _
theorem seg_snoc {l : List St} {a b : Nat} (h : a ≤ b) (hb : b < l.length) : seg l a (b + 1) = seg l a b ++ [nth l b] := by
  rw [seg_app l (b := b) h (by omega), seg_cons (by omega) hb, seg_nil]
theorem seg_len {l : List St} {a b : Nat} : (seg l a b).length ≤ b - a := by simp [seg]; omega

/-- The cells of a statement with another cost and other lists. -/
def cellsC (x : St) (c : Int) (args body els arms : AV) : List AV := [.int .i64 x.kind, .int .i64 c, .int .i64 x.n, .int .i64 x.m, .int .i64 x.e.op, .int .i64 x.e.t, .int .i64 x.e.n, .int .i64 x.e.m, .sl .no (Ex.rows x.e.l),
      .int .i64 x.i.op, .int .i64 x.i.t, .int .i64 x.i.n, .int .i64 x.i.m, .sl .no (Ex.rows x.i.l), .sl .no (Ex.rows x.l), args, body, els, arms]
set_option maxRecDepth 20000 in
set_option maxHeartbeats 16000000 in
theorem merge36_ok : ∀ (k : Nat) (l : List St), St.sizeL l < k → k < 100000000 → St.costsL l → PCall Try.prog 9 [.sl .no (St.rows l)] (.sl .no (St.rows (mergeF (l.map (St.dp mergeF))))) := by
  intro k
  induction k with
  | zero => intro l h; omega
  | succ k ih =>
  intro l hk hk2 hcl
  have hlen := St.len_size l
  have hco := CostOk.of hcl
  refine pcall_fn Code.ok9 (by simp [Code.f9]) fun H => ?_
  simp [Code.f9]
  have hLl : (l.map (St.dp mergeF)).length = l.length := by simp
  have hmr := merge_ref (l.map (St.dp mergeF))
  refine LoopK.told (σ := Nat × Wh × AHeap) (fun s => [(4, .int .i64 s.1), (0, .sl .no (St.rows l)), (3, outV s.2.1 (mergeF ((l.map (St.dp mergeF)).take s.1)).length 19)]) (fun s => s.2.2)
    (fun s => s.1 ≤ l.length ∧ WOk H.length s.2.1 ∧ OutAt s.2.2 s.2.1 (mergeF ((l.map (St.dp mergeF)).take s.1)).length (St.rows (mergeF ((l.map (St.dp mergeF)).take s.1))) ∧ Ov s.2.2 H) (fun s => l.length - s.1) (0, none, H) ?_ ?_ ?_ ?_
  · exact ⟨by simp, by simp, by simpa [mergeF] using OutAt.nil H, Ov.refl H⟩
  · simp
  · simp
  rintro ⟨i, w, J⟩ ⟨hi, hw, hO, hJ⟩
  simp only at hi hw hO hJ
  simp [Code.f9l0]
  refine ⟨fun h => ?_, fun h => ?_⟩
  · have hs := St.size_mem h
    have hse := St.size_eq l[i]
    have hal := Arm.len_size l[i].arms
    have har := Arg.len_size l[i].args
    have hcx := St.costsL_get hcl h
    rw [St.costs_eq] at hcx
    have ho := mergeF_ok' ((hco.dp mergeF).take i)
    have hm1 := hmr i (by rw [hLl]; omega)
    have hm2 := (hmr (i + 1) (by rw [hLl]; omega)).2.1 i (by omega)
    have hm3 := (hmr (i + 1) (by rw [hLl]; omega)).1
    rw [List.range_succ, List.foldl_append, hm1.1] at hm3
    have hF : mergeF ((l.map (St.dp mergeF)).take (i + 1)) = refStep (l.map (St.dp mergeF)) (mergeF ((l.map (St.dp mergeF)).take i)) i := hm3.symm
    rw [refStep, ahead_dp mergeF h, nth_dp mergeF h, nth_get h] at hF
    rw [ahead_dp mergeF h] at hm2
    generalize hn : ahead l i = n at hF hm2
    have hah := ahead_ok l i h (by omega) hco (by omega)
    rw [hn] at hah
    generalize hx : l[i] = x at hs hse hal har hcx hF
    generalize mergeF ((l.map (St.dp mergeF)).take i) = o at hF ho hO hm2 ⊢
    have hol : o.length ≤ l.length := by have := ho.2; simp at this; omega
    refine CallK.pure hah ?_
    have hoi : o.length ≤ i := by have := ho.2; simp at this; omega
    have hg := List.getElem?_eq_getElem h
    rw [hx] at hg
    have hw1 : IntKind.i64.wrap ((o.length : Int) - n) = ((o.length - n : Nat) : Int) := by rw [wrap_id (by omega) (by omega)]; omega
    simp [lenS_out hO, hw1]
    refine OptK.mk (slcS_out hO (by omega) (by omega)) ?_
    have hO0 := hO.cut (m := o.length - n) (by omega)
    have eq0 : ((o.length - n : Nat) : Int).toNat = o.length - n := by omega
    rw [eq0]
    simp [hg]
    intro g
    have hx1 : (J ++ [some (.rows g [x.cells])])[J.length]? = some (some (.rows g [x.cells])) := by simp
    have hO1 := hO0.app [some (.rows g [x.cells])]
    have hJ1 := hJ.app [some (.rows g [x.cells])]
    have hof : Off w J.length := fun b g' e => by have := get_lt (hO.2.2 b g' e); omega
    have hbx := hJ.len
    generalize J ++ [some (.rows g [x.cells])] = J1 at hx1 hO1 hJ1 ⊢
    generalize J.length = bx at hx1 hbx hof ⊢
    have hs1 := fun y => List.getElem?_set_self (a := y) (get_lt hx1)
    refine CallK.pure (ih x.body (by omega) (by omega) hcx.2.2.1) ?_
    rw [St.cells_eq x] at hx1
    simp [hx1, hs1]
    refine CallK.pure (ih x.els (by omega) (by omega) hcx.2.2.2.1) ?_
    simp [hx1, hs1]
    generalize hb' : mergeF (x.body.map (St.dp mergeF)) = body
    generalize he' : mergeF (x.els.map (St.dp mergeF)) = els
    generalize hJe : J1.set bx _ = J2
    have hx2 := (congrArg (fun J => J[bx]?) hJe.symm).trans (hs1 _)
    have hO2 : OutAt J2 w (o.length - n) (St.rows o) := hJe ▸ hO1.set hof
    have hJ2 : Ov J2 H := hJe ▸ hJ1.set hbx _
    clear hJe hs1 hx1 hO1 hJ1
    refine LoopK.told (σ := Nat × Wh × AHeap) (fun s => [(8, .int .i64 s.1), (7, .sl (ownS s.2.1) (Arm.rows ((x.arms.take s.1).map (Arm.dp mergeF)))), (6, .ptr bx g 0 0), (5, .int .i64 n), (4, .int .i64 i), (0, .sl .no (St.rows l)), (3, outV w (o.length - n) 19)]) (fun s => s.2.2)
      (fun s => s.1 ≤ x.arms.length ∧ WOk H.length s.2.1 ∧ TailAt s.2.2 s.2.1 2 ∧ OutAt s.2.2 w (o.length - n) (St.rows o) ∧ Ov s.2.2 H ∧ s.2.2[bx]? = J2[bx]?) (fun s => x.arms.length - s.1) (0, none, J2) ?_ ?_ ?_ ?_
    · exact ⟨by simp, by simp, by simp, hO2, hJ2, rfl⟩
    · simp
    · simp
    rintro ⟨j, v, J3⟩ ⟨hj, hv, hTv, hO3, hJ3, hx3⟩
    simp only at hj hv hTv hO3 hJ3 hx3
    simp only [hx2] at hx3
    simp [Code.f9l1, hx3]
    refine ⟨fun hjl => ?_, fun hjl => ?_⟩
    · have hav := Arm.size_mem hjl
      have hae := Arm.size_eq x.arms[j]
      have hat := List.take_succ_eq_append_getElem hjl
      have hg := List.getElem?_eq_getElem hjl
      have hca := Arm.costsL_get hcx.2.2.2.2 hjl
      rw [Arm.costs_eq] at hca
      simp [hg, hx3]
      refine PCallK.pure (ih x.arms[j].body (by omega) (by omega) hca) ?_
      simp
      intro g3
      refine app_own' hTv hv hJ3 (by simp) Arm.rows_mem (by simp) (by simp; omega) fun v4 J4 hTv4 hv4 hJ4 hk4 hkt4 => ?_
      simp
      refine ⟨j + 1, v4, J4, ⟨by omega, hv4, hTv4, hO3.kept hk4, hJ4, ?_⟩, by omega, ⟨wkn_int (wrap_id (by omega) (by omega)), ?_⟩, .refl _⟩
      · rw [hx2]; exact hk4 _ _ _ hx3
      · have e : List.take (j + 1) (List.map (Arm.dp mergeF) x.arms) = List.take j (List.map (Arm.dp mergeF) x.arms) ++ [Arm.dp mergeF x.arms[j]] := by rw [← List.map_take, hat, List.map_append, List.map_take]; rfl
        rw [e, Arm.rows_snoc]
        refine wkn_rows (.snoc _ ?_)
        rw [Arm.dp_eq, Arm.cells]
        simp
    · simp [hx3]
      generalize hJe : J3.set bx _ = J5
      have hs3 := fun y => List.getElem?_set_self (a := y) (get_lt hx3)
      have hx5 := (congrArg (fun J => J[bx]?) hJe.symm).trans (hs3 _)
      have hO5 : OutAt J5 w (o.length - n) (St.rows o) := hJe ▸ hO3.set hof
      have hJ5 : Ov J5 H := hJe ▸ hJ3.set hbx _
      rw [← List.map_take, List.take_of_length_le hjl] at hx5
      clear hJe hs3 hx3 hO3 hJ3
      have hx5 : J5[bx]? = some (some (.rows g [cellsC x x.cost (.sl .no (Arg.rows x.args)) (.sl .no (St.rows body)) (.sl .no (St.rows els)) (.sl (ownS v) (Arm.rows (x.arms.map (Arm.dp mergeF))))])) := hx5
      generalize hav : AV.sl (ownS v) (Arm.rows (x.arms.map (Arm.dp mergeF))) = av at hx5
      have hwi : IntKind.i64.wrap ((i : Int) - n) = ((i - n : Nat) : Int) := by rw [wrap_id (by omega) (by omega)]; omega
      rw [hwi]
      refine LoopK.told (σ := Nat × Wh × AHeap) (fun s => [(10, .int .i64 s.1), (9, .sl (ownS s.2.1) (Arg.rows (argsOf (seg l (i - n) s.1)))), (6, .ptr bx g 0 0), (5, .int .i64 n), (4, .int .i64 i), (0, .sl .no (St.rows l)), (3, outV w (o.length - n) 19)]) (fun s => s.2.2)
        (fun s => i - n ≤ s.1 ∧ s.1 ≤ i ∧ 0 ≤ costOf (seg l (i - n) s.1) ∧ costOf (seg l (i - n) s.1) ≤ 1048576 * s.1 ∧ WOk H.length s.2.1 ∧ TailAt s.2.2 s.2.1 6 ∧ OutAt s.2.2 w (o.length - n) (St.rows o) ∧ Ov s.2.2 H ∧ s.2.2[bx]? = some (some (.rows g [cellsC x (x.cost + costOf (seg l (i - n) s.1)) (.sl .no (Arg.rows x.args)) (.sl .no (St.rows body)) (.sl .no (St.rows els)) av]))) (fun s => i - s.1) (i - n, none, J5) ?_ ?_ ?_ ?_
      · refine ⟨Nat.le_refl _, by simp only; omega, by simp [seg_nil, costOf], by simp [seg_nil, costOf]; omega, by simp, by simp, hO5, hJ5, ?_⟩
        simp only [seg_nil, costOf, List.map_nil, List.sum_nil, Int.add_zero]; exact hx5
      · simp [seg_nil, argsOf]
      · simp
      rintro ⟨m, v6, J6⟩ ⟨hm0, hm, hc0, hc1, hv6, hT6, hO6, hJ6, hx6⟩
      simp only at hm0 hm hc0 hc1 hv6 hT6 hO6 hJ6 hx6
      simp [Code.f9l2]
      refine ⟨fun hml => ?_, fun hml => ?_⟩
      · have hkl : m < l.length := by omega
        have hny := nth_get hkl
        have hcy := hco _ hkl
        have hsg := seg_snoc (l := l) hm0 hkl
        generalize hz : l[m] = z at hny hcy
        have hgz : l[m]? = some z := by rw [List.getElem?_eq_getElem hkl, hz]
        rw [hny] at hsg
        have hs6 := fun y => List.getElem?_set_self (a := y) (get_lt hx6)
        have hcs : costOf (seg l (i - n) (m + 1)) = costOf (seg l (i - n) m) + z.cost := by rw [hsg, costOf_app, costOf_cons]; simp [costOf]
        have hsl : (argsOf (seg l (i - n) m)).length ≤ m := Nat.le_trans (argsOf_len _) (Nat.le_trans seg_len (by omega))
        have hcw : IntKind.i64.wrap (x.cost + costOf (seg l (i - n) m) + z.cost) = x.cost + costOf (seg l (i - n) (m + 1)) := by rw [wrap_id (by omega) (by omega)]; omega
        simp [hgz]
        refine ⟨fun h4 => ?_, fun h4 => ?_⟩
        · intro g7
          refine app_own hT6 hv6 hJ6 (by simp) Arg.rows_mem (by simp) (by simp; omega) fun v7 J7 hT7 hv7 hJ7 hk7 => ?_
          have hx7 := hk7 _ _ _ hx6
          have hs7 := fun y => List.getElem?_set_self (a := y) (get_lt hx7)
          simp [hx7, hgz, cellsC]
          rw [hcw]
          refine ⟨m + 1, v7, J7.set bx (some (.rows g [cellsC x (x.cost + costOf (seg l (i - n) (m + 1))) (.sl .no (Arg.rows x.args)) (.sl .no (St.rows body)) (.sl .no (St.rows els)) av])), ⟨by omega, by omega, by omega, by omega, hv7, hT7.set hx7, (hO6.kept hk7).set hof, hJ7.set hbx _, hs7 _⟩, by omega, ⟨wkn_int (wrap_id (by omega) (by omega)), ?_⟩, .refl _⟩
          rw [hsg, argsOf_app, argsOf_4 _ h4]
          exact wkn_rows (by simp [Arg.rows, argsOf, Arg.cells])
        · simp [hx6, hgz, cellsC]
          rw [hcw]
          refine ⟨m + 1, v6, J6.set bx (some (.rows g [cellsC x (x.cost + costOf (seg l (i - n) (m + 1))) (.sl .no (Arg.rows x.args)) (.sl .no (St.rows body)) (.sl .no (St.rows els)) av])), ⟨by omega, by omega, by omega, by omega, hv6, hT6.set hx6, hO6.set hof, hJ6.set hbx _, hs6 _⟩, by omega, ⟨wkn_int (wrap_id (by omega) (by omega)), ?_⟩, .refl _⟩
          rw [hsg, argsOf_app, argsOf_0 _ h4]
          exact wkn_rows (by simp [argsOf])
      · obtain rfl : m = i := by omega
        have hsl : (argsOf (seg l (m - n) m)).length ≤ m := Nat.le_trans (argsOf_len _) (Nat.le_trans seg_len (by omega))
        refine LoopK.told (σ := Nat × Wh × AHeap) (fun s => [(11, .int .i64 s.1), (9, .sl (ownS s.2.1) (Arg.rows (argsOf (seg l (m - n) m) ++ x.args.take s.1))), (6, .ptr bx g 0 0), (4, .int .i64 m), (0, .sl .no (St.rows l)), (3, outV w (o.length - n) 19)]) (fun s => s.2.2)
          (fun s => s.1 ≤ x.args.length ∧ WOk H.length s.2.1 ∧ TailAt s.2.2 s.2.1 6 ∧ OutAt s.2.2 w (o.length - n) (St.rows o) ∧ Ov s.2.2 H ∧ s.2.2[bx]? = J6[bx]?) (fun s => x.args.length - s.1) (0, v6, J6) ?_ ?_ ?_ ?_
        · exact ⟨by simp, hv6, hT6, hO6, hJ6, rfl⟩
        · simp
        · simp
        rintro ⟨u, v8, J8⟩ ⟨hu, hv8, hT8, hO8, hJ8, hx8⟩
        simp only at hu hv8 hT8 hO8 hJ8 hx8
        simp only [hx6] at hx8
        simp [Code.f9l3, hx8, cellsC]
        refine ⟨fun hul => ?_, fun hul => ?_⟩
        · have hut := List.take_succ_eq_append_getElem hul
          simp [List.getElem?_eq_getElem hul]
          intro g9
          refine app_own hT8 hv8 hJ8 (by simp) Arg.rows_mem (by simp) (by simp; omega) fun v9 J9 hT9 hv9 hJ9 hk9 => ?_
          simp
          refine ⟨u + 1, v9, J9, ⟨by omega, hv9, hT9, hO8.kept hk9, hJ9, ?_⟩, by omega, ⟨wkn_int (wrap_id (by omega) (by omega)), ?_⟩, .refl _⟩
          · rw [hx6]; exact hk9 _ _ _ hx8
          · rw [hut, ← List.append_assoc, Arg.rows_append, Arg.rows_append]
            simp [Arg.rows]
        · have hs8 := fun y => List.getElem?_set_self (a := y) (get_lt hx8)
          simp [hx8, cellsC, hs8]
          intro g9
          refine app_out (hO8.set hof) hw (hJ8.set hbx _) (by simp) (by simp) (by simp; omega) fun b9 J9 hO9 hb9 hJ9 hk9 => ?_
          simp
          have hse : (List.drop (m - n) (l.map (St.dp mergeF))).take n = (seg l (m - n) m).map (St.dp mergeF) := by
            rw [← seg_dp]; unfold seg; congr 1; omega
          rw [hse, argsOf_dp, costOf_dp, St.dp_args, St.dp_cost] at hF
          have e2 : (mergeF ((l.map (St.dp mergeF)).take (m + 1))).length = o.length - n + 1 := by rw [hF]; simp
          have h9 := hO9.2.2 _ _ rfl
          have e3 : St.rows (mergeF ((l.map (St.dp mergeF)).take (m + 1))) = List.take (o.length - n) (St.rows o) ++ [((x.dp mergeF).put (argsOf (seg l (m - n) m) ++ x.args) (x.cost + costOf (seg l (m - n) m))).cells] := by rw [hF, St.rows_snoc, St.rows_take]
          refine ⟨m + 1, some (b9, g9), J9.set b9 (some (.rows g9 (St.rows (mergeF ((l.map (St.dp mergeF)).take (m + 1)))))), ⟨by omega, fun b' g' e => (by cases e; exact hb9), ⟨fun e => (by cases e), by simp, fun b' g' e => (by cases e; exact List.getElem?_set_self (get_lt h9))⟩, hJ9.set hb9 _⟩, by omega, ⟨wkn_int (wrap_id (by omega) (by omega)), ?_⟩, hwk_set h9 (bw_rows ?_)⟩
          · rw [e2]; exact .refl _
          · rw [e3]
            refine .snoc _ ?_
            rw [St.dp_eq, St.put, St.cells]
            rw [List.take_of_length_le hul]
            simp [hb', he', ← hav]
  · rw [List.take_of_length_le (by simpa using h)] at hO ⊢
    exact end_out hO hw hJ.hwk (List.take_of_length_le (by simp))
end Go.Proofs.Ytafhiicjmlkhcaa
