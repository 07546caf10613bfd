/- Splitting at one level. -/
import Derived.Test.YtafhiicjmlkhcaaS5
import Derived.Test.YtafhiicjmlkhcaaA17
set_option linter.unusedVariables false
set_option linter.unusedSimpArgs false
namespace Go.Proofs.Ytafhiicjmlkhcaa
open Go Go.RowKit Go.Proofs.Ytafhiicjmlkhcaa.Abs

@[simp] theorem St.rows_nil : St.rows [] = [] := by rw [St.rows]
theorem St.rows_snoc (l : List St) (x : St) : St.rows (l ++ [x]) = St.rows l ++ [x.cells] := by rw [St.rows_append]; simp [St.rows]
theorem St.rows_mem {l : List St} : ∀ r ∈ St.rows l, r.length = 19 := by
  induction l with
  | nil => simp
  | cons x r ih => rw [St.rows]; simpa using ih
theorem splitOne_len (x : St) : (splitOne x).length ≤ x.size := by
  have := St.size_eq x
  have := Arg.len_size x.args
  unfold splitOne
  split <;> simp <;> omega
theorem splitF_take {l : List St} {i : Nat} (h : i < l.length) : splitF (l.take (i + 1)) = splitF (l.take i) ++ splitOne l[i] := by
  unfold splitF; rw [List.take_succ_eq_append_getElem h, List.flatMap_append]; simp
theorem splitF_len (l : List St) : (splitF l).length ≤ St.sizeL l := by
  induction l with
  | nil => simp [splitF]
  | cons x r ih => have := splitOne_len x; simp only [splitF, List.flatMap_cons, List.length_append, St.sizeL] at ih ⊢; omega
theorem St.sizeL_take_le (l : List St) (i : Nat) : St.sizeL (l.take i) ≤ St.sizeL l := by
  induction l generalizing i with
  | nil => simp
  | cons x r ih => cases i with
    | zero => simp [St.sizeL]
    | succ i => have := ih i; simp [St.sizeL]; omega

@[simp] theorem Ex.rows_nil : Ex.rows [] = [] := by rw [Ex.rows]
@[simp] theorem Arm.rows_nil : Arm.rows [] = [] := by rw [Arm.rows]
@[simp] theorem Arg.rows_nil : Arg.rows [] = [] := rfl
theorem field_wk (n : Int) (a : Arg) : WkL (.int .i64 4 :: .int .i64 0 :: .int .i64 n :: .int .i64 a.field :: (a.e.cells ++ [.int .i64 0, .int .i64 0, .int .i64 0, .int .i64 0, .sl .full [], .sl .full [], .sl .full [], .sl .full [], .sl .full [], .sl .full []])) (St.field n a).cells := by
  rw [Ex.cells_eq]
  simp [St.field, St.cells, Ex.zero, Ex.op, Ex.t, Ex.n, Ex.m, Ex.l]
set_option maxRecDepth 20000 in
set_option maxHeartbeats 4000000 in
theorem splitF_ok (l : List St) (hl : St.sizeL l < 1000000000) : PCall Try.prog 18 [.sl .no (St.rows l)] (.sl .no (St.rows (splitF l))) := by
  have hlen := St.len_size l
  refine pcall_fn Code.ok18 (by simp [Code.f18]) fun H => ?_
  simp [Code.f18]
  refine LoopK.told (σ := Nat × Wh × AHeap) (fun s => [(10, .int .i64 s.1), (9, .int .i64 l.length), (8, .sl .no (St.rows l)), (3, .sl (ownS s.2.1) (St.rows (splitF (l.take s.1))))]) (fun s => s.2.2)
    (fun s => s.1 ≤ l.length ∧ WOk H.length s.2.1 ∧ TailAt s.2.2 s.2.1 19 ∧ Ov s.2.2 H) (fun s => l.length - s.1) (0, none, H) ?_ ?_ ?_ ?_
  · simp [Ov.refl]
  · simp [splitF]
  · simp
  rintro ⟨i, w, J⟩ ⟨hi, hw, hT, hJ⟩
  simp only at hi hw hT hJ
  simp [Code.f18l0]
  refine ⟨fun h => ?_, fun h => ?_⟩
  · have hs := St.size_mem h
    have hse := St.size_eq l[i]
    have hal := Arg.len_size l[i].args
    have hsp := splitF_len (l.take i)
    have hst := St.sizeL_take_le l (i + 1)
    rw [St.sizeL_take h] at hst
    have hF := splitF_take h
    generalize hx : l[i] = x at hs hse hal hst hF
    simp [List.getElem?_eq_getElem h, hx]
    intro g
    have hx1 : (J ++ [some (.rows g [x.cells])])[J.length]? = some (some (.rows g [x.cells])) := by simp
    have hT1 := hT.app [some (.rows g [x.cells])]
    have hJ1 := hJ.app [some (.rows g [x.cells])]
    have hbx := hJ.len
    generalize J ++ [some (.rows g [x.cells])] = J1 at hx1 hT1 hJ1 ⊢
    generalize J.length = bx at hx1 hbx ⊢
    refine ⟨fun hk => ?_, fun hk => ?_⟩
    · refine LoopK.told (σ := Nat × Wh × AHeap) (fun s => [(20, .int .i64 s.1), (19, .int .i64 x.args.length), (18, .sl .no (Arg.rows x.args)), (5, .ptr bx g 0 0), (3, .sl (ownS s.2.1) (St.rows (splitF (l.take i) ++ (x.args.take s.1).map (St.field x.n)))), (10, .int .i64 i), (9, .int .i64 l.length), (8, .sl .no (St.rows l))]) (fun s => s.2.2)
        (fun s => s.1 ≤ x.args.length ∧ WOk H.length s.2.1 ∧ TailAt s.2.2 s.2.1 19 ∧ Ov s.2.2 H ∧ s.2.2[bx]? = some (some (.rows g [x.cells]))) (fun s => x.args.length - s.1) (0, w, J1) ?_ ?_ ?_ ?_
      · exact ⟨by simp, hw, hT1, hJ1, hx1⟩
      · simp
      · simp
      rintro ⟨j, w2, J2⟩ ⟨hj, hw2, hT2, hJ2, hx2⟩
      simp only at hj hw2 hT2 hJ2 hx2
      have hx3 := fun l => get_app (l := l) hx2
      have hx4 := fun y => List.getElem?_set_self (a := y) (get_lt hx2)
      simp [Code.f18l1, hx2, hx3, hx4]
      refine ⟨fun hjl => ?_, fun hjl => ?_⟩
      · have hjt := List.take_succ_eq_append_getElem hjl
        generalize ha : x.args[j] = a at hjt
        simp [List.getElem?_eq_getElem hjl, ha, hx3]
        intro g2 g3
        have hlA : (splitF (l.take i)).length + j + 1 ≤ 1000000000 := by omega
        refine app_own (hT2.app _) hw2 (hJ2.app _) (by simp) St.rows_mem (by simp) (by simp; omega) fun w3 J3 hT3 hw3 hJ3 hk3 => ?_
        simp
        have hjt2 : (x.args.map (St.field x.n)).take (j + 1) = (x.args.map (St.field x.n)).take j ++ [St.field x.n a] := by rw [← List.map_take, hjt, List.map_append, List.map_take]; rfl
        refine ⟨j + 1, w3, J3, ⟨by omega, hw3, hT3, hJ3, hk3 _ _ _ (hx3 _)⟩, by omega, ⟨wkn_int (wrap_id (by omega) (by omega)), ?_⟩, .refl _⟩
        rw [hjt2, ← List.append_assoc, St.rows_snoc]
        exact wkn_rows (.snoc _ (field_wk x.n a))
      · rw [← List.map_take, List.take_of_length_le hjl]
        have hs2 : TailAt (J2.set bx (some (.rows g [x.cells.take 15 ++ AV.sl .full [] :: x.cells.drop 16]))) w2 19 := hT2.set hx2
        intro g2
        refine app_own hs2 hw2 (hJ2.set hbx _) (by simp) St.rows_mem (by simp) (by simp; omega) fun w3 J3 hT3 hw3 hJ3 hk3 => ?_
        simp
        refine ⟨i + 1, w3, J3, ⟨by omega, hw3, hT3, hJ3⟩, by omega, ⟨wkn_int (wrap_id (by omega) (by omega)), ?_⟩, .refl _⟩
        rw [hF, splitOne, if_pos hk, ← List.append_assoc, St.rows_snoc]
        refine wkn_rows (.snoc _ ?_)
        rw [St.cells_eq x]
        simp [St.put, St.cells]
    · intro g2
      refine app_own hT1 hw hJ1 (by simp) St.rows_mem (by simp) (by simp; omega) fun w3 J3 hT3 hw3 hJ3 hk3 => ?_
      simp
      refine ⟨i + 1, w3, J3, ⟨by omega, hw3, hT3, hJ3⟩, by omega, ⟨wkn_int (wrap_id (by omega) (by omega)), ?_⟩, .refl _⟩
      rw [hF, splitOne, if_neg hk, St.rows_snoc]; exact .refl _
  · rw [List.take_of_length_le h]
    exact vshift_drop (.no _ _) hJ.hwk
end Go.Proofs.Ytafhiicjmlkhcaa
