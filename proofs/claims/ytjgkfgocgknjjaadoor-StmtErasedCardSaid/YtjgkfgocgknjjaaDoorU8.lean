/- Statements without their costs: the reference. -/
import Derived.Test.YtjgkfgocgknjjaaDoorU7
set_option linter.unusedVariables false
set_option linter.unusedSimpArgs false
namespace Go.Proofs.YtjgkfgocgknjjaaDoor
open Go Go.RowKit Go.Proofs.YtjgkfgocgknjjaaDoor.Abs

mutual
def St.er : St → St
  | .mk k c n m e i l args body els arms => .mk k 0 n m e i l args (St.erL body) (St.erL els) (Arm.erL arms)
def Arm.er : Arm → Arm
  | .mk labels body => .mk labels (St.erL body)
def St.erL : List St → List St
  | [] => []
  | x :: r => if x.kind = 0 then St.erL r else x.er :: St.erL r
def Arm.erL : List Arm → List Arm
  | [] => []
  | x :: r => x.er :: Arm.erL r
end
theorem Arm.erL_map : ∀ l : List Arm, Arm.erL l = l.map Arm.er
  | [] => by simp [Arm.erL]
  | x :: r => by simp [Arm.erL, Arm.erL_map r]
theorem St.er_eq (x : St) : x.er = .mk x.kind 0 x.n x.m x.e x.i x.l x.args (St.erL x.body) (St.erL x.els) (x.arms.map Arm.er) := by cases x; simp only [St.er, Arm.erL_map]; rfl
theorem Arm.er_eq (x : Arm) : x.er = .mk x.labels (St.erL x.body) := by cases x; simp [Arm.er]
theorem St.erL_app : ∀ l m : List St, St.erL (l ++ m) = St.erL l ++ St.erL m
  | [], m => by simp [St.erL]
  | x :: r, m => by
    have := St.erL_app r m
    by_cases h : x.kind = 0 <;> simp [St.erL, h, this]
theorem St.erL_len : ∀ l : List St, (St.erL l).length ≤ l.length
  | [] => by simp [St.erL]
  | x :: r => by
    have := St.erL_len r
    by_cases h : x.kind = 0 <;> simp [St.erL, h] <;> omega
theorem St.rows_mem {l : List St} : ∀ r ∈ St.rows l, r.length = 19 := by
  intro r hr
  induction l with
  | nil => simp [St.rows] at hr
  | cons x l ih => rw [St.rows, List.mem_cons] at hr; rcases hr with rfl | h; simp; exact ih h
theorem Arm.rows_mem {l : List Arm} : ∀ r ∈ Arm.rows l, r.length = 2 := by
  intro r hr
  induction l with
  | nil => simp [Arm.rows] at hr
  | cons x l ih => rw [Arm.rows, List.mem_cons] at hr; rcases hr with rfl | h; simp; exact ih h
theorem Arg.rows_mem {l : List Arg} : ∀ r ∈ Arg.rows l, r.length = 6 := by simp [Arg.rows]
theorem Arm.rows_snoc (l : List Arm) (x : Arm) : Arm.rows (l ++ [x]) = Arm.rows l ++ [x.cells] := by rw [Arm.rows_append]; simp [Arm.rows]
theorem St.rows_snoc (l : List St) (x : St) : St.rows (l ++ [x]) = St.rows l ++ [x.cells] := by rw [St.rows_append]; simp [St.rows]
theorem Arg.rows_snoc (l : List Arg) (x : Arg) : Arg.rows (l ++ [x]) = Arg.rows l ++ [x.cells] := by simp [Arg.rows]

set_option maxRecDepth 20000 in
set_option maxHeartbeats 8000000 in
theorem erase28_ok : ∀ (k : Nat), k ≤ 800000000 → ∀ l : List St, St.sizeL l < k → PCall Tryd.prog 9 [.sl .no (St.rows l)] (.sl .no (St.rows (St.erL l))) := by
  intro k
  induction k with
  | zero => intro _ l h; omega
  | succ k ih =>
  intro hk l hl
  have hlen0 := St.len_size l
  refine pcall_fn Code.ok9 (by simp [Code.f9]) fun H => ?_
  simp [Code.f9]
  refine LoopK.told (σ := Nat × Wh × AHeap) (fun s => [(4, .int .i64 s.1), (0, .sl .no (St.rows l)), (3, .sl (ownS s.2.1) (St.rows (St.erL (l.take s.1))))]) (fun s => s.2.2)
    (fun s => s.1 ≤ l.length ∧ WOk H.length s.2.1 ∧ TailAt s.2.2 s.2.1 19 ∧ Ov s.2.2 H) (fun s => l.length - s.1) (0, none, H) ?_ ?_ ?_ ?_
  · simp [Ov.refl]
  · simp [St.erL, St.rows]
  · simp
  rintro ⟨i, w, J⟩ ⟨hi, hw, hT, hJ⟩
  simp only at hi hw hT hJ
  simp [Code.f9l0]
  refine ⟨fun h => ?_, fun h => ?_⟩
  · have hs := St.size_mem h
    have hse := St.size_eq l[i]
    have hal := Arm.len_size l[i].arms
    have ht := congrArg St.erL (List.take_succ_eq_append_getElem h)
    have hg := List.getElem?_eq_getElem h
    have hel := St.erL_len (l.take i)
    have := l[i].e.size_pos
    generalize l[i] = x at hs hse hal ht hg this
    rw [St.erL_app] at ht
    by_cases hk0 : x.kind = 0
    · simp [hg, hk0]
      intro g
      refine ⟨i + 1, w, _, ⟨by omega, hw, hT.app _, hJ.app _⟩, by omega, ⟨wkn_int (wrap_id (by omega) (by omega)), ?_⟩, .refl _⟩
      rw [ht]; simp [St.erL, hk0]
    simp [hg, hk0, St.cells_eq x]
    intro g
    have hbx := hJ.len
    generalize hJe : J ++ [_] = J1
    have hx1 := (congrArg (fun Z => Z[J.length]?) hJe.symm).trans List.getElem?_concat_length
    have hT1 : TailAt J1 w 19 := hJe ▸ hT.app _
    have hJ1 : Ov J1 H := hJe ▸ hJ.app _
    clear hJe
    generalize J.length = bx at hx1 hbx ⊢
    have hs1 := fun y => List.getElem?_set_self (a := y) (get_lt hx1)
    refine CallK.pure (ih (by omega) x.body (by omega)) ?_
    simp [hx1, hs1]
    refine CallK.pure (ih (by omega) x.els (by omega)) ?_
    simp [hx1, hs1]
    generalize hJe : J1.set bx _ = J2
    have hx2 := (congrArg (fun J => J[bx]?) hJe.symm).trans (hs1 _)
    have hT2 : TailAt J2 w 19 := hJe ▸ hT1.set hx1
    have hJ2 : Ov J2 H := hJe ▸ hJ1.set hbx _
    clear hJe hs1 hx1 hT1 hJ1
    refine LoopK.told (σ := Nat × Wh × AHeap) (fun s => [(7, .int .i64 s.1), (6, .sl (ownS s.2.1) (Arm.rows ((x.arms.take s.1).map Arm.er))), (5, .ptr bx g 0 0), (4, .int .i64 i), (0, .sl .no (St.rows l)), (3, .sl (ownS w) (St.rows (St.erL (l.take i))))]) (fun s => s.2.2)
      (fun s => s.1 ≤ x.arms.length ∧ WOk H.length s.2.1 ∧ TailAt s.2.2 s.2.1 2 ∧ TailAt s.2.2 w 19 ∧ Ov s.2.2 H ∧ s.2.2[bx]? = J2[bx]?) (fun s => x.arms.length - s.1) (0, none, J2) ?_ ?_ ?_ ?_
    · exact ⟨by simp, by simp, by simp, hT2, hJ2, rfl⟩
    · simp [Arm.rows]
    · simp
    rintro ⟨j, v, J3⟩ ⟨hj, hv, hTv, hT3, hJ3, hx3⟩
    simp only at hj hv hTv hT3 hJ3 hx3
    simp only [hx2] at hx3
    simp [Code.f9l1, hx3]
    refine ⟨fun hjl => ?_, fun hjl => ?_⟩
    · have hav := Arm.size_mem hjl
      have hae := Arm.size_eq x.arms[j]
      have hat := congrArg (List.map Arm.er) (List.take_succ_eq_append_getElem hjl)
      have hg := List.getElem?_eq_getElem hjl
      simp [hg, hx3]
      refine PCallK.pure (ih (by omega) x.arms[j].body (by omega)) ?_
      simp
      intro g3
      refine app_own' hTv hv hJ3 (by simp) Arm.rows_mem (by simp) (by simp; omega) fun v4 J4 hTv4 hv4 hJ4 hk4 hkt4 => ?_
      simp
      refine ⟨j + 1, v4, J4, ⟨by omega, hv4, hTv4, hkt4 _ _ (by omega) hT3, hJ4, ?_⟩, by omega, ⟨wkn_int (wrap_id (by omega) (by omega)), ?_⟩, .refl _⟩
      · rw [hx2]; exact hk4 _ _ _ hx3
      · simp only [List.map_append, List.map_cons, List.map_nil] at hat
        rw [← List.map_take, ← List.map_take, hat, Arm.rows_snoc]
        refine wkn_rows (.snoc _ ?_)
        rw [Arm.er_eq, Arm.cells]
        simp
    · simp [hx3]
      rw [← List.map_take, List.take_of_length_le hjl]
      have hs3 := fun y => List.getElem?_set_self (a := y) (get_lt hx3)
      simp [hs3]
      intro g5
      refine app_own (hT3.set hx3) hw (hJ3.set hbx _) (by simp) St.rows_mem (by simp) (by simp at hel ⊢; omega) fun w6 J6 hT6 hw6 hJ6 hk6 => ?_
      simp
      refine ⟨i + 1, w6, J6, ⟨by omega, hw6, hT6, hJ6⟩, by omega, ⟨wkn_int (wrap_id (by omega) (by omega)), ?_⟩, .refl _⟩
      rw [ht, show St.erL [x] = [x.er] by simp [St.erL, hk0], St.rows_snoc]
      refine wkn_rows (.snoc _ ?_)
      rw [St.er_eq, St.cells_eq]
      simp
  · rw [List.take_of_length_le h]
    exact vshift_drop (wkn_no _ _) hJ.hwk
end Go.Proofs.YtjgkfgocgknjjaaDoor
