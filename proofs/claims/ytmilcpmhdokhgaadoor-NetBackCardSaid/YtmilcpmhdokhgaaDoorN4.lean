/- Normal forms: the normal form of a truth. -/
import Derived.Test.YtmilcpmhdokhgaaDoorN3
set_option linter.unusedVariables false
set_option linter.unusedSimpArgs false
namespace Go.Proofs.YtmilcpmhdokhgaaDoor
open Go Go.RowKit Go.Proofs.YtmilcpmhdokhgaaDoor.Abs

def Ex.bin (op : Int) (a b : Ex) : Ex := .mk 7 0 0 op [a, b]
def Ex.neg (a : Ex) : Ex := .mk 6 0 0 17 [a]
theorem v_bin {op : Int} {a b : Ex} {o : Own} {H J : AHeap} : VShift (.agg [.int .i64 7, .int .i64 0, .int .i64 0, .int .i64 op, .sl o [a.cells, b.cells]]) (H ++ J) (.agg (Ex.bin op a b).cells) H :=
  vshift_drop (wkn_agg (by simp [Ex.bin, Ex.cells, Ex.rows])) (.front _ _)
theorem v_neg {a : Ex} {o : Own} {H J : AHeap} : VShift (.agg [.int .i64 6, .int .i64 0, .int .i64 0, .int .i64 17, .sl o [a.cells]]) (H ++ J) (.agg (Ex.neg a).cells) H :=
  vshift_drop (wkn_agg (by simp [Ex.neg, Ex.cells, Ex.rows])) (.front _ _)
theorem nnf_bin (op : Int) (a b : Ex) : PCall Tryd.prog 59 [.int .i64 op, .agg a.cells, .agg b.cells] (.agg (Ex.bin op a b).cells) := by
  refine pcall_fn Code.ok59 (by simp [Code.f59]) fun H => ?_
  simp [Code.f59]
  intro g1 g2 g3
  exact v_bin
theorem r43_both (op : Int) (a b : Ex) : PCall Tryd.prog 46 [.int .i64 op, .agg a.cells, .agg b.cells] (.agg (Ex.bin op a b).cells) := by
  refine pcall_fn Code.ok46 (by simp [Code.f46]) fun H => ?_
  simp [Code.f46]
  intro g1 g2 g3
  exact v_bin

def Ex.noteN (e : Ex) : Ex := .mk e.op e.t (IntKind.i64.wrap (1 - e.n)) e.m e.l
def normN (e : Ex) (r0 r1 : Bool → Ex) (t : Bool) : Ex :=
  if e.isOne then r0 (!t)
  else if e.isTwo [14, 15] then Ex.bin (if t then IntKind.i64.wrap (29 - e.m) else e.m) (r0 t) (r1 t)
  else if e.isTwo [16, 20, 21] then Ex.bin 15 (Ex.bin 14 (r0 false) (r1 (false == ((decide (e.m = 20)) != t)))) (Ex.bin 14 (r0 true) (r1 (true == ((decide (e.m = 20)) != t))))
  else if e.op = 1 then (if t then e.noteN else e)
  else if t then e.neg else e
def Ex.norm : Ex → Bool → Ex := Ex.para fun e rs => normN e (rs.getD 0 fun _ => e) (rs.getD 1 fun _ => e)
theorem Ex.norm_eq (e : Ex) (t : Bool) : e.norm t = normN e ((e.l.map Ex.norm).getD 0 fun _ => e) ((e.l.map Ex.norm).getD 1 fun _ => e) t := congrFun (Ex.para_eq _ e) t
set_option maxRecDepth 20000 in
set_option maxHeartbeats 4000000 in
theorem nnf_norm : ∀ (k : Nat), k ≤ 1000000000 → ∀ e : Ex, e.size < k → ∀ t : Bool, PCall Tryd.prog 44 [.agg e.cells, .bool t] (.agg (e.norm t).cells) := by
  intro k
  induction k with
  | zero => intro _ e h; omega
  | succ k ih =>
  intro hk e he t
  have hsz := Ex.size_eq e
  refine pcall_fn Code.ok44 (by simp [Code.f44]) fun H => ?_
  have e0 := Ex.norm_eq e t
  have two : ∀ ops, e.isTwo ops = true → ∃ x y, e.l = [x, y] ∧ x.size < k ∧ y.size < k := by
    intro ops h2
    obtain ⟨x, y, hx⟩ := Ex.two_l h2
    have hs := Ex.size_mem (l := e.l) (i := 0) (by simp [hx])
    have hs2 := Ex.size_mem (l := e.l) (i := 1) (by simp [hx])
    simp only [hx, List.getElem_cons_zero, List.getElem_cons_succ] at hs hs2
    rw [hx] at hsz
    exact ⟨x, y, hx, by omega, by omega⟩
  simp [Code.f44]
  intro g1 g2
  refine CallK.pure (nnf_one e) ?_
  cases h1 : e.isOne with
  | true =>
    obtain ⟨x, hx⟩ := Ex.one_l h1
    have hs := Ex.size_mem (l := e.l) (i := 0) (by simp [hx])
    simp only [hx, List.getElem_cons_zero] at hs
    rw [hx] at hsz
    simp [normN, h1, hx] at e0
    rw [e0]
    simp [hx]
    refine CallK.pure (ih (by omega) x (by omega) _) ?_
    simp
    exact vshift_drop (.refl _) (.front _ _)
  | false =>
    simp
    refine CallK.pure (nnf_two e .full [14, 15] (by simp)) ?_
    cases h2 : e.isTwo [14, 15] with
    | true =>
      obtain ⟨x, y, hx, hsx, hsy⟩ := two _ h2
      simp [normN, h1, h2, hx] at e0
      rw [e0]
      cases t
      · simp [hx]
        refine PCallK.pure (ih (by omega) x hsx _) ?_
        simp [hx]
        refine PCallK.pure (ih (by omega) y hsy _) ?_
        simp
        refine PCallK.pure (nnf_bin _ _ _) ?_
        simp
        exact vshift_drop (.refl _) (.front _ _)
      · simp [hx]
        refine PCallK.pure (ih (by omega) x hsx _) ?_
        simp [hx]
        refine PCallK.pure (ih (by omega) y hsy _) ?_
        simp
        refine PCallK.pure (nnf_bin _ _ _) ?_
        simp
        exact vshift_drop (.refl _) (.front _ _)
    | false =>
      simp
      refine CallK.pure (nnf_two e .full [16, 20, 21] (by simp)) ?_
      cases h3 : e.isTwo [16, 20, 21] with
      | true =>
        obtain ⟨x, y, hx, hsx, hsy⟩ := two _ h3
        simp only [normN, h1, h2, h3, hx, Bool.false_eq_true, if_false, if_true] at e0
        rw [e0]
        have half : ∀ (g3 : Nat) (sm a : Bool) (K : AV → AHeap → Prop), K (.agg (Ex.bin 14 (x.norm a) (y.norm (a == sm))).cells) (H ++ [some (.rows g1 [e.cells]), some (.rows g2 [[.int .i64 0, .int .i64 0, .int .i64 0, .int .i64 0, .sl .full []]]), some (.rows g3 [[.bool sm]])]) →
            CallK Tryd.prog 60 [.bool a, .ptr H.length g1 0 0, .ptr (H.length + 2) g3 0 0] (H ++ [some (.rows g1 [e.cells]), some (.rows g2 [[.int .i64 0, .int .i64 0, .int .i64 0, .int .i64 0, .sl .full []]]), some (.rows g3 [[.bool sm]])]) K := by
          intro g3 sm a K hK
          refine acallsH Code.ok60 (by simp [Code.f60]) ?_ hK
          simp [Code.f60, hx]
          intro g4
          refine PCallK.pure (ih (by omega) x hsx _) ?_
          simp [hx]
          refine PCallK.pure (ih (by omega) y hsy _) ?_
          simp
          refine PCallK.pure (nnf_bin _ _ _) ?_
          simp
          exact vshift_drop (.refl _) (hwk_app (by simp))
        simp
        cases t
        · simp
          intro g3
          refine ⟨by rfl, half g3 _ false _ ?_⟩
          simp
          refine ⟨by rfl, half g3 _ true _ ?_⟩
          simp
          refine CallK.pure (nnf_bin _ _ _) ?_
          simp
          exact vshift_drop (.refl _) (.front _ _)
        · simp
          intro g3
          refine ⟨by rfl, half g3 _ false _ ?_⟩
          simp
          refine ⟨by rfl, half g3 _ true _ ?_⟩
          simp
          refine CallK.pure (nnf_bin _ _ _) ?_
          simp
          exact vshift_drop (.refl _) (.front _ _)
      | false =>
        simp only [normN, h1, h2, h3, Bool.false_eq_true, if_false] at e0
        rw [e0]
        by_cases h : e.op = 1
        · cases t
          · simp [h]
            exact vshift_drop (.refl _) (.front _ _)
          · simp [h]
            refine vshift_drop ?_ (.front _ _)
            rw [Ex.cells_eq e]
            simp [Ex.noteN, Ex.cells]
        · cases t
          · simp [h]
            exact vshift_drop (.refl _) (.front _ _)
          · simp [h]
            exact v_neg
end Go.Proofs.YtmilcpmhdokhgaaDoor
