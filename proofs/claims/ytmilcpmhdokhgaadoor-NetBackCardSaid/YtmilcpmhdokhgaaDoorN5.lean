/- Normal forms: by definition; the law's end. -/
import Derived.Test.YtmilcpmhdokhgaaDoorN4
set_option linter.unusedVariables false
set_option linter.unusedSimpArgs false
namespace Go.Proofs.YtmilcpmhdokhgaaDoor
open Go Go.RowKit Go.Proofs.YtmilcpmhdokhgaaDoor.Abs

def asN (e : Ex) (r0 r1 : Ex × Ex) : Ex :=
  if e.op = 6 then r0.2
  else if e.op ≠ 7 then e
  else if e.m = 14 ∨ e.m = 15 then Ex.bin e.m r0.1 r1.1
  else if e.m = 20 then Ex.bin 15 (Ex.bin 14 r0.1 r1.1) (Ex.bin 14 r0.2 r1.2)
  else Ex.bin 15 (Ex.bin 14 r0.1 r1.2) (Ex.bin 14 r0.2 r1.1)
def tuN (e : Ex) (r0 r1 : Ex × Ex) : Ex :=
  if e.op = 1 then .mk 1 e.t (IntKind.i64.wrap (1 - e.n)) 0 []
  else if e.op = 6 then r0.1
  else if e.op ≠ 7 then e.neg
  else if e.m = 14 ∨ e.m = 15 then Ex.bin (IntKind.i64.wrap (29 - e.m)) r0.2 r1.2
  else if e.m = 20 then Ex.bin 15 (Ex.bin 14 r0.1 r1.2) (Ex.bin 14 r0.2 r1.1)
  else Ex.bin 15 (Ex.bin 14 r0.1 r1.1) (Ex.bin 14 r0.2 r1.2)
def Ex.at : Ex → Ex × Ex := Ex.para fun e rs => (asN e (rs.getD 0 (e, e)) (rs.getD 1 (e, e)), tuN e (rs.getD 0 (e, e)) (rs.getD 1 (e, e)))
theorem Ex.at_eq (e : Ex) : e.at = (asN e ((e.l.map Ex.at).getD 0 (e, e)) ((e.l.map Ex.at).getD 1 (e, e)), tuN e ((e.l.map Ex.at).getD 0 (e, e)) ((e.l.map Ex.at).getD 1 (e, e))) := Ex.para_eq _ e
/-- A truth: a leaf, one of one, or one of two. -/
theorem Ex.truth_cases {s : Sc} {e : Ex} (h : e.truth s = true) : e.leaf s = true ∨ (e.isOne = true ∧ ∃ x, e.l = [x] ∧ x.truth s = true) ∨ (e.isOne = false ∧ e.op = 7 ∧ (e.m = 14 ∨ e.m = 15 ∨ e.m = 16 ∨ e.m = 20 ∨ e.m = 21) ∧ (∀ ops, e.isTwo ops = ops.any fun o => decide (e.m = o)) ∧ ∃ x y, e.l = [x, y] ∧ x.truth s = true ∧ y.truth s = true) := by
  rw [Ex.truth_eq] at h
  cases hl : e.leaf s with
  | true => exact .inl rfl
  | false =>
    rw [hl] at h
    simp only [Bool.false_or, Bool.and_eq_true] at h
    obtain ⟨h1, h2⟩ := h
    cases ho : e.isOne with
    | true =>
      obtain ⟨x, hx⟩ := Ex.one_l ho
      rw [hx] at h2
      exact .inr (.inl ⟨rfl, x, hx, by simpa using h2⟩)
    | false =>
      rw [ho] at h1
      have h3 : ∃ ops, e.isTwo ops = true ∧ (e.m = 14 ∨ e.m = 15 ∨ e.m = 16 ∨ e.m = 20 ∨ e.m = 21) := by
        simp at h1
        rcases h1 with h | h
        · refine ⟨_, h, ?_⟩; simp [Ex.isTwo] at h; omega
        · refine ⟨_, h, ?_⟩; simp [Ex.isTwo] at h; omega
      obtain ⟨ops, h3, hm⟩ := h3
      obtain ⟨x, y, hx⟩ := Ex.two_l h3
      rw [hx] at h2
      simp [Ex.isTwo] at h3
      refine .inr (.inr ⟨rfl, h3.1.1, hm, fun ops => ?_, x, y, hx, by simpa using h2⟩)
      simp [Ex.isTwo, h3.1]
theorem leaf_op {s : Sc} {e : Ex} (h : e.leaf s = true) : e.op ≠ 6 ∧ e.op ≠ 7 := by simp [Ex.leaf, Ex.lop] at h; omega

set_option maxRecDepth 20000 in
set_option maxHeartbeats 8000000 in
theorem r43_at (s : Sc) : ∀ (k : Nat), k ≤ 1000000000 → ∀ e : Ex, e.size < k → e.truth s = true →
    PCall Tryd.prog 18 [.agg e.cells] (.agg e.at.1.cells) ∧ PCall Tryd.prog 45 [.agg e.cells] (.agg e.at.2.cells) := by
  intro k
  induction k with
  | zero => intro _ e h; omega
  | succ k ih =>
  intro hk e he ht
  have hsz := Ex.size_eq e
  have e0 := Ex.at_eq e
  have vf : ∀ {x : Ex} {H J : AHeap}, VShift (.agg x.cells) (H ++ J) (.agg x.cells) H := fun {x H J} => vshift_drop (.refl _) (.front _ _)
  rcases Ex.truth_cases ht with hl | ⟨h1, x, hx, hxt⟩ | ⟨h1, h7, hm, hops, x, y, hx, hxt, hyt⟩
  · have hL := Ex.leaf_l hl
    obtain ⟨h6, h7⟩ := leaf_op hl
    simp [hL, asN, tuN, h6, h7] at e0
    rw [e0]
    constructor
    · refine pcall_fn Code.ok18 (by simp [Code.f18]) fun H => ?_
      simp [Code.f18, h6, h7]
      intro g1 g2
      exact vf
    · refine pcall_fn Code.ok45 (by simp [Code.f45]) fun H => ?_
      by_cases h : e.op = 1
      · simp [Code.f45, h6, h7, h]
        intro g1 g2
        exact vshift_drop (wkn_agg (by simp [Ex.cells, Ex.rows])) (.front _ _)
      · simp [Code.f45, h6, h7, h]
        intro g1 g2
        exact v_neg
  · have h6 : e.op = 6 := by simp [Ex.isOne] at h1; exact h1.1
    have hs := Ex.size_mem (l := e.l) (i := 0) (by simp [hx])
    simp only [hx, List.getElem_cons_zero] at hs
    rw [hx] at hsz
    obtain ⟨ia, it⟩ := ih (by omega) x (by omega) hxt
    simp [hx, asN, tuN, h6] at e0
    rw [e0]
    constructor
    · refine pcall_fn Code.ok18 (by simp [Code.f18]) fun H => ?_
      simp [Code.f18, h6, hx]
      intro g1 g2
      refine CallK.pure it ?_
      simp
      exact vf
    · refine pcall_fn Code.ok45 (by simp [Code.f45]) fun H => ?_
      simp [Code.f45, h6, hx]
      intro g1 g2
      refine CallK.pure ia ?_
      simp
      exact vf
  · have hs := Ex.size_mem (l := e.l) (i := 0) (by simp [hx])
    have hs2 := Ex.size_mem (l := e.l) (i := 1) (by simp [hx])
    simp only [hx, List.getElem_cons_zero, List.getElem_cons_succ] at hs hs2
    rw [hx] at hsz
    obtain ⟨xa, xt⟩ := ih (by omega) x (by omega) hxt
    obtain ⟨ya, yt⟩ := ih (by omega) y (by omega) hyt
    rw [e0]
    constructor
    · refine pcall_fn Code.ok18 (by simp [Code.f18]) fun H => ?_
      rcases hm with hm | hm | hm | hm | hm
      all_goals
        simp [Code.f18, h7, hx, hm, asN]
        intro g1 g2 g3 g4
      · refine PCallK.pure xa ?_
        simp
        refine PCallK.pure ya ?_
        simp
        refine PCallK.pure (r43_both _ _ _) ?_
        simp
        exact vf
      · refine PCallK.pure xa ?_
        simp
        refine PCallK.pure ya ?_
        simp
        refine PCallK.pure (r43_both _ _ _) ?_
        simp
        exact vf
      · refine PCallK.pure xa ?_
        simp
        refine PCallK.pure yt ?_
        simp
        refine PCallK.pure (r43_both _ _ _) ?_
        simp
        refine PCallK.pure xt ?_
        simp
        refine PCallK.pure ya ?_
        simp
        refine PCallK.pure (r43_both _ _ _) ?_
        simp
        refine PCallK.pure (r43_both _ _ _) ?_
        simp
        exact vf
      · refine PCallK.pure xa ?_
        simp
        refine PCallK.pure ya ?_
        simp
        refine PCallK.pure (r43_both _ _ _) ?_
        simp
        refine PCallK.pure xt ?_
        simp
        refine PCallK.pure yt ?_
        simp
        refine PCallK.pure (r43_both _ _ _) ?_
        simp
        refine PCallK.pure (r43_both _ _ _) ?_
        simp
        exact vf
      · refine PCallK.pure xa ?_
        simp
        refine PCallK.pure yt ?_
        simp
        refine PCallK.pure (r43_both _ _ _) ?_
        simp
        refine PCallK.pure xt ?_
        simp
        refine PCallK.pure ya ?_
        simp
        refine PCallK.pure (r43_both _ _ _) ?_
        simp
        refine PCallK.pure (r43_both _ _ _) ?_
        simp
        exact vf
    · refine pcall_fn Code.ok45 (by simp [Code.f45]) fun H => ?_
      rcases hm with hm | hm | hm | hm | hm
      all_goals
        simp [Code.f45, h7, hx, hm, tuN]
        intro g1 g2 g3 g4
      · refine PCallK.pure xt ?_
        simp
        refine PCallK.pure yt ?_
        simp
        refine PCallK.pure (r43_both _ _ _) ?_
        simp
        exact vf
      · refine PCallK.pure xt ?_
        simp
        refine PCallK.pure yt ?_
        simp
        refine PCallK.pure (r43_both _ _ _) ?_
        simp
        exact vf
      · refine PCallK.pure xa ?_
        simp
        refine PCallK.pure ya ?_
        simp
        refine PCallK.pure (r43_both _ _ _) ?_
        simp
        refine PCallK.pure xt ?_
        simp
        refine PCallK.pure yt ?_
        simp
        refine PCallK.pure (r43_both _ _ _) ?_
        simp
        refine PCallK.pure (r43_both _ _ _) ?_
        simp
        exact vf
      · refine PCallK.pure xa ?_
        simp
        refine PCallK.pure yt ?_
        simp
        refine PCallK.pure (r43_both _ _ _) ?_
        simp
        refine PCallK.pure xt ?_
        simp
        refine PCallK.pure ya ?_
        simp
        refine PCallK.pure (r43_both _ _ _) ?_
        simp
        refine PCallK.pure (r43_both _ _ _) ?_
        simp
        exact vf
      · refine PCallK.pure xa ?_
        simp
        refine PCallK.pure ya ?_
        simp
        refine PCallK.pure (r43_both _ _ _) ?_
        simp
        refine PCallK.pure xt ?_
        simp
        refine PCallK.pure yt ?_
        simp
        refine PCallK.pure (r43_both _ _ _) ?_
        simp
        refine PCallK.pure (r43_both _ _ _) ?_
        simp
        exact vf
/-- The normal form, by definition. -/
theorem Ex.norm_at (s : Sc) (e : Ex) : e.truth s = true → e.norm false = e.at.1 ∧ e.norm true = e.at.2 := by
  refine Ex.sized (p := fun e => e.truth s = true → e.norm false = e.at.1 ∧ e.norm true = e.at.2) ?_ e
  intro e ih ht
  rw [Ex.norm_eq, Ex.norm_eq, Ex.at_eq]
  rcases Ex.truth_cases ht with hl | ⟨h1, x, hx, hxt⟩ | ⟨h1, h7, hm, hops, x, y, hx, hxt, hyt⟩
  · have hL := Ex.leaf_l hl
    obtain ⟨h6, h7⟩ := leaf_op hl
    have hl2 := hl
    simp [Ex.leaf] at hl2
    obtain ⟨ho, hty⟩ := hl2
    rw [Ex.ty_eq, hL] at hty
    simp [nodeTy] at hty
    by_cases h : e.op = 1
    · have hm : e.m = 0 := by
        simp [leafTy, h] at hty
        split at hty
        · rename_i hh; exact hh.1
        · cases hty
      simp [normN, asN, tuN, Ex.leaf_one hl, Ex.leaf_two hl, h6, h7, h, Ex.noteN, hm, hL]
    · simp [normN, asN, tuN, Ex.leaf_one hl, Ex.leaf_two hl, h6, h7, h]
  · have h6 : e.op = 6 := by simp [Ex.isOne] at h1; exact h1.1
    have i1 := ih 0 (by simp [hx])
    simp only [hx, List.getElem_cons_zero] at i1
    have i1 := i1 hxt
    simp [hx, normN, asN, tuN, h1, h6, i1.1, i1.2]
  · have i1 := ih 0 (by simp [hx])
    have i2 := ih 1 (by simp [hx])
    simp only [hx, List.getElem_cons_zero, List.getElem_cons_succ] at i1 i2
    have i1 := i1 hxt
    have i2 := i2 hyt
    rcases hm with hm | hm | hm | hm | hm <;> simp [hx, normN, asN, tuN, h1, h7, hops, hm, i1.1, i1.2, i2.1, i2.2]
theorem Ex.cnt_truth {s : Sc} {e : Ex} (h : e.cnt s ≤ 24) : e.truth s = true := by
  rw [Ex.cnt_many] at h
  split at h
  · rename_i hh; exact hh.1
  · omega
theorem Ex.bin_size (op : Int) (a b : Ex) : (Ex.bin op a b).size = 1 + (a.size + b.size) := by simp [Ex.bin, Ex.size, Ex.sizeL]
/-- A normal form is no larger than its literals allow. -/
theorem Ex.at_size (s : Sc) (e : Ex) : e.truth s = true → e.many ≤ 24 → (e.at.1.size : Int) + 1 ≤ 3 * e.many ∧ (e.at.2.size : Int) + 1 ≤ 3 * e.many := by
  refine Ex.sized (p := fun e => e.truth s = true → e.many ≤ 24 → (e.at.1.size : Int) + 1 ≤ 3 * e.many ∧ (e.at.2.size : Int) + 1 ≤ 3 * e.many) ?_ e
  intro e ih ht hm
  rw [Ex.many_eq] at hm
  rw [Ex.many_eq e, Ex.at_eq e]
  rcases Ex.truth_cases ht with hl | ⟨h1, x, hx, hxt⟩ | ⟨h1, h7, hm5, hops, x, y, hx, hxt, hyt⟩
  · have hL := Ex.leaf_l hl
    obtain ⟨h6, h7⟩ := leaf_op hl
    have hsz : e.size = 1 := by rw [Ex.size_eq, hL]; rfl
    have hd : e.dbl = false := by simp [Ex.dbl, h7]
    have hn : e.neg.size = 2 := by simp [Ex.neg, Ex.size, Ex.sizeL, hsz]
    have h1s : ∀ a b c d, (Ex.mk a b c d []).size = 1 := fun a b c d => rfl
    simp only [asN, tuN, hL, hd]
    rw [if_neg h6, if_pos h7]
    simp only [clamp]
    by_cases h : e.op = 1
    · simp [h, h1s, hsz]
    · simp [h, h6, h7, hn, hsz]
  · have h6 : e.op = 6 := by simp [Ex.isOne] at h1; exact h1.1
    have i1 := ih 0 (by simp [hx])
    simp only [hx, List.getElem_cons_zero] at i1
    have hd : e.dbl = false := by simp [Ex.dbl, h6]
    have := Ex.many_range x
    have e1 : clamp x.many = x.many := by rw [clamp, if_neg (by omega)]
    simp [hx, hd, e1] at hm ⊢
    have i1 := i1 hxt hm
    simp [asN, tuN, h6]
    omega
  · have i1 := ih 0 (by simp [hx])
    have i2 := ih 1 (by simp [hx])
    simp only [hx, List.getElem_cons_zero, List.getElem_cons_succ] at i1 i2
    have r1 := Ex.many_range x
    have r2 := Ex.many_range y
    by_cases hd : e.dbl = true
    · simp [hx, hd, clamp] at hm ⊢
      rw [if_neg (by omega)]
      have i1 := i1 hxt (by omega)
      have i2 := i2 hyt (by omega)
      simp [Ex.dbl] at hd
      rcases hm5 with hm | hm | hm | hm | hm <;> simp [asN, tuN, h7, hm, Ex.bin_size] <;> omega
    · have hd : e.dbl = false := by simpa using hd
      simp [hx, hd, clamp] at hm ⊢
      rw [if_neg (by omega)]
      have i1 := i1 hxt (by omega)
      have i2 := i2 hyt (by omega)
      simp [Ex.dbl] at hd
      rcases hm5 with hm | hm | hm | hm | hm <;> simp [asN, tuN, h7, hm, Ex.bin_size] <;> omega
theorem vshift_fst {a x y : AV} {J H : AHeap} (h : Wkn x y) (k : HWk J H) : VShift (.tup [x, a]) J (.tup [y, a]) H := by
  have := vshift_tup (xs := [x, a]) (i := 0) (x := x) rfl (vshift_drop h k)
  simpa using this
def Ex.zero : Ex := .mk 0 0 0 0 []
set_option maxRecDepth 20000 in
theorem nnf_Norm (s : Sc) (e : Ex) (he : e.size < 1000000000) (hw : e.wf) : PCall Tryd.prog 16 [.agg s.cells, .agg e.cells] (.tup [.agg (if e.cnt s ≤ 24 then e.norm false else Ex.zero).cells, .bool (decide (e.cnt s ≤ 24))]) := by
  refine pcall_fn Code.ok16 (by simp [Code.f16]) fun H => ?_
  simp [Code.f16]
  intro g1 g2 g3
  refine CallK.pure (nnf_count s _ (Nat.le_refl _) e he hw) ?_
  simp
  refine ⟨fun h => ?_, fun h => ?_⟩
  · rw [if_neg (by omega)]
    have : decide (e.cnt s ≤ 24) = false := by simp; omega
    rw [this]
    exact vshift_fst (wkn_agg (by simp [Ex.zero, Ex.cells, Ex.rows])) (.front _ _)
  · refine CallK.pure (nnf_norm _ (Nat.le_refl _) e he false) ?_
    rw [if_pos h]
    have : decide (e.cnt s ≤ 24) = true := by simp; omega
    rw [this]
    simp
    exact vshift_drop (.refl _) (.front _ _)
end Go.Proofs.YtmilcpmhdokhgaaDoor
