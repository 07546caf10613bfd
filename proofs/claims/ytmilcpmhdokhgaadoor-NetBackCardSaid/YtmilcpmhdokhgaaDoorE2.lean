/- Types of expressions: by definition. -/
import Derived.Test.YtmilcpmhdokhgaaDoorE1
set_option linter.unusedVariables false
set_option linter.unusedSimpArgs false
namespace Go.Proofs.YtmilcpmhdokhgaaDoor
open Go Go.RowKit Go.Proofs.YtmilcpmhdokhgaaDoor.Abs
@[simp] theorem kR_zero : kR 0 = false := rfl
theorem td0 : IntKind.i64.wrap ((IntKind.i64.wrap 0).tdiv 2) = 0 := rfl
theorem td2 : IntKind.i64.wrap ((IntKind.i64.wrap 2).tdiv 2) = 1 := rfl
theorem opRes_zero {op t : Int} (h : kR (opRes op t) = false) : opRes op t = 0 := by
  unfold opRes at h ⊢
  split at h
  · rename_i hg
    simp [opGoes] at hg
    split at h
    · cases h
    · simp [kR] at h; omega
  · rename_i hg; rw [if_neg hg]
theorem op_cases8 (op : Int) : op = 1 ∨ op = 2 ∨ op = 3 ∨ op = 4 ∨ op = 5 ∨ op = 6 ∨ op = 7 ∨ op = 8 ∨ (op ≠ 1 ∧ op ≠ 2 ∧ op ≠ 3 ∧ op ≠ 4 ∧ op ≠ 5 ∧ op ≠ 6 ∧ op ≠ 7 ∧ op ≠ 8) := by omega
set_option maxRecDepth 20000 in
set_option maxHeartbeats 8000000 in
theorem type26_ok (s : Sc) : ∀ (k : Nat), k ≤ 1000000000 → ∀ e : Ex, e.size < k → PCall Tryd.prog 38 [.agg s.cells, .agg e.cells] (.int .i64 (e.ty s)) := by
  intro k
  induction k with
  | zero => intro _ e h; omega
  | succ k ih =>
  intro hk e he
  have hsz := Ex.size_eq e
  have hlen := Ex.len_size e.l
  refine pcall_fn Code.ok38 (by simp [Code.f38]) fun H => ?_
  have e0 := Ex.ty_eq s e
  rcases hL : e.l with _ | ⟨x, _ | ⟨y, _ | ⟨z, r⟩⟩⟩
  · have hty : e.ty s = leafTy s e.op e.t e.n e.m := by rw [e0, hL]; rfl
    rw [hty]
    clear e0 hsz hlen he ih hk hty
    rcases op_cases8 e.op with h | h | h | h | h | h | h | h | ⟨h1, h2, h3, h4, h5, h6, h7, h8⟩
    · by_cases hm : e.m = 0
      · simp [Code.f38, hL, h, hm]
        intro g1 g2
        refine CallK.pure (r01_right _) ?_
        simp
        refine ⟨fun hr => ?_, fun hr => ?_⟩
        · refine CallK.pure (r01_in _ _) ?_
          simp
          refine ⟨fun hi => ?_, fun hi => ?_⟩
          · refine CallK.pure (r01_right _) ?_
            simp [hr]
            exact vid (by simp [leafTy, hi])
          · refine CallK.pure (r01_right _) ?_
            simp
            exact vid (by simp [leafTy, hi])
        · refine CallK.pure (r01_right _) ?_
          have hi : kIn e.t e.n = false := by cases hi : kIn e.t e.n with | false => rfl | true => rw [kIn_kR hi] at hr; cases hr
          simp
          exact vid (by simp [leafTy, hi])
      · simp [Code.f38, hL, h, hm]
        intro g1 g2
        refine CallK.pure (r01_right _) ?_
        simp
        exact vid (by simp [leafTy, hm])
    · by_cases hg : e.t = 0 ∧ e.m = 0 ∧ 0 ≤ e.n ∧ e.n < s.vars.length
      · obtain ⟨ht, hm, hn, hb⟩ := hg
        have hb2 : e.n.toNat < s.vars.length := by omega
        have e0 : leafTy s 2 0 e.n 0 = varTy s e.n false := by simp [leafTy]; omega
        have e1 : varTy s e.n false = if 2 ≤ s.vars[e.n.toNat].n then 0 else typ s.vars[e.n.toNat].t := by simp [varTy, hb2]; split <;> split <;> first | rfl | omega
        rw [h, ht, hm, e0, e1]
        simp [Code.f38, hL, h, td0, hm, ht, hn, hb, hb2]
        intro g1 g2
        refine ⟨fun hv => ?_, fun hv => ?_⟩
        · refine CallK.pure (r01_right _) ?_
          rw [if_neg (by omega)]
          simp
          exact ⟨fun a => vid (by simp [typ, a]), fun a => vid (by simp [typ, a])⟩
        · refine CallK.pure (r01_right _) ?_
          rw [if_pos (by omega)]
          simp
          exact vid rfl
      · have e0 : leafTy s e.op e.t e.n e.m = 0 := by
          by_cases hq : e.t = 0 ∧ e.m = 0 ∧ 0 ≤ e.n
          · simp [leafTy, h, hq, varTy]; rw [List.getElem?_eq_none (by omega)]
          · simp [leafTy, h]; omega
        rw [e0]
        simp [Code.f38, hL, h, td0]
        intro g1 g2
        repeat' (first | (exfalso; omega) | exact vid rfl | (refine CallK.pure (r01_right 0) ?_; simp) | apply And.intro | intro _)
    · by_cases hg : e.t = 0 ∧ e.m = 0 ∧ 0 ≤ e.n ∧ e.n < s.slots.length
      · obtain ⟨ht, hm, hn, hb⟩ := hg
        have hb2 : e.n.toNat < s.slots.length := by omega
        have e0 : leafTy s 3 0 e.n 0 = typ s.slots[e.n.toNat] := by simp [leafTy, hb2]; omega
        rw [h, ht, hm, e0]
        simp [Code.f38, hL, h, td0, hm, ht, hn, hb, hb2]
        intro g1 g2
        refine CallK.pure (r01_right _) ?_
        simp
        exact ⟨fun a => vid (by simp [typ, a]), fun a => vid (by simp [typ, a])⟩
      · have e0 : leafTy s e.op e.t e.n e.m = 0 := by
          by_cases hq : e.t = 0 ∧ e.m = 0 ∧ 0 ≤ e.n
          · simp [leafTy, h, hq]; rw [List.getElem?_eq_none (by omega)]
          · simp [leafTy, h]; omega
        rw [e0]
        simp [Code.f38, hL, h, td0]
        intro g1 g2
        repeat' (first | (exfalso; omega) | exact vid rfl | (refine CallK.pure (r01_right 0) ?_; simp) | apply And.intro | intro _)
    · simp [Code.f38, hL, h, td2]
      intro g1 g2
      refine CallK.pure (r01_right _) ?_
      simp
      exact vid (by simp [leafTy])
    · by_cases hg : e.t = 0 ∧ 0 ≤ e.n ∧ e.n < s.blocks.length
      · obtain ⟨ht, hn, hb⟩ := hg
        have hb2 : e.n.toNat < s.blocks.length := by omega
        have e0 : leafTy s 5 0 e.n e.m = fldTy s.blocks[e.n.toNat].kind e.m := by simp [leafTy, hb2]; omega
        rw [h, ht, e0]
        simp [Code.f38, hL, h, td0, ht, hn, hb, hb2]
        intro g1 g2
        refine CallK.pure (r11_fields _) ?_
        have hfr := fldTy_range s.blocks[e.n.toNat].kind e.m
        unfold fldTy at hfr ⊢
        generalize blkTys s.blocks[e.n.toNat].kind = tys at hfr ⊢
        simp
        refine ⟨fun h0 => ⟨fun hl => ?_, fun hl => ?_⟩, fun h0 => ?_⟩
        · have hl2 : e.m.toNat < tys.length := by omega
          simp [hl2, h0] at hfr
          simp [hl2, h0]
          refine CallK.pure (r01_right _) ?_
          simp
          refine ⟨fun a => vid ?_, fun a => vid (by simp [h0, hl2])⟩
          rw [a] at hfr
          simp [h0, hl2]
          exact (hfr.resolve_right (by simp)).symm
        · have hl2 : tys.length ≤ e.m.toNat := by omega
          refine CallK.pure (r01_right _) ?_
          simp
          exact vid (by simp [h0, List.getElem?_eq_none hl2])
        · have h0' : ¬ 0 ≤ e.m := by omega
          refine CallK.pure (r01_right _) ?_
          simp
          exact vid (by simp [h0'])
      · have e0 : leafTy s e.op e.t e.n e.m = 0 := by
          by_cases hq : e.t = 0 ∧ 0 ≤ e.n
          · simp [leafTy, h, hq]; rw [List.getElem?_eq_none (by omega)]
          · simp [leafTy, h]; omega
        rw [e0]
        simp [Code.f38, hL, h, td0]
        intro g1 g2
        repeat' (first | (exfalso; omega) | exact vid rfl | (refine CallK.pure (r01_right 0) ?_; simp) | apply And.intro | intro _)
    · simp [Code.f38, hL, h]
      intro g1 g2
      refine CallK.pure (r01_right _) ?_
      simp
      exact vid (by simp [leafTy])
    · simp [Code.f38, hL, h]
      intro g1 g2
      refine CallK.pure (r01_right _) ?_
      simp
      exact vid (by simp [leafTy])
    · simp [Code.f38, hL, h]
      intro g1 g2
      refine CallK.pure (r01_right _) ?_
      simp
      exact vid (by simp [leafTy])
    · simp [Code.f38, hL, h1, h2, h3, h4, h5, h6, h7, h8]
      intro g1 g2
      refine CallK.pure (r01_right _) ?_
      simp
      exact vid (by simp [leafTy, h1, h2, h3, h5])
  · have hx := Ex.size_mem (l := e.l) (i := 0) (by simp [hL])
    simp only [hL, List.getElem_cons_zero] at hx hlen
    rw [hL] at hsz
    have hty : e.ty s = if x.ty s = 0 then 0 else oneTy s e.op e.t e.n e.m (x.ty s) := by rw [e0, hL]; rfl
    rw [hty]
    have hcall := ih (by omega) x (by omega)
    clear e0 hsz hlen he ih hk hty hx
    generalize x.ty s = a at hcall ⊢
    by_cases ha : a = 0
    · subst ha
      simp [Code.f38, hL]
      intro g1 g2
      refine PCallK.pure hcall ?_
      simp
      exact vid rfl
    rw [if_neg ha]
    have lit0 : ∀ {J : AHeap}, VShift (.int .i64 0) (H ++ J) (.int .i64 0) H := vid rfl
    rcases op_cases8 e.op with h | h | h | h | h | h | h | h | ⟨h1, h2, h3, h4, h5, h6, h7, h8⟩
    · have e1 : oneTy s e.op e.t e.n e.m a = 0 := by simp [oneTy, h]
      rw [e1]
      simp [Code.f38, hL, h]
      intro g1 g2
      refine PCallK.pure hcall ?_
      simp [h, ha]
      refine CallK.pure (r01_right _) ?_
      simp
      exact lit0
    · have e1 : oneTy s e.op e.t e.n e.m a = 0 := by simp [oneTy, h]
      rw [e1]
      simp [Code.f38, hL, h]
      intro g1 g2
      refine PCallK.pure hcall ?_
      simp [h, ha, td0]
      refine CallK.pure (r01_right _) ?_
      simp
      exact lit0
    · have e1 : oneTy s e.op e.t e.n e.m a = 0 := by simp [oneTy, h]
      rw [e1]
      simp [Code.f38, hL, h]
      intro g1 g2
      refine PCallK.pure hcall ?_
      simp [h, ha]
      refine CallK.pure (r01_right _) ?_
      simp
      exact lit0
    · by_cases hg : e.t = 0 ∧ e.m = 0 ∧ 0 ≤ e.n ∧ e.n < s.vars.length ∧ a = 2
      · obtain ⟨ht, hm, hn, hb, rfl⟩ := hg
        have hb2 : e.n.toNat < s.vars.length := by omega
        have e1 : oneTy s 4 0 e.n 0 2 = if 2 ≤ s.vars[e.n.toNat].n then typ s.vars[e.n.toNat].t else 0 := by simp [oneTy, varTy, hb2]; omega
        rw [h, ht, hm, e1]
        simp [Code.f38, hL, h]
        intro g1 g2
        refine PCallK.pure hcall ?_
        simp [h, td2, ht, hm, hn, hb, hb2]
        refine ⟨fun hv => ?_, fun hv => ?_⟩
        · refine CallK.pure (r01_right _) ?_
          rw [if_pos (by omega)]
          simp
          exact ⟨fun a => vid (by simp [typ, a]), fun a => vid (by simp [typ, a])⟩
        · refine CallK.pure (r01_right _) ?_
          rw [if_neg (by omega)]
          simp
          exact vid rfl
      · by_cases hq : e.t = 0 ∧ e.m = 0 ∧ 0 ≤ e.n ∧ e.n < s.vars.length
        · obtain ⟨ht, hm, hn, hb⟩ := hq
          have hb2 : e.n.toNat < s.vars.length := by omega
          have ha2 : a ≠ 2 := fun e => hg ⟨ht, hm, hn, hb, e⟩
          have e1 : oneTy s 4 0 e.n 0 a = 0 := by simp [oneTy, ha2]
          rw [h, ht, hm, e1]
          simp [Code.f38, hL, h]
          intro g1 g2
          refine PCallK.pure hcall ?_
          simp [h, ha, ha2, td2, ht, hm, hn, hb, hb2]
          repeat' (first | exact lit0 | (refine CallK.pure (r01_right 0) ?_; simp) | apply And.intro | intro _)
        · have e1 : oneTy s e.op e.t e.n e.m a = 0 := by
            by_cases hr : e.t = 0 ∧ e.m = 0 ∧ 0 ≤ e.n
            · simp [oneTy, h, hr, varTy]; intro _; rw [List.getElem?_eq_none (by omega)]
            · simp [oneTy, h]; intros; exfalso; omega
          rw [e1]
          simp [Code.f38, hL, h]
          intro g1 g2
          refine PCallK.pure hcall ?_
          simp [h, ha, td2]
          repeat' (first | (exfalso; omega) | exact lit0 | (refine CallK.pure (r01_right 0) ?_; simp) | apply And.intro | intro _)
    · have e1 : oneTy s e.op e.t e.n e.m a = 0 := by simp [oneTy, h]
      rw [e1]
      simp [Code.f38, hL, h]
      intro g1 g2
      refine PCallK.pure hcall ?_
      simp [h, ha]
      refine CallK.pure (r01_right _) ?_
      simp
      exact lit0
    · by_cases hg : e.t = 0 ∧ e.n = 0
      · obtain ⟨ht, hn⟩ := hg
        rw [h, ht, hn]
        simp [Code.f38, hL, h]
        intro g1 g2
        refine PCallK.pure hcall ?_
        by_cases hm : e.m = 13 ∨ e.m = 17
        · have e1 : oneTy s 6 0 0 e.m a = opRes e.m a := by
            have : opBin e.m = false := by simp [opBin]; omega
            simp [oneTy, this]
          rw [e1]
          rcases hm with hm | hm
          · simp [h, ha, ht, hn, hm]
            refine CallK.pure (r07_result _ _) ?_
            simp [h]
            refine CallK.pure (r01_right _) ?_
            simp
            exact ⟨fun a => vid (by rw [hm]; exact (opRes_zero a).symm), fun a => vid (by rw [hm])⟩
          · simp [h, ha, ht, hn, hm]
            refine CallK.pure (r07_result _ _) ?_
            simp [h]
            refine CallK.pure (r01_right _) ?_
            simp
            exact ⟨fun a => vid (by rw [hm]; exact (opRes_zero a).symm), fun a => vid (by rw [hm])⟩
        · have e1 : oneTy s 6 0 0 e.m a = 0 := by
            simp [oneTy]
            intro hb
            rw [opRes, if_neg]
            intro hh
            simp [opBin] at hb
            simp [opGoes] at hh
            omega
          rw [e1]
          have hm1 : e.m ≠ 13 := by omega
          have hm2 : e.m ≠ 17 := by omega
          simp [h, ha, ht, hn, hm1, hm2]
          refine CallK.pure (r01_right _) ?_
          simp
          exact lit0
      · have e1 : oneTy s e.op e.t e.n e.m a = 0 := by simp [oneTy, h]; intros; exfalso; omega
        rw [e1]
        simp [Code.f38, hL, h]
        intro g1 g2
        refine PCallK.pure hcall ?_
        simp [h, ha]
        repeat' (first | (exfalso; omega) | exact lit0 | (refine CallK.pure (r01_right 0) ?_; simp) | apply And.intro | intro _)
    · have e1 : oneTy s e.op e.t e.n e.m a = 0 := by simp [oneTy, h]
      rw [e1]
      simp [Code.f38, hL, h]
      intro g1 g2
      refine PCallK.pure hcall ?_
      simp [h, ha]
      refine CallK.pure (r01_right _) ?_
      simp
      exact lit0
    · by_cases hg : e.n = 0 ∧ e.m = 0
      · obtain ⟨hn, hm⟩ := hg
        rw [h, hn, hm]
        simp [Code.f38, hL, h]
        intro g1 g2
        refine PCallK.pure hcall ?_
        simp [h, ha, hn, hm]
        refine CallK.pure (r01_right _) ?_
        simp
        exact ⟨fun a => vid (by simp [oneTy, typ, a]), fun a => vid (by simp [oneTy, typ, a])⟩
      · have e1 : oneTy s e.op e.t e.n e.m a = 0 := by simp [oneTy, h]; intros; exfalso; omega
        rw [e1]
        simp [Code.f38, hL, h]
        intro g1 g2
        refine PCallK.pure hcall ?_
        simp [h, ha]
        repeat' (first | (exfalso; omega) | exact lit0 | (refine CallK.pure (r01_right 0) ?_; simp) | apply And.intro | intro _)
    · have e1 : oneTy s e.op e.t e.n e.m a = 0 := by simp [oneTy, h4, h6, h8]
      rw [e1]
      simp [Code.f38, hL]
      intro g1 g2
      refine PCallK.pure hcall ?_
      simp [h1, h2, h3, h4, h5, h6, h7, h8, ha]
      refine CallK.pure (r01_right _) ?_
      simp
      exact lit0
  · have hx := Ex.size_mem (l := e.l) (i := 0) (by simp [hL])
    have hy := Ex.size_mem (l := e.l) (i := 1) (by simp [hL])
    simp only [hL, List.getElem_cons_zero, List.getElem_cons_succ] at hx hy hlen
    rw [hL] at hsz
    have hty : e.ty s = if x.ty s = 0 ∨ y.ty s = 0 then 0 else twoTy e.op e.t e.n e.m (x.ty s) (y.ty s) := by rw [e0, hL]; rfl
    rw [hty]
    have hcall := ih (by omega) x (by omega)
    have hcall2 := ih (by omega) y (by omega)
    clear e0 hsz hlen he ih hk hty hx hy
    generalize x.ty s = a at hcall ⊢
    generalize y.ty s = b at hcall2 ⊢
    have lit0 : ∀ {J : AHeap}, VShift (.int .i64 0) (H ++ J) (.int .i64 0) H := vid rfl
    by_cases ha : a = 0
    · subst ha
      simp [Code.f38, hL]
      intro g1 g2
      refine PCallK.pure hcall ?_
      simp [hL]
      refine PCallK.pure hcall2 ?_
      simp
      exact lit0
    by_cases hb : b = 0
    · subst hb
      simp [Code.f38, hL]
      intro g1 g2
      refine PCallK.pure hcall ?_
      simp [hL]
      refine PCallK.pure hcall2 ?_
      simp [ha]
      exact lit0
    rw [if_neg (by omega)]
    by_cases h7 : e.op = 7
    · by_cases hg : e.t = 0 ∧ e.n = 0
      · obtain ⟨ht, hn⟩ := hg
        rw [h7, ht, hn]
        simp [Code.f38, hL]
        intro g1 g2
        refine PCallK.pure hcall ?_
        simp [hL]
        refine PCallK.pure hcall2 ?_
        simp [h7, ha, hb, ht, hn]
        refine CallK.pure (r07_binary _) ?_
        have fin0 : ∀ {J : AHeap}, twoTy 7 0 0 e.m a b = 0 → VShift (.int .i64 0) (H ++ J) (.int .i64 (twoTy 7 0 0 e.m a b)) H := fun h => vid h.symm
        have fin1 : ∀ {J : AHeap}, twoTy 7 0 0 e.m a b = opRes e.m a → VShift (.int .i64 (opRes e.m a)) (H ++ J) (.int .i64 (twoTy 7 0 0 e.m a b)) H := fun h => vid h.symm
        cases hbin : opBin e.m with
        | false =>
          simp
          refine CallK.pure (r01_right _) ?_
          simp
          exact fin0 (by simp [twoTy, hbin])
        | true =>
          by_cases hm : e.m = 18 ∨ e.m = 19
          · by_cases h2 : b = 2
            · subst h2
              have e1 : twoTy 7 0 0 e.m a 2 = opRes e.m a := by simp [twoTy, hbin, hm]
              rcases hm with hm | hm
              · by_cases hab : (2 : Int) = a
                · subst hab
                  simp [hm]
                  refine CallK.pure (r07_result _ _) ?_
                  simp
                  refine CallK.pure (r01_right _) ?_
                  simp
                  rw [hm] at e1
                  exact ⟨fun q => vid (by rw [hm, e1, opRes_zero q]), fun q => vid (by rw [hm, e1])⟩
                · simp [hm, hab]
                  refine CallK.pure (r07_result _ _) ?_
                  simp
                  refine CallK.pure (r01_right _) ?_
                  simp
                  rw [hm] at e1
                  exact ⟨fun q => vid (by rw [hm, e1, opRes_zero q]), fun q => vid (by rw [hm, e1])⟩
              · by_cases hab : (2 : Int) = a
                · subst hab
                  simp [hm]
                  refine CallK.pure (r07_result _ _) ?_
                  simp
                  refine CallK.pure (r01_right _) ?_
                  simp
                  rw [hm] at e1
                  exact ⟨fun q => vid (by rw [hm, e1, opRes_zero q]), fun q => vid (by rw [hm, e1])⟩
                · simp [hm, hab]
                  refine CallK.pure (r07_result _ _) ?_
                  simp
                  refine CallK.pure (r01_right _) ?_
                  simp
                  rw [hm] at e1
                  exact ⟨fun q => vid (by rw [hm, e1, opRes_zero q]), fun q => vid (by rw [hm, e1])⟩
            · have e1 : twoTy 7 0 0 e.m a b = 0 := by simp [twoTy, hm, h2]
              rw [e1]
              rcases hm with hm | hm
              · by_cases hab : b = a
                · simp [hm, hab, hab ▸ h2]
                  refine CallK.pure (r01_right _) ?_
                  simp
                  exact lit0
                · simp [hm, hab, h2]
                  refine CallK.pure (r01_right _) ?_
                  simp
                  exact lit0
              · by_cases hab : b = a
                · simp [hm, hab, hab ▸ h2]
                  refine CallK.pure (r01_right _) ?_
                  simp
                  exact lit0
                · simp [hm, hab, h2]
                  refine CallK.pure (r01_right _) ?_
                  simp
                  exact lit0
          · have hm1 : e.m ≠ 18 := by omega
            have hm2 : e.m ≠ 19 := by omega
            by_cases hab : b = a
            · subst hab
              have e1 : twoTy 7 0 0 e.m b b = opRes e.m b := by simp [twoTy, hbin, hm1, hm2]
              simp [hm1, hm2]
              refine CallK.pure (r07_result _ _) ?_
              simp
              refine CallK.pure (r01_right _) ?_
              simp
              exact ⟨fun a => vid (by rw [opRes_zero a] at e1; exact e1.symm), fun a => vid e1.symm⟩
            · have e1 : twoTy 7 0 0 e.m a b = 0 := by simp [twoTy, hm1, hm2, hab]
              rw [e1]
              by_cases h2 : b = 2
              · subst h2
                simp [hm1, hm2, hab]
                refine CallK.pure (r01_right _) ?_
                simp
                exact lit0
              · simp [hm1, hm2, hab, h2]
                refine CallK.pure (r01_right _) ?_
                simp
                exact lit0
      · have e1 : twoTy e.op e.t e.n e.m a b = 0 := by rw [twoTy, if_neg]; omega
        rw [e1]
        simp [Code.f38, hL]
        intro g1 g2
        refine PCallK.pure hcall ?_
        simp [hL]
        refine PCallK.pure hcall2 ?_
        simp [h7, ha, hb]
        repeat' (first | (exfalso; omega) | exact lit0 | (refine CallK.pure (r01_right 0) ?_; simp) | apply And.intro | intro _)
    · have e1 : twoTy e.op e.t e.n e.m a b = 0 := by rw [twoTy, if_neg]; omega
      rw [e1]
      simp [Code.f38, hL]
      intro g1 g2
      refine PCallK.pure hcall ?_
      simp [hL]
      refine PCallK.pure hcall2 ?_
      rcases op_cases8 e.op with h | h | h | h | h | h | h | h | ⟨h1, h2, h3, h4, h5, h6, h7, h8⟩
      all_goals first
        | (exact absurd h h7)
        | skip
      all_goals simp [*, td0, td2]
      all_goals repeat' (first | (exfalso; omega) | exact lit0 | (refine CallK.pure (r01_right 0) ?_; simp) | apply And.intro | intro _)
  · have e1 : e.ty s = 0 := by rw [e0, hL]; rfl
    have hx := Ex.size_mem (l := e.l) (i := 0) (by simp [hL])
    have hy := Ex.size_mem (l := e.l) (i := 1) (by simp [hL])
    simp only [hL, List.getElem_cons_zero, List.getElem_cons_succ] at hx hy hlen
    rw [hL] at hsz
    rw [e1]
    have n1 : (0 : Int) < (r.length : Int) + 1 + 1 + 1 := by omega
    have n2 : (1 : Int) < (r.length : Int) + 1 + 1 + 1 := by omega
    have n3 : (2 : Int) < (r.length : Int) + 1 + 1 + 1 := by omega
    simp [Code.f38, hL, n1, n2, n3]
    intro g1 g2
    refine PCallK.pure (ih (by omega) x (by omega)) ?_
    simp [hL, n1, n2, n3]
    refine PCallK.pure (ih (by omega) y (by omega)) ?_
    simp [hL, n1, n2, n3]
    exact vid rfl
end Go.Proofs.YtmilcpmhdokhgaaDoor
