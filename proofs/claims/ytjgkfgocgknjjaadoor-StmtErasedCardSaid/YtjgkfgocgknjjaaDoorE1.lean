/- Types of expressions: the program's leaves, ones of one, of two. -/
import Derived.Test.YtjgkfgocgknjjaaDoorK2
import Derived.Test.YtjgkfgocgknjjaaDoorD2
import Derived.Test.YtjgkfgocgknjjaaDoorA17
set_option linter.unusedVariables false
set_option linter.unusedSimpArgs false
namespace Go.Proofs.YtjgkfgocgknjjaaDoor
open Go Go.RowKit Go.Proofs.YtjgkfgocgknjjaaDoor.Abs

def typ (t : Int) : Int := if kR t = true then t else 0
theorem typed_ok (t : Int) : PCall Tryd.prog 55 [.int .i64 t] (.int .i64 (typ t)) := by
  refine pcall_fn Code.ok55 (by simp [Code.f55]) fun H => ?_
  simp [Code.f55]
  refine CallK.pure (kind_right t) ?_
  simp
  exact ⟨fun h => vi (by simp [typ, h]), fun h => vi (by simp [typ, h])⟩
def varTy (s : Sc) (n : Int) (arr : Bool) : Int := match s.vars[n.toNat]? with | some v => if decide (2 ≤ v.n) = arr then typ v.t else 0 | none => 0
def leafTy (s : Sc) (op t n m : Int) : Int :=
  if op = 1 then (if m = 0 ∧ kIn t n = true then t else 0)
  else if t ≠ 0 ∨ n < 0 then 0
  else if op = 5 then (match s.blocks[n.toNat]? with | some b => fldTy b.kind m | none => 0)
  else if m ≠ 0 then 0
  else if op = 2 then varTy s n false
  else if op = 3 then (match s.slots[n.toNat]? with | some t => typ t | none => 0)
  else 0
theorem fldTy_range (k i : Int) : fldTy k i = 0 ∨ kR (fldTy k i) = true := by
  unfold fldTy
  split
  · rename_i h
    rw [List.getD_eq_getElem?_getD]
    cases h2 : (blkTys k)[i.toNat]? with
    | none => exact .inl rfl
    | some x =>
      right
      have hm := List.mem_of_getElem? h2
      unfold blkTys at hm
      simp only [Option.getD_some]
      have : x = 1 ∨ x = 2 ∨ x = 6 := by
        repeat' split at hm
        all_goals simp at hm
        all_goals omega
      rcases this with rfl | rfl | rfl <;> rfl
  · exact .inl rfl

set_option maxRecDepth 20000 in
set_option maxHeartbeats 4000000 in
theorem leaf_ok (s : Sc) (e : Ex) : PCall Tryd.prog 46 [.agg s.cells, .agg e.cells] (.int .i64 (leafTy s e.op e.t e.n e.m)) := by
  refine pcall_fn Code.ok46 (by simp [Code.f46]) fun H => ?_
  by_cases h1 : e.op = 1
  · by_cases hm : e.m = 0
    · simp [Code.f46, h1, hm]
      intro g g2
      refine CallK.pure (kind_in _ _) ?_
      simp [h1, hm]
      repeat' (first | refine vid ?_ | apply And.intro | intro _)
      all_goals simp_all [leafTy]
    · simp [Code.f46, h1, hm]
      intro g g2
      repeat' (first | refine vid ?_ | apply And.intro | intro _)
      all_goals simp_all [leafTy]
  by_cases ht : e.t ≠ 0 ∨ e.n < 0
  · have e0 : leafTy s e.op e.t e.n e.m = 0 := by rw [leafTy, if_neg h1, if_pos ht]
    rw [e0]
    rcases Classical.em (e.t = 0) with ht0 | ht0
    · have hn : e.n < 0 := by omega
      simp [Code.f46, h1, ht0, hn]
      intro g g2
      exact vid rfl
    · simp [Code.f46, h1, ht0]
      intro g g2
      exact vid rfl
  have ht0 : e.t = 0 := by omega
  have hn0 : 0 ≤ e.n := by omega
  have hn1 : ¬ e.n < 0 := by omega
  by_cases h5 : e.op = 5
  · by_cases hb : e.n < s.blocks.length
    · have hb2 : e.n.toNat < s.blocks.length := by omega
      simp [Code.f46, h1, h5, ht0, hn0, hn1, hb, hb2]
      intro g g2
      refine PCallK.pure (blk_field _ _) ?_
      simp
      exact vid (by simp [leafTy, hn1, hb2])
    · have hb2 : s.blocks.length ≤ e.n.toNat := by omega
      have e0 : leafTy s e.op e.t e.n e.m = 0 := by
        rw [leafTy, if_neg h1, if_neg ht, if_pos h5, List.getElem?_eq_none (by omega)]
      rw [e0]
      simp [Code.f46, h1, h5, ht0, hn0, hn1, hb]
      intro g g2
      repeat' (first | exact vid rfl | apply And.intro | intro _)
  by_cases hm : e.m ≠ 0
  · have e0 : leafTy s e.op e.t e.n e.m = 0 := by rw [leafTy, if_neg h1, if_neg ht, if_neg h5, if_pos hm]
    rw [e0]
    simp [Code.f46, h1, h5, ht0, hn0, hn1, hm]
    intro g g2
    repeat' (first | exact vid rfl | apply And.intro | intro _)
  have hm : e.m = 0 := by simpa using hm
  by_cases h2 : e.op = 2
  · by_cases hb : e.n < s.vars.length
    · have hb2 : e.n.toNat < s.vars.length := by omega
      have e0 : leafTy s e.op e.t e.n e.m = varTy s e.n false := by simp [leafTy, h1, ht0, hn1, h5, hm, h2]
      rw [e0]
      simp [Code.f46, h1, h5, h2, ht0, hn0, hn1, hm, hb, hb2]
      intro g g2
      refine ⟨fun h => ?_, fun h => vid (by simp [varTy, hb2, h])⟩
      refine CallK.pure (typed_ok _) ?_
      simp
      exact vid (by simp [varTy, hb2]; omega)
    · have e0 : leafTy s e.op e.t e.n e.m = 0 := by
        rw [leafTy, if_neg h1, if_neg ht, if_neg h5, if_neg (by simp [hm]), if_pos h2, varTy, List.getElem?_eq_none (by omega)]
      rw [e0]
      simp [Code.f46, h1, h5, h2, ht0, hn0, hn1, hm, hb]
      intro g g2
      repeat' (first | exact vid rfl | apply And.intro | intro _)
  by_cases h3 : e.op = 3
  · by_cases hb : e.n < s.slots.length
    · have hb2 : e.n.toNat < s.slots.length := by omega
      simp [Code.f46, h1, h5, h2, h3, ht0, hn0, hn1, hm, hb, hb2]
      intro g g2
      refine CallK.pure (typed_ok _) ?_
      simp
      exact vid (by simp [leafTy, hn1, hb2])
    · have e0 : leafTy s e.op e.t e.n e.m = 0 := by
        rw [leafTy, if_neg h1, if_neg ht, if_neg h5, if_neg (by simp [hm]), if_neg h2, if_pos h3, List.getElem?_eq_none (by omega)]
      rw [e0]
      simp [Code.f46, h1, h5, h2, h3, ht0, hn0, hn1, hm, hb]
      intro g g2
      repeat' (first | exact vid rfl | apply And.intro | intro _)
  · have e0 : leafTy s e.op e.t e.n e.m = 0 := by
      rw [leafTy, if_neg h1, if_neg ht, if_neg h5, if_neg (by simp [hm]), if_neg h2, if_neg h3]
    rw [e0]
    simp [Code.f46, h1, h5, h2, h3, ht0, hn0, hn1, hm]
    intro g g2
    repeat' (first | exact vid rfl | apply And.intro | intro _)

def oneTy (s : Sc) (op t n m a : Int) : Int :=
  if op = 4 then (if t = 0 ∧ m = 0 ∧ 0 ≤ n ∧ a = 2 then varTy s n true else 0)
  else if op = 6 then (if t = 0 ∧ n = 0 ∧ opBin m = false then opRes m a else 0)
  else if op = 8 then (if n = 0 ∧ m = 0 then typ t else 0)
  else 0
def twoTy (op t n m a b : Int) : Int := if op = 7 ∧ t = 0 ∧ n = 0 ∧ opBin m = true ∧ b = (if m = 18 ∨ m = 19 then 2 else a) then opRes m a else 0
set_option maxRecDepth 20000 in
set_option maxHeartbeats 4000000 in
theorem two_ok (e : Ex) (hm : I64 e.m) (a b : Int) : PCall Tryd.prog 48 [.agg e.cells, .int .i64 a, .int .i64 b] (.int .i64 (twoTy e.op e.t e.n e.m a b)) := by
  refine pcall_fn Code.ok48 (by simp [Code.f48]) fun H => ?_
  by_cases hc : e.op = 7 ∧ e.t = 0 ∧ e.n = 0
  · obtain ⟨h7, ht, hn⟩ := hc
    simp [Code.f48, h7, ht, hn]
    intro g
    refine CallK.pure (alu_binary hm) ?_
    simp
    refine ⟨fun h => vid (by simp [twoTy, h]), fun h => ?_⟩
    repeat' (first | refine vid ?_ | refine CallK.pure (alu_result hm a) ?_ | apply And.intro | intro _)
    all_goals first
      | (simp_all [twoTy]; done)
      | (simp; exact vid (by simp_all [twoTy]))
  · have e0 : twoTy e.op e.t e.n e.m a b = 0 := by rw [twoTy, if_neg]; omega
    rw [e0]
    simp [Code.f48]
    intro g
    repeat' (first | exact vid rfl | (exfalso; omega) | apply And.intro | intro _)
set_option maxRecDepth 20000 in
set_option maxHeartbeats 4000000 in
theorem one_ok (s : Sc) (e : Ex) (hm : I64 e.m) (a : Int) : PCall Tryd.prog 47 [.agg s.cells, .agg e.cells, .int .i64 a] (.int .i64 (oneTy s e.op e.t e.n e.m a)) := by
  refine pcall_fn Code.ok47 (by simp [Code.f47]) fun H => ?_
  by_cases h4 : e.op = 4
  · by_cases hc : e.t = 0 ∧ e.m = 0 ∧ 0 ≤ e.n ∧ e.n < s.vars.length
    · obtain ⟨ht, hm0, hn, hb⟩ := hc
      have hb2 : e.n.toNat < s.vars.length := by omega
      simp [Code.f47, h4, ht, hm0, hn, hb, hb2]
      intro g g2
      refine ⟨fun h => ⟨fun ha => ?_, fun ha => vid (by simp [oneTy, ha])⟩, fun h => vid ?_⟩
      · refine CallK.pure (typed_ok _) ?_
        simp
        exact vid (by simp [oneTy, ha, hn, varTy, hb2]; omega)
      · simp [oneTy, varTy, hb2]
        omega
    · have e0 : oneTy s e.op e.t e.n e.m a = 0 := by
        rw [oneTy, if_pos h4]
        by_cases h : e.t = 0 ∧ e.m = 0 ∧ 0 ≤ e.n
        · rw [varTy, List.getElem?_eq_none (by omega)]; simp
        · rw [if_neg (by omega)]
      rw [e0]
      simp [Code.f47, h4]
      intro g g2
      repeat' (first | exact vid rfl | (exfalso; omega) | apply And.intro | intro _)
  by_cases h6 : e.op = 6
  · by_cases hc : e.t = 0 ∧ e.n = 0
    · obtain ⟨ht, hn⟩ := hc
      simp [Code.f47, h4, h6, ht, hn]
      intro g g2
      refine CallK.pure (alu_binary hm) ?_
      simp [h6]
      refine ⟨fun h => ?_, fun h => vid (by simp [oneTy, h])⟩
      refine CallK.pure (alu_result hm a) ?_
      simp
      exact vid (by simp [oneTy, h])
    · have e0 : oneTy s e.op e.t e.n e.m a = 0 := by rw [oneTy, if_neg h4, if_pos h6, if_neg (by omega)]
      rw [e0]
      simp [Code.f47, h4, h6]
      intro g g2
      repeat' (first | exact vid rfl | (exfalso; omega) | apply And.intro | intro _)
  by_cases h8 : e.op = 8
  · by_cases hc : e.n = 0 ∧ e.m = 0
    · obtain ⟨hn, hm0⟩ := hc
      simp [Code.f47, h4, h6, h8, hn, hm0]
      intro g g2
      refine CallK.pure (typed_ok _) ?_
      simp
      exact vid (by simp [oneTy])
    · have e0 : oneTy s e.op e.t e.n e.m a = 0 := by rw [oneTy, if_neg h4, if_neg h6, if_pos h8, if_neg hc]
      rw [e0]
      simp [Code.f47, h4, h6, h8]
      intro g g2
      repeat' (first | exact vid rfl | (exfalso; omega) | apply And.intro | intro _)
  · have e0 : oneTy s e.op e.t e.n e.m a = 0 := by rw [oneTy, if_neg h4, if_neg h6, if_neg h8]
    rw [e0]
    simp [Code.f47, h4, h6, h8]
    intro g g2
    repeat' (first | exact vid rfl | (exfalso; omega) | apply And.intro | intro _)

/-- The type of an expression in a scope; 0 if it has none. -/
def nodeTy (s : Sc) (op t n m : Int) : List Int → Int
  | [] => leafTy s op t n m
  | [a] => if a = 0 then 0 else oneTy s op t n m a
  | [a, b] => if a = 0 ∨ b = 0 then 0 else twoTy op t n m a b
  | _ => 0
mutual
def Ex.ty (s : Sc) : Ex → Int
  | .mk op t n m l => nodeTy s op t n m (Ex.tys s l)
def Ex.tys (s : Sc) : List Ex → List Int
  | [] => []
  | e :: r => e.ty s :: Ex.tys s r
end
theorem Ex.ty_eq (s : Sc) (e : Ex) : e.ty s = nodeTy s e.op e.t e.n e.m (e.l.map (Ex.ty s)) := by
  cases e with
  | mk op t n m l =>
    rw [Ex.ty]
    congr 1
    show Ex.tys s l = l.map (Ex.ty s)
    induction l with
    | nil => rfl
    | cons x r ih => rw [Ex.tys, ih]; rfl
theorem nodeTy_zero (s : Sc) (op t n m : Int) : ∀ {l : List Int}, 0 ∈ l → nodeTy s op t n m l = 0
  | [a], h => by simp at h; simp [nodeTy, h]
  | [a, b], h => by simp only [nodeTy]; rw [if_pos]; simp at h; omega
  | _ :: _ :: _ :: _, _ => rfl
set_option maxRecDepth 20000 in
set_option maxHeartbeats 4000000 in
theorem type_ok (s : Sc) : ∀ (k : Nat), k ≤ 1000000000 → ∀ e : Ex, e.size < k → e.wf → PCall Tryd.prog 42 [.agg s.cells, .agg e.cells] (.int .i64 (e.ty s)) := by
  intro k
  induction k with
  | zero => intro _ e h; omega
  | succ k ih =>
  intro hk e he hw
  have hsz := Ex.size_eq e
  have hlen := Ex.len_size e.l
  have hw2 := hw
  rw [Ex.wf_eq] at hw2
  obtain ⟨_, _, _, hm, hwl⟩ := hw2
  refine pcall_fn Code.ok42 (by simp [Code.f42]) fun H => ?_
  simp [Code.f42]
  intro g1 g2
  refine LoopK.told (σ := Nat × Wh × AHeap) (fun s1 => [(12, .int .i64 s1.1), (11, .int .i64 e.l.length), (10, .sl .no (Ex.rows e.l)), (5, .sl (ownS s1.2.1) (intRows ((e.l.take s1.1).map (Ex.ty s)))), (2, .ptr H.length g1 0 0), (3, .ptr (H.length + 1) g2 0 0)]) (fun s => s.2.2)
    (fun s1 => s1.1 ≤ e.l.length ∧ WOk H.length s1.2.1 ∧ TailAt s1.2.2 s1.2.1 1 ∧ Ov s1.2.2 H ∧ s1.2.2[H.length]? = some (some (.rows g1 [s.cells])) ∧ s1.2.2[H.length + 1]? = some (some (.rows g2 [e.cells])) ∧ 0 ∉ (e.l.take s1.1).map (Ex.ty s)) (fun s => e.l.length - s.1) (0, none, H ++ [some (.rows g1 [s.cells]), some (.rows g2 [e.cells])]) ?_ ?_ ?_ ?_
  · simp [Ov.refl, Ov.app]
  · simp
  · simp
  rintro ⟨i, w, J⟩ ⟨hi, hwh, hT, hJ, hb1, hb2, hz⟩
  simp only at hi hwh hT hJ hb1 hb2 hz
  simp [Code.f42l0]
  refine ⟨fun h => ?_, fun h => ?_⟩
  · have hs := Ex.size_mem h
    have hwi := Ex.wf_mem h hwl
    have ht := List.take_succ_eq_append_getElem h
    have hx := List.getElem?_eq_getElem h
    have hmem : e.l[i] ∈ e.l := List.getElem_mem h
    generalize e.l[i] = x at hs hwi ht hx hmem
    have hb3 := fun l => get_app (l := l) hb1
    simp [hx, hb3]
    intro g3
    refine CallK.pure (ih (by omega) x (by omega) hwi) ?_
    simp
    refine ⟨fun h0 => vshift_drop ?_ (hJ.app _).hwk, fun h0 => ?_⟩
    · rw [Ex.ty_eq s e, nodeTy_zero]
      · exact .refl _
      · rw [← h0]; exact List.mem_map_of_mem hmem
    · intro g4
      refine app_own (hT.app _) hwh (hJ.app _) (by simp) intRows_mem (by simp) (by simp; omega) fun w3 J3 hT3 hw3 hJ3 hk3 => ?_
      simp
      refine ⟨i + 1, w3, J3, ⟨by omega, hw3, hT3, hJ3, hk3 _ _ _ (hb3 _), hk3 _ _ _ (get_app hb2), ?_⟩, by omega, ⟨wkn_int (wrap_id (by omega) (by omega)), ?_⟩, .refl _⟩
      · rw [← List.map_take, ht, List.map_append, List.mem_append]; simp; refine ⟨by simpa using hz, fun h => h0 h.symm⟩
      · have e1 : List.take (i + 1) (e.l.map (Ex.ty s)) = List.take i (e.l.map (Ex.ty s)) ++ [x.ty s] := by rw [← List.map_take, ht, List.map_append, List.map_take]; rfl
        rw [e1, intRows_snoc]
        exact .refl _
  · rw [← List.map_take, List.take_of_length_le (by simpa using h)]
    have e0 := Ex.ty_eq s e
    rw [List.take_of_length_le h] at hz
    obtain rfl : i = e.l.length := by omega
    rcases hL : e.l with _ | ⟨x, _ | ⟨y, _ | ⟨z, r⟩⟩⟩
    · simp [hL, hb1, hb2]
      refine CallK.pure (leaf_ok s e) ?_
      simp
      refine vshift_drop (wkn_int ?_) hJ.hwk
      rw [e0, hL]; rfl
    · simp [hL, hb1, hb2]
      refine PCallK.pure (one_ok s e hm _) ?_
      simp
      refine vshift_drop (wkn_int ?_) hJ.hwk
      rw [hL] at hz
      simp at hz
      rw [e0, hL]; simp [nodeTy]; intro h; omega
    · simp [hL, hb1, hb2]
      refine PCallK.pure (two_ok e hm _ _) ?_
      simp
      refine vshift_drop (wkn_int ?_) hJ.hwk
      rw [hL] at hz
      simp at hz
      rw [e0, hL]; simp [nodeTy]; intro h; omega
    · have e1 : e.ty s = 0 := by rw [e0, hL]; rfl
      rw [e1]
      simp [hL, hb1, hb2]
      repeat' (first | exact vshift_drop (.refl _) hJ.hwk | (exfalso; omega) | apply And.intro | intro _)
end Go.Proofs.YtjgkfgocgknjjaaDoor
