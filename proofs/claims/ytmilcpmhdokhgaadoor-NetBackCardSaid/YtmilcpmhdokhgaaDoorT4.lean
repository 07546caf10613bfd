/- Networks and expressions, by definition; the network of a normal form. -/
import Derived.Test.YtmilcpmhdokhgaaDoorT3
import Derived.Test.YtmilcpmhdokhgaaDoorT2b
set_option linter.unusedVariables false
set_option linter.unusedSimpArgs false
namespace Go.Proofs.YtmilcpmhdokhgaaDoor
open Go Go.RowKit Go.Proofs.YtmilcpmhdokhgaaDoor.Abs

theorem Nt.right_one {s : Sc} {x : Nt} (h : x.right s = true) (h1 : x.kind = 1) : x.l = [] ∧ x.e.leaf s = true ∧ (x.neg = 0 ∨ (x.neg = 1 ∧ x.e.op ≠ 1)) := by
  rw [Nt.right_eq, if_pos h1] at h
  simp [Nt.head] at h
  exact ⟨h.1.1, h.1.2, h.2⟩
theorem Nt.right_many {s : Sc} {x : Nt} (h : x.right s = true) (h1 : x.kind ≠ 1) : (x.kind = 2 ∨ x.kind = 3) ∧ x.neg = 0 ∧ x.e = Ex.zero ∧ 2 ≤ x.l.length ∧ ∀ y ∈ x.l, y.kind ≠ x.kind ∧ y.right s = true := by
  rw [Nt.right_eq, if_neg h1] at h
  simp only [Bool.and_eq_true] at h
  obtain ⟨hb, hk⟩ := h
  simp [Nt.body] at hb
  exact ⟨hb.1.1, hb.1.2.1, (Ex.beq_iff _ _).1 hb.2, hb.1.2.2, fun y hy => kidsOk_mem hk hy⟩
set_option maxRecDepth 20000 in
set_option maxHeartbeats 4000000 in
theorem r44_expr (s : Sc) : ∀ (k : Nat), k ≤ 1000000000 → ∀ x : Nt, x.size < k → x.right s = true → PCall Tryd.prog 29 [.agg x.cells] (.agg x.ex.cells) := by
  intro k
  induction k with
  | zero => intro _ e h; omega
  | succ k ih =>
  intro hk x hx hrt
  have hsz := Nt.size_eq x
  have hlen := Nt.len_size x.l
  refine pcall_fn Code.ok29 (by simp [Code.f29]) fun H => ?_
  have e0 := Nt.ex_eq x
  by_cases h1 : x.kind = 1
  · obtain ⟨hl, _, hn⟩ := Nt.right_one hrt h1
    rw [if_pos (.inl h1)] at e0
    rw [e0]
    rcases hn with hn | ⟨hn, _⟩
    · simp [Code.f29, h1, hn]
      intro g1 g2
      exact vshift_drop (.refl _) (.front _ _)
    · simp [Code.f29, h1, hn]
      intro g1 g2
      exact v_neg
  obtain ⟨hk23, hn, hz, hl2, hkids⟩ := Nt.right_many hrt h1
  rw [if_neg (by omega)] at e0
  rw [e0]
  obtain ⟨y, r, hL⟩ : ∃ y r, x.l = y :: r := by
    cases hL : x.l with
    | nil => rw [hL] at hl2; simp at hl2
    | cons y r => exact ⟨y, r, rfl⟩
  have hs := Nt.size_mem (l := x.l) (i := 0) (by simp [hL])
  simp only [hL, List.getElem_cons_zero] at hs
  have hsz2 : x.size = 1 + x.e.size + Nt.sizeL (y :: r) := by rw [hsz, hL]
  have hlr : x.l.length = r.length + 1 := by rw [hL]; rfl
  have hop : IntKind.i64.wrap (x.kind + 12) = x.op := by rcases hk23 with h | h <;> rw [Nt.op, h] <;> rfl
  have hdt : ((x.l.map Nt.ex).headD x.e) = y.ex ∧ (x.l.map Nt.ex).tail = r.map Nt.ex := by simp [hL]
  rw [hdt.1, hdt.2]
  have hy0 : x.l[0]? = some y := by rw [hL]; rfl
  have hyr := hkids y (by rw [hL]; simp)
  simp [Code.f29, h1, hy0]
  intro g1 g2
  refine CallK.pure (ih (by omega) y (by omega) hyr.2) ?_
  simp
  intro g3
  refine LoopK.told (σ := Nat × AHeap) (fun i => [(4, .int .i64 (i.1 + 1 : Nat)), (1, .ptr H.length g1 0 0), (3, .ptr (H.length + 2) g3 0 0), (2, .ptr (H.length + 1) g2 0 0)]) (fun i => i.2)
    (fun i => i.1 ≤ r.length ∧ Ov i.2 H ∧ i.2[H.length]? = some (some (.rows g1 [x.cells])) ∧ i.2[H.length + 1]? = some (some (.rows g2 [[.int .i64 0, .int .i64 0, .int .i64 0, .int .i64 0, .sl .full []]])) ∧ i.2[H.length + 2]? = some (some (.rows g3 [(foldB x.op y.ex ((r.take i.1).map Nt.ex)).cells]))) (fun i => r.length - i.1) (0, _) ⟨by simp, (Ov.refl H).app _, by simp, by simp, by simp [foldB]⟩ (by simp) (.refl _) ?_
  rintro ⟨i, J⟩ ⟨hi, hJ, hx1, hx2, hx3⟩
  simp only at hi hJ hx1 hx2 hx3
  simp [Code.f29l0, hx1, hlr]
  refine ⟨fun h => ?_, fun h => ?_⟩
  · have hsr := Nt.size_mem (l := x.l) (i := i + 1) (by omega)
    have hget0 : x.l[i + 1]? = r[i]? := by rw [hL]; rfl
    have hgetE : x.l[i + 1]'(by omega) = r[i] := by simp [hL]
    rw [hgetE] at hsr
    have hkz := hkids (x.l[i + 1]'(by omega)) (List.getElem_mem _)
    rw [hgetE] at hkz
    have ht := List.take_succ_eq_append_getElem h
    have hget := List.getElem?_eq_getElem h
    generalize r[i] = z at hsr ht hget hkz
    have hi1 : (0 : Int) ≤ (i : Int) + 1 := by omega
    have htn : ((i : Int) + 1).toNat = i + 1 := by omega
    simp [hx1, hx3, hi1, htn, hget0, hget]
    refine PCallK.pure (ih (by omega) z (by omega) hkz.2) ?_
    simp [hx3]
    have e1 : List.take (i + 1) (r.map Nt.ex) = (List.take i r).map Nt.ex ++ [z.ex] := by rw [← List.map_take, ht, List.map_append]; rfl
    refine ⟨i + 1, _, ⟨by omega, hJ.set (b := H.length + 2) (by omega) (some (.rows g3 [(Ex.bin x.op (foldB x.op y.ex ((r.take i).map Nt.ex)) z.ex).cells])), ?_, ?_, ?_⟩, by omega, wkn_int (by rw [wrap_id (by omega) (by omega)]; simp), ?_⟩
    · rw [List.getElem?_set_ne (by omega)]; exact hx1
    · rw [List.getElem?_set_ne (by omega)]; exact hx2
    · rw [List.getElem?_set_self (get_lt hx3), e1, foldB_snoc]
    · refine hwk_set2 (get_lt hx3) (bw_rows ?_)
      simp [Ex.bin, Ex.cells, Ex.rows, hop]
  · have hs2 := fun y => List.getElem?_set_self (a := y) (get_lt hx2)
    rw [List.take_of_length_le h] at hx3
    simp [hx3, hx2, hs2]
    exact vshift_drop (.refl _) (hJ.set (by omega) _).hwk

/-- The network of an expression. -/
def Nt.flat (k : Int) (x : Nt) : List Nt := if x.kind = k then x.l else [x]
def joinN (k : Int) (l : List Nt) : Nt := .mk k 0 Ex.zero (l.flatMap (Nt.flat k))
def ofN (e : Ex) (a b : Nt) : Nt := if e.op = 6 then .mk 1 1 (e.l.headD e) [] else if e.op = 7 then joinN (if e.m = 14 then 2 else 3) [a, b] else .mk 1 0 e []
def Ex.net : Ex → Nt := Ex.para fun e rs => ofN e (rs.getD 0 (.mk 0 0 e [])) (rs.getD 1 (.mk 0 0 e []))
theorem Ex.net_eq (e : Ex) : e.net = ofN e ((e.l.map Ex.net).getD 0 (.mk 0 0 e [])) ((e.l.map Ex.net).getD 1 (.mk 0 0 e [])) := Ex.para_eq _ e
/-- Is it shaped so that it has a network? -/
def Ex.okN : Ex → Bool := Ex.para fun e rs => decide (e.op = 6 → e.l ≠ []) && (decide (e.op ≠ 7) || (decide (e.l.length = 2) && rs.all id))
theorem Ex.okN_eq (e : Ex) : e.okN = (decide (e.op = 6 → e.l ≠ []) && (decide (e.op ≠ 7) || (decide (e.l.length = 2) && (e.l.map Ex.okN).all id))) := Ex.para_eq _ e
theorem Nt.flat_len {k : Int} {x : Nt} : (x.flat k).length ≤ x.size := by
  have := Nt.size_eq x
  have := Nt.len_size x.l
  unfold Nt.flat; split <;> simp <;> omega
set_option maxRecDepth 20000 in
set_option maxHeartbeats 4000000 in
theorem net_join (kd : Int) (a b : Nt) {o : Own} (ha : a.size ≤ 1000000) (hb : b.size ≤ 1000000) : PCall Tryd.prog 61 [.int .i64 kd, .sl o [a.cells, b.cells]] (.agg (joinN kd [a, b]).cells) := by
  refine pcall_fn Code.ok61 (by simp [Code.f61]) fun H => ?_
  simp [Code.f61]
  intro g1 g2
  have hrows : [a.cells, b.cells] = Nt.rows [a, b] := by simp [Nt.rows_map]
  rw [hrows]
  have hfl : ∀ i, (([a, b].take i).flatMap (Nt.flat kd)).length ≤ 2000000 := by
    intro i
    have h1 := Nt.flat_len (k := kd) (x := a)
    have h2 := Nt.flat_len (k := kd) (x := b)
    match i with
    | 0 => simp
    | 1 => simp; omega
    | i + 2 => simp; omega
  have htk : ∀ i (h : i < [a, b].length), ([a, b].take (i + 1)).flatMap (Nt.flat kd) = ([a, b].take i).flatMap (Nt.flat kd) ++ ([a, b][i]).flat kd := by
    intro i h
    rw [List.take_succ_eq_append_getElem h, List.flatMap_append]; simp
  have hsm : ∀ i (h : i < [a, b].length), ([a, b][i]).size ≤ 1000000 := by
    intro i h
    match i, h with
    | 0, _ => exact ha
    | 1, _ => exact hb
  have hlen2 : [a, b].length = 2 := rfl
  have hj : joinN kd [a, b] = .mk kd 0 Ex.zero ([a, b].flatMap (Nt.flat kd)) := rfl
  rw [hj]
  generalize [a, b] = l at hfl htk hsm hlen2
  refine LoopK.told (σ := Nat × Wh × AHeap) (fun i => [(12, .int .i64 i.1), (11, .int .i64 2), (10, .sl o (Nt.rows l)), (0, .int .i64 kd), (4, .ptr H.length g1 0 0), (5, .ptr (H.length + 1) g2 0 0)]) (fun i => i.2.2)
    (fun i => i.1 ≤ 2 ∧ Ov i.2.2 H ∧ WOk H.length i.2.1 ∧ TailAt i.2.2 i.2.1 8 ∧ i.2.2[H.length]? = some (some (.rows g1 [[.int .i64 0, .int .i64 0, .int .i64 0, .int .i64 0, .int .i64 0, .int .i64 0, .sl .full [], .sl .full []]])) ∧
      i.2.2[H.length + 1]? = some (some (.rows g2 [[.int .i64 kd, .int .i64 0, .int .i64 0, .int .i64 0, .int .i64 0, .int .i64 0, .sl .full [], .sl (ownS i.2.1) (Nt.rows ((l.take i.1).flatMap (Nt.flat kd)))]]))) (fun i => 2 - i.1) (0, none, _) ?_ ?_ (.refl _) ?_
  · exact ⟨by simp, (Ov.refl H).app _, by simp, by simp, by simp, by simp⟩
  · simp
  rintro ⟨i, w, J⟩ ⟨hi, hJ, hw, hT, hx1, hx2⟩
  simp only at hi hJ hw hT hx1 hx2
  have hy1 := fun l => get_app (l := l) hx1
  have hy2 := fun l => get_app (l := l) hx2
  simp [Code.f61l0]
  refine ⟨fun h => ?_, fun h => ?_⟩
  · have hil : i < l.length := by omega
    have hget := List.getElem?_eq_getElem hil
    have hsi := hsm i hil
    have hti := htk i hil
    have hf1 := hfl i
    have hf2 := hfl (i + 1)
    rw [hti] at hf2
    generalize l[i] = x at hget hsi hti hf2
    simp only [List.length_append] at hf2
    simp [hget, hy2]
    intro g3
    refine ⟨fun hk => ?_, fun hk => ?_⟩
    · have hfx : x.flat kd = x.l := by rw [Nt.flat, if_pos hk]
      intro g4
      refine app_ownE (hT.app _) hw (hJ.app _) Nt.rows_mem Nt.rows_mem (by simp only [Nt.rows_length]; rw [hfx] at hf2; omega) fun w3 J3 hT3 hw3 hJ3 hk3 => ?_
      have hz1 := hk3 _ _ _ (hy1 _)
      have hz2 := hk3 _ _ _ (hy2 _)
      simp [hz2]
      refine ⟨i + 1, w3, J3.set (H.length + 1) _, ⟨by omega, hJ3.set (by omega) _, hw3, hT3.set hz2, ?_, ?_⟩, by omega, wkn_int (wrap_id (by omega) (by omega)), .refl _⟩
      · rw [List.getElem?_set_ne (by omega)]; exact hz1
      · rw [List.getElem?_set_self (get_lt hz2), hti, hfx, Nt.rows_app]
    · have hfx : x.flat kd = [x] := by rw [Nt.flat, if_neg hk]
      intro g4
      refine app_own (hT.app _) hw (hJ.app _) (by simp) Nt.rows_mem (by simp) (by simp only [Nt.rows_length, List.length_cons, List.length_nil]; omega) fun w3 J3 hT3 hw3 hJ3 hk3 => ?_
      have hz1 := hk3 _ _ _ (hy1 _)
      have hz2 := hk3 _ _ _ (hy2 _)
      simp [hz2]
      refine ⟨i + 1, w3, J3.set (H.length + 1) _, ⟨by omega, hJ3.set (by omega) _, hw3, hT3.set hz2, ?_, ?_⟩, by omega, wkn_int (wrap_id (by omega) (by omega)), .refl _⟩
      · rw [List.getElem?_set_ne (by omega)]; exact hz1
      · rw [List.getElem?_set_self (get_lt hz2), hti, hfx, Nt.rows_snoc]
  · obtain rfl : i = 2 := by omega
    have hs1 := fun y => List.getElem?_set_self (a := y) (get_lt hx1)
    simp [hx1, hx2, hs1]
    rw [List.take_of_length_le (by omega)]
    refine vshift_drop (wkn_agg ?_) (hJ.set (by omega) _).hwk
    simp [Nt.cells, Ex.zero, Ex.rows]
theorem Ex.okN_six {e : Ex} (h : e.okN = true) (h6 : e.op = 6) : ∃ x r, e.l = x :: r := by
  rw [Ex.okN_eq] at h
  simp [h6] at h
  cases hL : e.l with
  | nil => exact absurd hL h
  | cons x r => exact ⟨x, r, rfl⟩
theorem Ex.okN_seven {e : Ex} (h : e.okN = true) (h7 : e.op = 7) : ∃ x y, e.l = [x, y] ∧ x.okN = true ∧ y.okN = true := by
  rw [Ex.okN_eq] at h
  simp [h7] at h
  match hL : e.l, h with
  | [x, y], h => exact ⟨x, y, rfl, by simpa using h.2⟩
theorem Ex.net_size (e : Ex) : e.okN = true → e.net.size ≤ 4 * e.size := by
  refine Ex.sized (p := fun e => e.okN = true → e.net.size ≤ 4 * e.size) ?_ e
  intro e ih hok
  have hsz := Ex.size_eq e
  have hpos := e.size_pos
  rw [Ex.net_eq, ofN]
  split
  · rename_i h6
    obtain ⟨x, r, hL⟩ := Ex.okN_six hok h6
    have := Ex.size_mem (l := e.l) (i := 0) (by simp [hL])
    simp only [hL, List.getElem_cons_zero] at this
    rw [hL] at hsz
    simp [hL, Nt.size, Nt.sizeL]; omega
  split
  · rename_i h6 h7
    obtain ⟨x, y, hL, hx, hy⟩ := Ex.okN_seven hok h7
    have i1 := ih 0 (by simp [hL])
    have i2 := ih 1 (by simp [hL])
    simp only [hL, List.getElem_cons_zero, List.getElem_cons_succ] at i1 i2
    have i1 := i1 hx
    have i2 := i2 hy
    rw [hL] at hsz
    simp [Ex.sizeL] at hsz
    simp [hL, joinN, Nt.size]
    have hz : Ex.zero.size = 1 := rfl
    have app : ∀ l m : List Nt, Nt.sizeL (l ++ m) = Nt.sizeL l + Nt.sizeL m := by
      intro l m
      induction l with
      | nil => simp [Nt.sizeL]
      | cons a l ih => simp [Nt.sizeL, ih]; omega
    have fl : ∀ (k : Int) (z : Nt), Nt.sizeL (z.flat k) ≤ z.size := by
      intro k z
      unfold Nt.flat
      split
      · have := Nt.size_eq z; omega
      · simp [Nt.sizeL]
    have f1 := fl (if e.m = 14 then 2 else 3) x.net
    have f2 := fl (if e.m = 14 then 2 else 3) y.net
    rw [app]
    omega
  · simp [Nt.size, Nt.sizeL]; omega
set_option maxRecDepth 20000 in
set_option maxHeartbeats 4000000 in
theorem net_of : ∀ (k : Nat), k ≤ 100000 → ∀ e : Ex, e.size < k → e.okN = true → PCall Tryd.prog 49 [.agg e.cells] (.agg e.net.cells) := by
  intro k
  induction k with
  | zero => intro _ e h; omega
  | succ k ih =>
  intro hk e he hok
  have hsz := Ex.size_eq e
  refine pcall_fn Code.ok49 (by simp [Code.f49]) fun H => ?_
  have e0 := Ex.net_eq e
  by_cases h6 : e.op = 6
  · obtain ⟨x, r, hL⟩ := Ex.okN_six hok h6
    rw [e0, ofN, if_pos h6, hL]
    simp [Code.f49, h6, hL]
    intro g1 g2
    refine vshift_drop (wkn_agg ?_) (.front _ _)
    rw [Ex.cells_eq x]
    simp [Nt.cells]
  by_cases h7 : e.op = 7
  · obtain ⟨x, y, hL, hx, hy⟩ := Ex.okN_seven hok h7
    have hs := Ex.size_mem (l := e.l) (i := 0) (by simp [hL])
    have hs2 := Ex.size_mem (l := e.l) (i := 1) (by simp [hL])
    simp only [hL, List.getElem_cons_zero, List.getElem_cons_succ] at hs hs2
    rw [hL] at hsz
    have z1 := Ex.net_size x hx
    have z2 := Ex.net_size y hy
    rw [ofN, if_neg h6, if_pos h7, hL] at e0
    rw [e0]
    by_cases h14 : e.m = 14
    · simp [Code.f49, h7, hL, h14]
      intro g1 g2
      refine PCallK.pure (ih (by omega) x (by omega) hx) ?_
      simp [hL]
      refine PCallK.pure (ih (by omega) y (by omega) hy) ?_
      simp
      refine PCallK.pure (net_join 2 x.net y.net (by omega) (by omega)) ?_
      simp
      exact vshift_drop (.refl _) (.front _ _)
    · simp [Code.f49, h7, hL, h14]
      intro g1 g2
      refine PCallK.pure (ih (by omega) x (by omega) hx) ?_
      simp [hL]
      refine PCallK.pure (ih (by omega) y (by omega) hy) ?_
      simp
      refine PCallK.pure (net_join 3 x.net y.net (by omega) (by omega)) ?_
      simp
      exact vshift_drop (.refl _) (.front _ _)
  · rw [ofN, if_neg h6, if_neg h7] at e0
    rw [e0]
    simp [Code.f49, h6, h7]
    intro g1 g2
    refine vshift_drop (wkn_agg ?_) (.front _ _)
    rw [Ex.cells_eq e]
    simp [Nt.cells]
end Go.Proofs.YtmilcpmhdokhgaaDoor
