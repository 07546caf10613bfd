/- Networks and expressions. -/
import Derived.Test.YtmilcpmhdokhgaaDoorT2
set_option linter.unusedVariables false
set_option linter.unusedSimpArgs false
namespace Go.Proofs.YtmilcpmhdokhgaaDoor
open Go Go.RowKit Go.Proofs.YtmilcpmhdokhgaaDoor.Abs

/-- A network's expression. -/
def foldB (m : Int) (a : Ex) (l : List Ex) : Ex := l.foldl (fun p q => Ex.bin m p q) a
def Nt.op (x : Nt) : Int := if x.kind = 3 then 15 else 14
def Nt.ex : Nt → Ex := Nt.para fun x rs => if x.kind = 1 ∨ x.l.length = 0 then (if x.neg = 1 then x.e.neg else x.e) else foldB x.op (rs.headD x.e) rs.tail
theorem Nt.ex_eq (x : Nt) : x.ex = if x.kind = 1 ∨ x.l.length = 0 then (if x.neg = 1 then x.e.neg else x.e) else foldB x.op ((x.l.map Nt.ex).headD x.e) (x.l.map Nt.ex).tail := Nt.para_eq _ x
theorem foldB_snoc (m : Int) (a : Ex) (l : List Ex) (b : Ex) : foldB m a (l ++ [b]) = Ex.bin m (foldB m a l) b := by simp [foldB]
theorem hwk_set2 {J : AHeap} {b : Nat} {x y : Blk} (h : b < J.length) (w : BW x y) : HWk (J.set b (some x)) (J.set b (some y)) := by
  have := hwk_set (J := J.set b (some x)) (List.getElem?_set_self h) w
  rwa [List.set_set] at this
theorem slc_tail {y : Nt} {r : List Nt} : slcA 8 (.sl .no (Nt.rows (y :: r))) (some (.int .i64 1)) none = some (.sl .no (Nt.rows r)) := by
  have h : ((Nt.rows (y :: r)).all fun row => row.length == 8) = true := by simp only [List.all_eq_true]; intro q hq; simpa using Nt.rows_mem q hq
  have hl : (Nt.rows (y :: r)).length = r.length + 1 := by simp
  have hd : ((Nt.rows (y :: r)).drop 1).take (r.length + 1 - 1) = Nt.rows r := by simp [Nt.rows_map]; exact List.take_of_length_le (by simp)
  simp only [slcA, bnd, hl, h]
  simp
  simpa using hd
set_option maxRecDepth 20000 in
set_option maxHeartbeats 4000000 in
theorem net_expr : ∀ (k : Nat), k ≤ 1000000000 → ∀ x : Nt, x.size < k → PCall Tryd.prog 27 [.agg x.cells] (.agg x.ex.cells) := by
  intro k
  induction k with
  | zero => intro _ e h; omega
  | succ k ih =>
  intro hk x hx
  have hsz := Nt.size_eq x
  have hlen := Nt.len_size x.l
  refine pcall_fn Code.ok27 (by simp [Code.f27]) fun H => ?_
  have e0 := Nt.ex_eq x
  by_cases hc : x.kind = 1 ∨ x.l.length = 0
  · rw [if_pos hc] at e0
    rw [e0]
    rcases Classical.em (x.kind = 1) with h1 | h1
    · by_cases hn : x.neg = 1
      · simp [Code.f27, h1, hn]
        intro g1 g2
        exact v_neg
      · simp [Code.f27, h1, hn]
        intro g1 g2
        exact vshift_drop (.refl _) (.front _ _)
    · have h0 : x.l.length = 0 := by rcases hc with h | h; exact absurd h h1; exact h
      have h0' : x.l = [] := List.length_eq_zero_iff.1 h0
      by_cases hn : x.neg = 1
      · simp [Code.f27, h1, hn, h0']
        intro g1 g2
        exact v_neg
      · simp [Code.f27, h1, hn, h0']
        intro g1 g2
        exact vshift_drop (.refl _) (.front _ _)
  rw [if_neg hc] at e0
  rw [e0]
  have h1 : x.kind ≠ 1 := fun h => hc (.inl h)
  obtain ⟨y, r, hL⟩ : ∃ y r, x.l = y :: r := by
    cases hL : x.l with
    | nil => exact absurd (.inr (by rw [hL]; rfl)) hc
    | cons y r => exact ⟨y, r, rfl⟩
  have hs := Nt.size_mem (l := x.l) (i := 0) (by simp [hL])
  simp only [hL, List.getElem_cons_zero] at hs
  have hsz2 : x.size = 1 + x.e.size + Nt.sizeL (y :: r) := by rw [hsz, hL]
  have hsl := slc_tail (y := y) (r := r)
  have hlr : r.length < 1000000000 := by have := congrArg List.length hL; simp at this; omega
  have hne : ¬ (r.length : Int) + 1 = 0 := by omega
  have h1le : (1 : Int) ≤ (r.length : Int) + 1 := by omega
  have loop : ∀ (g1 g2 g3 : Nat) (J : AHeap) (E : Env), Ov J H → J[H.length]? = some (some (.rows g1 [x.cells])) → J[H.length + 1]? = some (some (.rows g2 [[.int .i64 0, .int .i64 0, .int .i64 0, .int .i64 0, .sl .full []]])) → J[H.length + 2]? = some (some (.rows g3 [y.ex.cells])) →
      EnvTo E [(37, .int .i64 0), (36, .int .i64 r.length), (35, .sl .no (Nt.rows r)), (3, .int .i64 x.op), (4, .ptr (H.length + 2) g3 0 0), (2, .ptr (H.length + 1) g2 0 0)] →
      LoopK Tryd.prog 49 Code.f27l0 (AInBlock 0 (AThen (SwK Tryd.prog 49 ((SCode.region false [{ dst := some 48, op := SOp.load true 5 (Opd.t 4) }, { dst := none, op := SOp.store 5 (Opd.t 2) (Opd.t 48) }]).seq SCode.ret) (RetQ [SRes.cell 2 true 5] fun z H' => VShift z H' (AV.agg (foldB x.op y.ex (r.map Nt.ex)).cells) H)) (RetQ [SRes.cell 2 true 5] fun z H' => VShift z H' (AV.agg (foldB x.op y.ex (r.map Nt.ex)).cells) H))) E [] J := by
    intro g1 g2 g3 J E hJ hx1 hx2 hx3 hE
    refine LoopK.told (σ := Nat × AHeap) (fun i => [(37, .int .i64 i.1), (36, .int .i64 r.length), (35, .sl .no (Nt.rows r)), (3, .int .i64 x.op), (4, .ptr (H.length + 2) g3 0 0), (2, .ptr (H.length + 1) g2 0 0)]) (fun i => i.2)
      (fun i => i.1 ≤ r.length ∧ Ov i.2 H ∧ i.2[H.length + 1]? = some (some (.rows g2 [[.int .i64 0, .int .i64 0, .int .i64 0, .int .i64 0, .sl .full []]])) ∧ i.2[H.length + 2]? = some (some (.rows g3 [(foldB x.op y.ex ((r.take i.1).map Nt.ex)).cells]))) (fun i => r.length - i.1) (0, J) ⟨by simp, hJ, hx2, by simpa [foldB] using hx3⟩ hE (.refl _) ?_
    rintro ⟨i, J⟩ ⟨hi, hJ, hx2, hx3⟩
    simp only at hi hJ hx2 hx3
    have hy2 := fun l => get_app (l := l) hx2
    have hy3 := fun l => get_app (l := l) hx3
    simp [Code.f27l0]
    refine ⟨fun h => ?_, fun h => ?_⟩
    · have hsr := Nt.size_mem (l := x.l) (i := i + 1) (by simp [hL]; omega)
      simp only [hL, List.getElem_cons_succ] at hsr
      rw [hL] at hsz
      have ht := List.take_succ_eq_append_getElem h
      have hget := List.getElem?_eq_getElem h
      generalize r[i] = z at hsr ht hget
      simp [hget, hy3]
      intro g4
      refine PCallK.pure (ih (by omega) z (by omega)) ?_
      have hz3 := fun l y => List.getElem?_set_self (a := y) (get_lt (hy3 l))
      simp [hy3]
      have e1 : List.take (i + 1) (r.map Nt.ex) = (List.take i r).map Nt.ex ++ [z.ex] := by rw [← List.map_take, ht, List.map_append]; rfl
      refine ⟨i + 1, _, ⟨by omega, (hJ.app [some (.rows g4 [z.cells])]).set (b := H.length + 2) (by omega) (some (.rows g3 [(Ex.bin x.op (foldB x.op y.ex ((r.take i).map Nt.ex)) z.ex).cells])), ?_, ?_⟩, by omega, wkn_int (wrap_id (by omega) (by omega)), ?_⟩
      · rw [List.getElem?_set_ne (by omega)]; exact hy2 _
      · rw [List.getElem?_set_self (get_lt (hy3 _)), e1, foldB_snoc]
      · refine hwk_set2 (get_lt (hy3 _)) (bw_rows ?_)
        simp [Ex.bin, Ex.cells, Ex.rows]
    · have hs2 := fun y => List.getElem?_set_self (a := y) (get_lt hx2)
      rw [List.take_of_length_le h] at hx3
      simp [hx3, hx2, hs2]
      exact vshift_drop (.refl _) (hJ.set (by omega) _).hwk
  have hdt : ((x.l.map Nt.ex).headD x.e) = y.ex ∧ (x.l.map Nt.ex).tail = r.map Nt.ex := by simp [hL]
  rw [hdt.1, hdt.2]
  by_cases h3 : x.kind = 3
  · have hop : x.op = 15 := by simp [Nt.op, h3]
    rw [hop] at loop ⊢
    simp [Code.f27, h1, h3, hL, hne]
    intro g1 g2
    refine CallK.pure (ih (by omega) y (by omega)) ?_
    simp [hL, hsl]
    intro g3
    refine loop g1 g2 g3 _ _ ((Ov.refl H).app _) (by simp) (by simp) (by simp) ?_
    simp
  · have hop : x.op = 14 := by simp [Nt.op, h3]
    rw [hop] at loop ⊢
    simp [Code.f27, h1, h3, hL, hne]
    intro g1 g2
    refine CallK.pure (ih (by omega) y (by omega)) ?_
    simp [hL, hsl]
    intro g3
    refine loop g1 g2 g3 _ _ ((Ov.refl H).app _) (by simp) (by simp) (by simp) ?_
    simp
end Go.Proofs.YtmilcpmhdokhgaaDoor
