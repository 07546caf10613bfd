/- Networks: few; right ones; contacts; the same. -/
import Derived.Test.YtmilcpmhdokhgaaDoorD4
import Derived.Test.YtmilcpmhdokhgaaDoorL3
import Derived.Test.YtmilcpmhdokhgaaDoorN5
set_option linter.unusedVariables false
set_option linter.unusedSimpArgs false
namespace Go.Proofs.YtmilcpmhdokhgaaDoor
open Go Go.RowKit Go.Proofs.YtmilcpmhdokhgaaDoor.Abs

set_option maxRecDepth 20000 in
set_option maxHeartbeats 4000000 in
theorem room44_ok : ∀ (k : Nat) (x : Nt), x.size < k → ∀ (most deep : Int), most ≤ 1000 → deep ≤ 1000 →
    RCall Tryd.prog 47 [.agg x.cells, .int .i64 most, .int .i64 deep] (IsI fun q => -1 ≤ q ∧ (0 ≤ q → (x.size : Int) + 31 * q ≤ 31 * most)) := by
  intro k
  induction k with
  | zero => intro x h; omega
  | succ k ih =>
    intro x hx most deep hm hd
    have hsz := Nt.size_eq x
    have hlen := Nt.len_size x.l
    refine rcall_fn Code.ok47 (by simp [Code.f47]) fun H => ?_
    simp [Code.f47]
    intro g
    have hneg : ∀ {J : AHeap} {p : Int → Prop}, ∃ r, VShift (.int .i64 (-1)) (H ++ J) r H ∧ IsI (fun q => -1 ≤ q ∧ (0 ≤ q → p q)) r := fun {J} {p} => end_rel (IsI.mk ⟨by omega, fun h => absurd h (by omega)⟩) (.front _ _)
    refine ⟨fun h1 => ⟨fun h2 => ?_, fun h2 => hneg⟩, fun h1 => hneg⟩
    refine CallK.rel (few26' x.e 30 (by omega)) ?_
    rintro _ ⟨b, rfl, hb⟩
    cases b
    · simp; exact hneg
    have hb := hb rfl
    simp
    rw [wrap_id (by omega) (by omega)]
    refine LoopK.told (σ := Nat × Int) (fun s => [(7, .int .i64 s.1), (1, .int .i64 s.2), (2, .int .i64 deep), (3, .ptr H.length g 0 0)]) (fun _ => H ++ [some (.rows g [x.cells])])
      (fun s => s.1 ≤ x.l.length ∧ 0 ≤ s.2 ∧ (Nt.sizeL (x.l.take s.1) : Int) + 31 * s.2 ≤ 31 * (most - 1)) (fun s => x.l.length - s.1) (0, most - 1) ?_ ?_ ?_ ?_
    · simp [Nt.sizeL]; omega
    · simp
    · simp
    rintro ⟨i, q⟩ ⟨hi, h0, hq⟩
    simp only at hi h0 hq
    simp [Code.f47l0]
    refine ⟨fun h => ?_, fun h => ?_⟩
    · have hs := Nt.size_mem h
      have ht := Nt.sizeL_take h
      have hli := Nt.len_size (x.l.take i)
      rw [List.length_take, Nat.min_eq_left hi] at hli
      simp [List.getElem?_eq_getElem h]
      rw [wrap_id (by omega) (by omega)]
      refine CallK.rel (ih x.l[i] (by omega) q (deep - 1) (by omega) (by omega)) ?_
      rintro _ ⟨q1, rfl, h3, h4⟩
      simp
      refine ⟨fun _ => hneg, fun h5 => ⟨i + 1, q1, ⟨by omega, h5, ?_⟩, by omega, wkn_int (wrap_id (by omega) (by omega)), .refl _⟩⟩
      have := h4 h5
      omega
    · rw [List.take_of_length_le h] at hq
      exact end_rel (IsI.mk ⟨by omega, fun _ => by omega⟩) (.front _ _)
theorem few44_ok (x : Nt) (most : Int) (hm : most ≤ 1000) : RCall Tryd.prog 19 [.agg x.cells, .int .i64 most] (IsB ((x.size : Int) ≤ 31 * most)) := by
  refine rcall_fn Code.ok19 (by simp [Code.f19]) fun H => ?_
  simp [Code.f19]
  intro g
  refine CallK.rel (room44_ok _ x (Nat.lt_succ_self _) most 30 hm (by omega)) ?_
  rintro _ ⟨q, rfl, h1, h2⟩
  simp
  refine end_rel (IsB.mk fun h => ?_) (.front _ _)
  have := h2 (of_decide_eq_true h)
  have := of_decide_eq_true h
  omega

/-- Is it a right network? -/
def Nt.head (s : Sc) (x : Nt) : Bool := decide (x.l.length = 0) && x.e.leaf s && (decide (x.neg = 0) || (decide (x.neg = 1) && decide (x.e.op ≠ 1)))
def Nt.body (x : Nt) : Bool := decide ((x.kind = 2 ∨ x.kind = 3) ∧ x.neg = 0 ∧ 2 ≤ x.l.length) && x.e.beq Ex.zero
def Nt.right (s : Sc) : Nt → Bool := Nt.para fun x rs => if x.kind = 1 then x.head s else x.body && (x.l.all fun y => decide (y.kind ≠ x.kind)) && rs.all id
theorem Nt.right_eq' (s : Sc) (x : Nt) : x.right s = if x.kind = 1 then x.head s else x.body && (x.l.all fun y => decide (y.kind ≠ x.kind)) && (x.l.map (Nt.right s)).all id := Nt.para_eq _ x
def kidsOk (s : Sc) (k : Int) (l : List Nt) : Bool := l.all fun y => decide (y.kind ≠ k) && y.right s
theorem kidsOk_cons (s : Sc) (k : Int) (y : Nt) (l : List Nt) : kidsOk s k (y :: l) = (decide (y.kind ≠ k) && y.right s && kidsOk s k l) := rfl
theorem kidsOk_nil (s : Sc) (k : Int) : kidsOk s k [] = true := rfl
theorem kidsOk_mem {s : Sc} {k : Int} {l : List Nt} (h : kidsOk s k l = true) {y : Nt} (hy : y ∈ l) : y.kind ≠ k ∧ y.right s = true := by
  have := List.all_eq_true.1 h y hy
  simpa using this
theorem Nt.right_eq (s : Sc) (x : Nt) : x.right s = if x.kind = 1 then x.head s else x.body && kidsOk s x.kind x.l := by
  unfold kidsOk
  rw [Nt.right_eq']
  split
  · rfl
  · rw [Bool.and_assoc]
    congr 1
    generalize x.l = l
    induction l with
    | nil => rfl
    | cons y r ih =>
      simp only [List.all_cons, List.map_cons]
      rw [← ih]
      simp only [id]
      cases decide (y.kind ≠ x.kind) <;> cases y.right s <;> simp
theorem zero_cells : Ex.zero.cells = [.int .i64 0, .int .i64 0, .int .i64 0, .int .i64 0, .sl .no []] := by simp [Ex.zero, Ex.cells, Ex.rows]
set_option maxRecDepth 20000 in
set_option maxHeartbeats 4000000 in
theorem net_right (s : Sc) : ∀ (k : Nat), k ≤ 1000000000 → ∀ x : Nt, x.size < k → x.wf → PCall Tryd.prog 21 [.agg s.cells, .agg x.cells] (.bool (x.right s)) := by
  intro k
  induction k with
  | zero => intro _ e h; omega
  | succ k ih =>
  intro hk x hx hw
  have hsz := Nt.size_eq x
  have hlen := Nt.len_size x.l
  have hw2 := hw
  rw [Nt.wf_eq] at hw2
  obtain ⟨_, _, hwe, hwl⟩ := hw2
  refine pcall_fn Code.ok21 (by simp [Code.f21]) fun H => ?_
  have e0 := Nt.right_eq s x
  by_cases h1 : x.kind = 1
  · rw [e0, if_pos h1]
    simp [Code.f21, h1]
    intro g1 g2
    refine ⟨fun hl => ?_, fun hl => vbd (by simp [Nt.head, hl])⟩
    refine CallK.pure (nnf_leaf s x.e (by omega) hwe) ?_
    simp
    repeat' (first | refine vbd ?_ | apply And.intro | intro _)
    all_goals simp_all [Nt.head]
  · rw [if_neg h1] at e0
    rw [e0]
    by_cases hb : x.body = true
    · have hb2 := hb
      simp [Nt.body] at hb2
      obtain ⟨⟨hk23, hn, hl2⟩, hz⟩ := hb2
      have hl2' : ¬ (x.l.length : Int) < 2 := by omega
      rw [hb, Bool.true_and]
      have loop : ∀ (g1 g2 : Nat) (E : Env), EnvTo E [(65, .int .i64 0), (64, .int .i64 x.l.length), (63, .sl .no (Nt.rows x.l)), (2, .ptr H.length g1 0 0), (3, .ptr (H.length + 1) g2 0 0)] → LoopK Tryd.prog 81 Code.f21l0 (AInBlock 0 (AThen (SwK Tryd.prog 81 ((SCode.region false [{ dst := some 4, op := SOp.mv (Opd.c (AV.bool true)) }]).seq SCode.ret) (RetQ [SRes.t 4] fun y H' => VShift y H' (AV.bool (kidsOk s x.kind x.l)) H)) (RetQ [SRes.t 4] fun y H' => VShift y H' (AV.bool (kidsOk s x.kind x.l)) H)))
          E [] (H ++ [some (.rows g1 [s.cells]), some (.rows g2 [x.cells])]) := by
        intro g1 g2 E hE
        refine LoopK.told (σ := Nat × AHeap) (fun i => [(65, .int .i64 i.1), (64, .int .i64 x.l.length), (63, .sl .no (Nt.rows x.l)), (2, .ptr H.length g1 0 0), (3, .ptr (H.length + 1) g2 0 0)]) (fun i => i.2)
          (fun i => i.1 ≤ x.l.length ∧ Ov i.2 H ∧ i.2[H.length]? = some (some (.rows g1 [s.cells])) ∧ i.2[H.length + 1]? = some (some (.rows g2 [x.cells])) ∧ kidsOk s x.kind x.l = kidsOk s x.kind (x.l.drop i.1)) (fun i => x.l.length - i.1) (0, _) ?_ hE (.refl _) ?_
        · exact ⟨by simp, (Ov.refl H).app _, by simp, by simp, by simp⟩
        rintro ⟨i, J⟩ ⟨hi, hJ, hx1, hx2, hall⟩
        simp only at hi hJ hx1 hx2 hall
        have hy1 := fun l => get_app (l := l) hx1
        have hy2 := fun l => get_app (l := l) hx2
        simp [Code.f21l0, hx1, hx2]
        refine ⟨fun h => ?_, fun h => ?_⟩
        · have hs := Nt.size_mem h
          have hwi := Nt.wf_mem h hwl
          rw [List.drop_eq_getElem_cons h, kidsOk_cons] at hall
          have hget := List.getElem?_eq_getElem h
          generalize x.l[i] = y at hs hwi hall hget
          simp [hget, hy1, hy2]
          intro g3
          refine ⟨fun hyk => ?_, fun hyk => ?_⟩
          · refine CallK.pure (ih (by omega) y (by omega) hwi) ?_
            simp
            refine ⟨fun hf => vshift_drop (wkn_bool ?_) (hJ.app _).hwk, fun hf => ⟨i + 1, _, ⟨by omega, hJ.app _, hy1 _, hy2 _, ?_⟩, by omega, wkn_int (wrap_id (by omega) (by omega)), .refl _⟩⟩
            · rw [hall, hf]; simp
            · rw [hall, hf]; simp [hyk]
          · refine vshift_drop (wkn_bool ?_) (hJ.app _).hwk
            rw [hall]; simp [hyk]
        · refine vshift_drop (wkn_bool ?_) hJ.hwk
          rw [hall, List.drop_eq_nil_of_le h]; rfl
      rcases hk23 with hk2 | hk2
      · simp [Code.f21, h1, hk2, hn, hl2']
        intro g1 g2
        refine CallK.wk (ys := [.agg x.e.cells, .agg Ex.zero.cells]) (by simp [zero_cells]) ?_
        refine CallK.pure (samex_ok _ (Nat.le_refl _) x.e Ex.zero (by omega)) ?_
        simp [hz, hl2']
        rw [hk2] at loop
        refine loop g1 g2 _ ?_
        simp
      · simp [Code.f21, h1, hk2, hn, hl2']
        intro g1 g2
        refine CallK.wk (ys := [.agg x.e.cells, .agg Ex.zero.cells]) (by simp [zero_cells]) ?_
        refine CallK.pure (samex_ok _ (Nat.le_refl _) x.e Ex.zero (by omega)) ?_
        simp [hz, hl2']
        rw [hk2] at loop
        refine loop g1 g2 _ ?_
        simp
    · have hb2 : x.body = false := by simpa using hb
      rw [hb2, Bool.false_and]
      by_cases hk23 : x.kind = 2 ∨ x.kind = 3
      rotate_left
      · have h2 : x.kind ≠ 2 := fun h => hk23 (.inl h)
        have h3 : x.kind ≠ 3 := fun h => hk23 (.inr h)
        simp [Code.f21, h1, h2, h3]
        intro g1 g2
        exact vbd rfl
      have hbz : x.neg = 0 → x.e.beq Ex.zero = true → ¬ 2 ≤ x.l.length := by
        intro hn hz hl
        simp [Nt.body, hk23, hn, hz] at hb2
        omega
      rcases hk23 with hk2 | hk2
      all_goals
        by_cases hn : x.neg = 0
        · simp [Code.f21, h1, hk2, hn]
          intro g1 g2
          refine CallK.wk (ys := [.agg x.e.cells, .agg Ex.zero.cells]) (by simp [zero_cells]) ?_
          refine CallK.pure (samex_ok _ (Nat.le_refl _) x.e Ex.zero (by omega)) ?_
          cases hz : x.e.beq Ex.zero with
          | false => simp; exact vbd rfl
          | true =>
            have hl2 : (x.l.length : Int) < 2 := by have := hbz hn hz; omega
            simp [hl2]
            exact vbd rfl
        · simp [Code.f21, h1, hk2, hn]
          intro g1 g2
          exact vbd rfl
end Go.Proofs.YtmilcpmhdokhgaaDoor
