/- Few: are there at most so many? -/
import Derived.Test.YtjgkfgocgknjjaaDoorS1
set_option linter.unusedVariables false
set_option linter.unusedSimpArgs false
namespace Go.Proofs.YtjgkfgocgknjjaaDoor
open Go Go.RowKit Go.Proofs.YtjgkfgocgknjjaaDoor.Abs

theorem few26_ok (e : Ex) (most : Int) (hm : most ≤ 1000000) : RCall Tryd.prog 27 [.agg e.cells, .int .i64 most] (IsB ((e.size : Int) ≤ most)) := by
  refine rcall_fn Code.ok27 (by simp [Code.f27]) fun H => ?_
  simp [Code.f27]
  intro g
  refine CallK.pure (room_call e hm (by omega)) ?_
  simp
  refine end_rel (IsB.mk fun h => ?_) (.front _ _)
  have := Ex.room_size e most 40 (by simpa using h)
  have := of_decide_eq_true h
  omega

theorem Ex.sizeL_take {l : List Ex} {i : Nat} (h : i < l.length) : Ex.sizeL (l.take (i + 1)) = Ex.sizeL (l.take i) + (l[i]).size := by
  induction l generalizing i with
  | nil => simp at h
  | cons x r ih =>
    cases i with
    | zero => simp [Ex.sizeL]
    | succ i => simp [Ex.sizeL, ih (by simpa using h)]; omega
theorem Arg.sizeL_take {l : List Arg} {i : Nat} (h : i < l.length) : Arg.sizeL (l.take (i + 1)) = Arg.sizeL (l.take i) + (l[i]).size := by
  induction l generalizing i with
  | nil => simp at h
  | cons x r ih =>
    cases i with
    | zero => simp [Arg.sizeL]
    | succ i => have := ih (i := i) (by simpa using h); simp [Arg.sizeL] at this ⊢; omega
theorem Arm.sizeL_take {l : List Arm} {i : Nat} (h : i < l.length) : Arm.sizeL (l.take (i + 1)) = Arm.sizeL (l.take i) + (l[i]).size := by
  induction l generalizing i with
  | nil => simp at h
  | cons x r ih =>
    cases i with
    | zero => simp [Arm.sizeL]
    | succ i => simp [Arm.sizeL, ih (by simpa using h)]; omega
theorem St.sizeL_take {l : List St} {i : Nat} (h : i < l.length) : St.sizeL (l.take (i + 1)) = St.sizeL (l.take i) + (l[i]).size := by
  induction l generalizing i with
  | nil => simp at h
  | cons x r ih =>
    cases i with
    | zero => simp [St.sizeL]
    | succ i => simp [St.sizeL, ih (by simpa using h)]; omega

set_option maxRecDepth 20000 in
set_option maxHeartbeats 8000000 in
theorem room28_ok : ∀ (k : Nat) (l : List St), St.sizeL l < k → ∀ (most deep : Int), most ≤ 1000 → deep ≤ 1000 →
    RCall Tryd.prog 18 [.sl .no (St.rows l), .int .i64 most, .int .i64 deep] (IsI fun q => -1 ≤ q ∧ (0 ≤ q → (St.sizeL l : Int) + 30000 * q ≤ 30000 * most)) := by
  intro k
  induction k with
  | zero => intro l h; omega
  | succ k ih =>
    intro l hl most deep hm hd
    refine rcall_fn Code.ok18 (by simp [Code.f18]) fun H => ?_
    simp [Code.f18]
    have hneg : ∀ {J : AHeap} {p : Int → Prop}, ∃ r, VShift (.int .i64 (-1)) (H ++ J) r H ∧ IsI (fun q => -1 ≤ q ∧ (0 ≤ q → p q)) r := fun {J} {p} => end_rel (IsI.mk ⟨by omega, fun h => absurd h (by omega)⟩) (.front _ _)
    have hneg' : ∀ {p : Int → Prop}, ∃ r, VShift (.int .i64 (-1)) H r H ∧ IsI (fun q => -1 ≤ q ∧ (0 ≤ q → p q)) r := fun {p} => end_rel (IsI.mk ⟨by omega, fun h => absurd h (by omega)⟩) (.refl _)
    refine ⟨fun hlen => ⟨fun _ => hneg', fun h2 => ?_⟩, fun _ => hneg'⟩
    refine LoopK.told (σ := Nat × Int) (fun s => [(7, .int .i64 s.1), (0, .sl .no (St.rows l)), (1, .int .i64 s.2), (2, .int .i64 deep)]) (fun _ => H)
      (fun s => s.1 ≤ l.length ∧ (St.sizeL (l.take s.1) : Int) + 30000 * s.2 ≤ 30000 * most ∧ 0 ≤ s.2) (fun s => l.length - s.1) (0, most) ?_ ?_ ?_ ?_
    · simp [St.sizeL]; omega
    · simp
    · simp
    rintro ⟨i, q⟩ ⟨hi, hr, h0⟩
    simp only at hi hr h0
    simp [Code.f18l0]
    refine ⟨fun h => ?_, fun h => ?_⟩
    · have hs := St.size_mem h
      have hse := St.size_eq l[i]
      have hst := St.sizeL_take h
      generalize hx : l[i] = x at hs hse hst
      simp [List.getElem?_eq_getElem h, hx]
      intro g
      refine ⟨fun hq1 => ⟨fun h20 => ⟨fun ha20 => ⟨fun h60 => ?_, fun _ => hneg⟩, fun _ => hneg⟩, fun _ => hneg⟩, fun _ => hneg⟩
      refine CallK.rel (few26_ok x.e 100 (by omega)) ?_
      rintro _ ⟨b, rfl, hb⟩
      cases b
      · simp; exact hneg
      simp
      refine CallK.rel (few26_ok x.i 100 (by omega)) ?_
      rintro _ ⟨b, rfl, hb'⟩
      cases b
      · simp; exact hneg
      simp
      refine LoopK.told (σ := Nat) (fun j => [(9, .int .i64 j), (8, .ptr H.length g 0 0), (0, .sl .no (St.rows l)), (1, .int .i64 q), (2, .int .i64 deep), (7, .int .i64 i)]) (fun _ => H ++ [some (.rows g [x.cells])])
        (fun j => j ≤ x.l.length ∧ Ex.sizeL (x.l.take j) ≤ 100 * j) (fun j => x.l.length - j) 0 ?_ ?_ ?_ ?_
      · simp [Ex.sizeL]
      · simp
      · simp
      rintro j ⟨hj, hjs⟩
      simp [Code.f18l1]
      refine ⟨fun hjl => ?_, fun hjl => ?_⟩
      · simp [List.getElem?_eq_getElem hjl]
        refine CallK.rel (few26_ok x.l[j] 100 (by omega)) ?_
        rintro _ ⟨b, rfl, hb2⟩
        cases b
        · simp; exact hneg
        simp
        have h1 := Ex.sizeL_take hjl
        have h2 := hb2 rfl
        exact ⟨j + 1, ⟨by omega, by omega⟩, by omega, wkn_int (wrap_id (by omega) (by omega))⟩
      rw [List.take_of_length_le hjl] at hjs
      refine LoopK.told (σ := Nat) (fun j => [(10, .int .i64 j), (8, .ptr H.length g 0 0), (0, .sl .no (St.rows l)), (1, .int .i64 q), (2, .int .i64 deep), (7, .int .i64 i)]) (fun _ => H ++ [some (.rows g [x.cells])])
        (fun j => j ≤ x.args.length ∧ Arg.sizeL (x.args.take j) ≤ 101 * j) (fun j => x.args.length - j) 0 ?_ ?_ ?_ ?_
      · simp [Arg.sizeL]
      · simp
      · simp
      rintro u ⟨hu, hus⟩
      simp [Code.f18l2]
      refine ⟨fun hul => ?_, fun hul => ?_⟩
      · simp [List.getElem?_eq_getElem hul]
        refine CallK.rel (few26_ok x.args[u].e 100 (by omega)) ?_
        rintro _ ⟨b, rfl, hb2⟩
        cases b
        · simp; exact hneg
        simp
        have h1 := Arg.sizeL_take hul
        have h2 := hb2 rfl
        have h3 : x.args[u].size = 1 + x.args[u].e.size := rfl
        exact ⟨u + 1, ⟨by omega, by omega⟩, by omega, wkn_int (wrap_id (by omega) (by omega))⟩
      rw [List.take_of_length_le hul] at hus
      rw [wrap_id (by omega) (by omega), wrap_id (by omega) (by omega)]
      refine CallK.rel (ih x.body (by omega) (q - 1) (deep - 1) (by omega) (by omega)) ?_
      rintro _ ⟨q1, rfl, hq1a, hq1b⟩
      simp
      refine LoopK.join_call (fun E J => J = H ++ [some (.rows g [x.cells])] ∧ ∃ q2 : Int, EnvTo E [(11, .int .i64 0), (8, .ptr H.length g 0 0), (0, .sl .no (St.rows l)), (1, .int .i64 q2), (2, .int .i64 deep), (7, .int .i64 i)] ∧ -1 ≤ q2 ∧ (0 ≤ q2 → (St.sizeL x.body : Int) + St.sizeL x.els + 30000 * q2 ≤ 30000 * (q - 1))) ?_ ?_ ?_
      rotate_left
      · intro h
        rw [wrap_id (n := deep - 1) (by omega) (by omega)]
        refine CallK.rel (ih x.els (by omega) q1 (deep - 1) (by omega) (by omega)) ?_
        rintro _ ⟨q2, rfl, hq2a, hq2b⟩
        exact ⟨rfl, q2, by simp, hq2a, fun h => by omega⟩
      · intro h
        exact ⟨rfl, q1, by simp, hq1a, fun h => by omega⟩
      rintro E _ ⟨rfl, q2, hE, hq2a, hq2b⟩
      refine LoopK.told (σ := Nat × Int) (fun s => [(11, .int .i64 s.1), (8, .ptr H.length g 0 0), (0, .sl .no (St.rows l)), (1, .int .i64 s.2), (2, .int .i64 deep), (7, .int .i64 i)]) (fun _ => H ++ [some (.rows g [x.cells])])
        (fun s => s.1 ≤ x.arms.length ∧ -1 ≤ s.2 ∧ (0 ≤ s.2 → (St.sizeL x.body : Int) + St.sizeL x.els + Arm.sizeL (x.arms.take s.1) + 30000 * s.2 ≤ 30000 * (q - 1) + 301 * s.1)) (fun s => x.arms.length - s.1) (0, q2) ?_ ?_ ?_ ?_
      · simp [Arm.sizeL]; omega
      · exact hE
      · simp
      rintro ⟨v, p⟩ ⟨hv, hp, hps⟩
      simp only at hv hp hps
      simp [Code.f18l3]
      refine ⟨fun hvl => ⟨fun hp0 => ?_, fun hpn => ⟨fun _ => hneg, fun h => by omega⟩⟩, fun hvl => ⟨fun _ => hneg, fun hp0 => ?_⟩⟩
      · have hva := Arm.size_mem hvl
        have hvs := Arm.size_eq x.arms[v]
        have hvt := Arm.sizeL_take hvl
        simp [List.getElem?_eq_getElem hvl]
        refine ⟨fun _ => hneg, fun h300 => ?_⟩
        rw [wrap_id (by omega) (by omega)]
        refine CallK.rel (ih x.arms[v].body (by omega) p (deep - 1) (by omega) (by omega)) ?_
        rintro _ ⟨p1, rfl, hp1a, hp1b⟩
        simp
        refine ⟨v + 1, p1, ⟨by omega, hp1a, fun h => ?_⟩, by omega, wkn_int (wrap_id (by omega) (by omega)), .refl _⟩
        have := hp1b h
        have := hps hp0
        omega
      · rw [List.take_of_length_le hvl] at hps
        have := hps hp0
        have := hb rfl
        have := hb' rfl
        refine ⟨i + 1, p, ⟨by omega, by omega, hp0⟩, by omega, wkn_int (wrap_id (by omega) (by omega)), .refl _⟩
    · rw [List.take_of_length_le h] at hr
      exact end_rel (IsI.mk ⟨by omega, fun _ => hr⟩) (.refl _)

theorem few28_ok (l : List St) (most : Int) (hm : most ≤ 1000) : RCall Tryd.prog 5 [.sl .no (St.rows l), .int .i64 most] (IsB ((St.sizeL l : Int) ≤ 30000 * most)) := by
  refine rcall_fn Code.ok5 (by simp [Code.f5]) fun H => ?_
  simp [Code.f5]
  refine CallK.rel (room28_ok _ l (Nat.lt_succ_self _) most 40 hm (by omega)) ?_
  rintro _ ⟨q, rfl, h1, h2⟩
  simp
  refine end_rel (IsB.mk fun h => ?_) (.refl _)
  have := h2 (of_decide_eq_true h)
  have := of_decide_eq_true h
  omega
end Go.Proofs.YtjgkfgocgknjjaaDoor
