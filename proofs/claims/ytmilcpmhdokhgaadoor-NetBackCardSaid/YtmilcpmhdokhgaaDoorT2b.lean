/- Networks: right ones, by definition. -/
import Derived.Test.YtmilcpmhdokhgaaDoorT2
set_option linter.unusedVariables false
set_option linter.unusedSimpArgs false
namespace Go.Proofs.YtmilcpmhdokhgaaDoor
open Go Go.RowKit Go.Proofs.YtmilcpmhdokhgaaDoor.Abs

set_option maxRecDepth 20000 in
set_option maxHeartbeats 4000000 in
theorem r44_right (s : Sc) : ∀ (k : Nat), k ≤ 1000000000 → ∀ x : Nt, x.size < k → PCall Tryd.prog 22 [.agg s.cells, .agg x.cells] (.bool (x.right s)) := by
  intro k
  induction k with
  | zero => intro _ e h; omega
  | succ k ih =>
  intro hk x hx
  have hsz := Nt.size_eq x
  have hlen := Nt.len_size x.l
  refine pcall_fn Code.ok22 (by simp [Code.f22]) fun H => ?_
  have e0 := Nt.right_eq s x
  by_cases h1 : x.kind = 1
  · rw [e0, if_pos h1]
    simp [Code.f22, h1]
    intro g1 g2
    refine ⟨fun hl => ?_, fun hl => vbd (by simp [Nt.head, hl])⟩
    refine CallK.pure (r43_leaf s x.e (by omega)) ?_
    simp
    repeat' (first | refine vbd ?_ | apply And.intro | intro _)
    all_goals simp_all [Nt.head]
  · rw [if_neg h1] at e0
    rw [e0]
    by_cases hb : x.body = true
    · have hb2 := hb
      simp [Nt.body] at hb2
      obtain ⟨⟨hk23, hn, hl2⟩, hz⟩ := hb2
      have hl2' : ¬ (x.l.length : Int) < 2 := by omega
      rw [hb, Bool.true_and]
      have loop : ∀ (g1 g2 : Nat) (E : Env), EnvTo E [(5, .int .i64 0), (2, .ptr H.length g1 0 0), (3, .ptr (H.length + 1) g2 0 0)] → LoopK Tryd.prog 87 Code.f22l0 (AInBlock 0 (AThen (SwK Tryd.prog 87 ((SCode.region false [{ dst := some 4, op := SOp.mv (Opd.c (AV.bool true)) }]).seq SCode.ret) (RetQ [SRes.t 4] fun y H' => VShift y H' (AV.bool (kidsOk s x.kind x.l)) H)) (RetQ [SRes.t 4] fun y H' => VShift y H' (AV.bool (kidsOk s x.kind x.l)) H)))
          E [] (H ++ [some (.rows g1 [s.cells]), some (.rows g2 [x.cells])]) := by
        intro g1 g2 E hE
        refine LoopK.told (σ := Nat) (fun i => [(5, .int .i64 i), (2, .ptr H.length g1 0 0), (3, .ptr (H.length + 1) g2 0 0)]) (fun i => H ++ [some (.rows g1 [s.cells]), some (.rows g2 [x.cells])])
          (fun i => i ≤ x.l.length ∧ kidsOk s x.kind x.l = kidsOk s x.kind (x.l.drop i)) (fun i => x.l.length - i) 0 ?_ hE (.refl _) ?_
        · exact ⟨by simp, by simp⟩
        rintro i ⟨hi, hall⟩
        simp [Code.f22l0]
        refine ⟨fun h => ?_, fun h => ?_⟩
        · have hs := Nt.size_mem h
          rw [List.drop_eq_getElem_cons h, kidsOk_cons] at hall
          have hget := List.getElem?_eq_getElem h
          generalize x.l[i] = y at hs hall hget
          simp [hget]
          refine ⟨fun hyk => ?_, fun hyk => ?_⟩
          · simp [hget]
            refine PCallK.pure (ih (by omega) y (by omega)) ?_
            simp
            refine ⟨fun hf => vbd ?_, fun hf => ⟨i + 1, ⟨by omega, ?_⟩, by omega, wkn_int (wrap_id (by omega) (by omega))⟩⟩
            · rw [hall, hf]; simp
            · rw [hall, hf]; simp [hyk]
          · refine vbd ?_
            rw [hall]; simp [hyk]
        · refine vbd ?_
          rw [hall, List.drop_eq_nil_of_le h]; rfl
      rcases hk23 with hk2 | hk2
      · simp [Code.f22, h1, hk2, hn, hl2']
        intro g1 g2
        refine CallK.wk (ys := [.agg x.e.cells, .agg Ex.zero.cells]) (by simp [zero_cells]) ?_
        refine CallK.pure (same26_ok _ (Nat.le_refl _) x.e Ex.zero (by omega)) ?_
        simp [hz]
        rw [hk2] at loop
        refine loop g1 g2 _ ?_
        simp
      · simp [Code.f22, h1, hk2, hn, hl2']
        intro g1 g2
        refine CallK.wk (ys := [.agg x.e.cells, .agg Ex.zero.cells]) (by simp [zero_cells]) ?_
        refine CallK.pure (same26_ok _ (Nat.le_refl _) x.e Ex.zero (by omega)) ?_
        simp [hz]
        rw [hk2] at loop
        refine loop g1 g2 _ ?_
        simp
    · have hb2 : x.body = false := by simpa using hb
      rw [hb2, Bool.false_and]
      by_cases hk23 : x.kind = 2 ∨ x.kind = 3
      rotate_left
      · have h2 : x.kind ≠ 2 := fun h => hk23 (.inl h)
        have h3 : x.kind ≠ 3 := fun h => hk23 (.inr h)
        simp [Code.f22, h1, h2, h3]
        intro g1 g2
        exact vbd rfl
      have hbz : x.neg = 0 → 2 ≤ x.l.length → x.e.beq Ex.zero = false := by
        intro hn hl
        simp [Nt.body, hk23, hn, hl] at hb2
        exact hb2
      rcases hk23 with hk2 | hk2
      all_goals
        by_cases hn : x.neg = 0
        · by_cases hl : (x.l.length : Int) < 2
          · simp [Code.f22, h1, hk2, hn, hl]
            intro g1 g2
            exact vbd rfl
          · simp [Code.f22, h1, hk2, hn, hl]
            intro g1 g2
            refine CallK.wk (ys := [.agg x.e.cells, .agg Ex.zero.cells]) (by simp [zero_cells]) ?_
            refine CallK.pure (same26_ok _ (Nat.le_refl _) x.e Ex.zero (by omega)) ?_
            rw [hbz hn (by omega)]
            simp
            exact vbd rfl
        · simp [Code.f22, h1, hk2, hn]
          intro g1 g2
          exact vbd rfl
end Go.Proofs.YtmilcpmhdokhgaaDoor
