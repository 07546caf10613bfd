/- Costs, and whether a field is among inputs. -/
import Derived.Test.YtafhiicjmlkhcaaS4
import Derived.Test.YtafhiicjmlkhcaaM1
set_option linter.unusedVariables false
set_option linter.unusedSimpArgs false
namespace Go.Proofs.Ytafhiicjmlkhcaa
open Go Go.RowKit Go.Proofs.Ytafhiicjmlkhcaa.Abs

theorem end_no {H J : AHeap} {c : Prop} : ∃ r, VShift (.bool false) (H ++ J) r H ∧ IsB c r := end_rel (IsB.mk fun h => by cases h) (.front _ _)
theorem end_no' {H : AHeap} {c : Prop} : ∃ r, VShift (.bool false) H r H ∧ IsB c r := end_rel (IsB.mk fun h => by cases h) (.refl _)

set_option maxRecDepth 20000 in
set_option maxHeartbeats 4000000 in
theorem costs_ok : ∀ (k : Nat), k ≤ 800000000 → ∀ l : List St, St.sizeL l < k → RCall Try.prog 5 [.sl .no (St.rows l)] (IsB (St.costsL l)) := by
  intro k
  induction k with
  | zero => intro _ l h; omega
  | succ k ih =>
  intro hk l hl
  have hlen := St.len_size l
  refine rcall_fn Code.ok5 (by simp [Code.f5]) fun H => ?_
  simp [Code.f5]
  refine LoopK.told (σ := Nat) (fun s => [(3, .int .i64 s), (0, .sl .no (St.rows l))]) (fun _ => H) (fun s => s ≤ l.length ∧ St.costsL (l.take s)) (fun s => l.length - s) 0 ?_ ?_ ?_ ?_
  · simp [St.costsL]
  · simp
  · simp
  rintro i ⟨hi, hc⟩
  simp [Code.f5l0]
  refine ⟨fun h => ?_, fun h => ?_⟩
  · have hs := St.size_mem h
    have hse := St.size_eq l[i]
    have hct := St.costsL_take h
    have hal := Arm.len_size l[i].arms
    have := l[i].e.size_pos
    simp [List.getElem?_eq_getElem h]
    refine ⟨fun h0 => ⟨fun h1 => ?_, fun _ => end_no'⟩, fun _ => end_no'⟩
    refine CallK.rel (ih (by omega) l[i].body (by omega)) ?_
    rintro _ ⟨b, rfl, hb⟩
    cases b
    · simp; exact end_no'
    simp [List.getElem?_eq_getElem h]
    refine CallK.rel (ih (by omega) l[i].els (by omega)) ?_
    rintro _ ⟨b, rfl, hb'⟩
    cases b
    · simp; exact end_no'
    simp
    refine LoopK.told (σ := Nat) (fun s => [(4, .int .i64 s), (3, .int .i64 i), (0, .sl .no (St.rows l))]) (fun _ => H) (fun s => s ≤ l[i].arms.length ∧ Arm.costsL (l[i].arms.take s)) (fun s => l[i].arms.length - s) 0 ?_ ?_ ?_ ?_
    · simp [Arm.costsL]
    · simp
    · simp
    rintro j ⟨hj, hjc⟩
    simp [Code.f5l1, List.getElem?_eq_getElem h]
    refine ⟨fun hjl => ?_, fun hjl => ?_⟩
    · have h1 := Arm.size_mem hjl
      have h3 := Arm.size_eq l[i].arms[j]
      simp [List.getElem?_eq_getElem hjl]
      refine CallK.rel (ih (by omega) l[i].arms[j].body (by omega)) ?_
      rintro _ ⟨b, rfl, hb2⟩
      cases b
      · simp; exact end_no'
      simp
      refine ⟨j + 1, ⟨by omega, ?_⟩, by omega, wkn_int (wrap_id (by omega) (by omega))⟩
      rw [Arm.costsL_take hjl, Arm.costs_eq]; exact ⟨hjc, hb2 rfl⟩
    rw [List.take_of_length_le hjl] at hjc
    refine ⟨i + 1, ⟨by omega, ?_⟩, by omega, wkn_int (wrap_id (by omega) (by omega))⟩
    rw [hct, St.costs_eq]; exact ⟨hc, by omega, by omega, hb rfl, hb' rfl, hjc⟩
  · rw [List.take_of_length_le h] at hc
    exact end_rel (IsB.mk fun _ => hc) (.refl _)

theorem has_ok (l : List Arg) (field : Int) (hl : l.length ≤ 1000000000) : PCall Try.prog 23 [.sl .no (Arg.rows l), .int .i64 field] (.bool (l.any fun a => a.field == field)) := by
  refine pcall_fn Code.ok23 (by simp [Code.f23]) fun H => ?_
  simp [Code.f23]
  refine LoopK.told (σ := Nat) (fun s => [(9, .int .i64 s), (8, .int .i64 l.length), (7, .sl .no (Arg.rows l)), (1, .int .i64 field)]) (fun _ => H) (fun s => s ≤ l.length ∧ (l.any fun a => a.field == field) = ((l.drop s).any fun a => a.field == field)) (fun s => l.length - s) 0 ?_ ?_ ?_ ?_
  · simp
  · simp
  · simp
  rintro i ⟨hi, hc⟩
  simp [Code.f23l0]
  refine ⟨fun h => ?_, fun h => ?_⟩
  · simp [List.getElem?_eq_getElem h]
    rw [List.drop_eq_getElem_cons h, List.any_cons] at hc
    intro g
    refine ⟨fun hf => ?_, fun hf => ⟨i + 1, ⟨by omega, ?_⟩, by omega, wkn_int (wrap_id (by omega) (by omega))⟩⟩
    · rw [hc, hf]; simp; exact vshift_drop (.refl _) (.front _ _)
    · rw [hc]; simp [hf]
  · rw [hc, List.drop_eq_nil_of_le h]; exact vshift_drop (.refl _) (.refl _)
end Go.Proofs.Ytafhiicjmlkhcaa
