/- The law, walked. -/
import Derived.Test.YtafhiicjmlkhcaaS13
set_option linter.unusedVariables false
set_option linter.unusedSimpArgs false
namespace Go.Proofs.Ytafhiicjmlkhcaa
open Go Go.RowKit Go.Proofs.Ytafhiicjmlkhcaa.Abs

def awk : List St := [.mk 4 2 0 0 .zero .zero [] [] [] [] [], .mk 4 2 0 1 .zero .zero [] [] [] [] [], .mk 5 1 0 0 .zero .zero [] [] [] [] []]
theorem awk_merge : mergeF (awk.map (St.dp mergeF)) = [.mk 5 5 0 0 .zero .zero [] [⟨0, .zero⟩, ⟨1, .zero⟩] [] [] []] := by rfl
set_option maxRecDepth 20000 in
set_option maxHeartbeats 8000000 in
theorem awake_ok : PCall Try.prog 6 [] (.bool true) := by
  refine pcall_fn Code.ok6 (by simp [Code.f6]) fun H => ?_
  simp [Code.f6]
  refine CallK.wk (ys := [.sl .no (St.rows awk)]) ?_ ?_
  · simp [awk, St.rows, St.cells, Ex.zero]
    exact wkn_rows_no (by simp)
  refine CallK.pure (merge_ok awk (by decide) (by simp [awk, St.costsL, St.costs, Arm.costsL])) ?_
  rw [awk_merge]
  simp [St.rows, Arg.rows_cons]
  exact vshift_drop (.refl _) (.refl _)

set_option maxRecDepth 20000 in
set_option maxHeartbeats 8000000 in
theorem law_ok (l : List St) : PCall Try.prog 3 [.sl .no (St.rows l)] (.bool true) := by
  refine pcall_fn Code.ok3 (by simp [Code.f3]) fun H => ?_
  simp [Code.f3]
  refine CallK.rel (few28_ok l 200 (by omega)) ?_
  rintro _ ⟨b, rfl, hb⟩
  cases b
  · simp
    refine CallK.pure awake_ok ?_
    simp
    exact vshift_drop (.refl _) (.refl _)
  have hsz := hb rfl
  simp
  refine CallK.rel (costs_ok _ (by omega) l (Nat.lt_succ_self _)) ?_
  rintro _ ⟨b, rfl, hb2⟩
  cases b
  · simp
    refine CallK.pure awake_ok ?_
    simp
    exact vshift_drop (.refl _) (.refl _)
  have hco := hb2 rfl
  simp
  have h1 := St.merge_sizeL l
  have h2 := mergeF_size (St.dpL mergeF l)
  have h3 := St.split_sizeL l
  have h4 := splitF_size (St.dpL splitF l)
  rw [St.dpL_map] at h1 h2 h3 h4
  rw [asum_dp] at h4
  refine CallK.pure (merge_ok l (by omega) hco) ?_
  simp
  refine CallK.pure (merge36_ok _ l (Nat.lt_succ_self _) (by omega) hco) ?_
  simp
  refine CallK.pure (same_call rfl (by omega)) ?_
  simp
  refine CallK.pure (split_ok l (by omega)) ?_
  simp
  refine CallK.pure (split36_ok _ l (Nat.lt_succ_self _) (by omega)) ?_
  simp
  refine CallK.pure (same_call rfl (by omega)) ?_
  simp
  refine CallK.pure awake_ok ?_
  simp
  exact vshift_drop (.refl _) (.refl _)
end Go.Proofs.Ytafhiicjmlkhcaa
