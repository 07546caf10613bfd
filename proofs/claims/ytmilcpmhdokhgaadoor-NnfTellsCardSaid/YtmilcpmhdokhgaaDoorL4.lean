/- The law NnfTells, walked. -/
import Derived.Test.YtmilcpmhdokhgaaDoorL3
import Derived.Test.YtmilcpmhdokhgaaDoorN5
set_option linter.unusedVariables false
set_option linter.unusedSimpArgs false
namespace Go.Proofs.YtmilcpmhdokhgaaDoor
open Go Go.RowKit Go.Proofs.YtmilcpmhdokhgaaDoor.Abs

def awkE : Ex := .mk 6 0 0 17 [.mk 7 0 0 14 [.mk 3 0 0 0 [], .mk 3 0 1 0 []]]
def awkS : Sc := ⟨[], [], [], [1, 1]⟩
theorem nil_vr : Vr.rows [] = [] := rfl
theorem nil_bk : Bk.rows [] = [] := rfl
theorem awk_ty0 : (Ex.mk 3 0 0 0 []).ty awkS = 1 := by rw [Ex.ty_eq]; rfl
theorem awk_ty1 : (Ex.mk 3 0 1 0 []).ty awkS = 1 := by rw [Ex.ty_eq]; rfl
theorem awk_cnt : awkE.cnt awkS = 2 := by
  rw [awkE, Ex.cnt_eq]
  simp [Ex.isOne]
  rw [Ex.cnt_eq]
  simp [Ex.isOne, Ex.isTwo]
  rw [Ex.cnt_eq, Ex.cnt_eq]
  simp [Ex.isOne, Ex.isTwo, Ex.leaf, Ex.lop, awk_ty0, awk_ty1, m25]
theorem awk_norm : awkE.norm false = .bin 15 (.neg (.mk 3 0 0 0 [])) (.neg (.mk 3 0 1 0 [])) := by
  rw [awkE, Ex.norm_eq]
  simp [normN, Ex.isOne]
  rw [Ex.norm_eq]
  simp [normN, Ex.isOne, Ex.isTwo]
  rw [Ex.norm_eq, Ex.norm_eq]
  simp [normN, Ex.isOne, Ex.isTwo, Ex.bin]
  rfl
set_option maxRecDepth 20000 in
set_option maxHeartbeats 8000000 in
theorem awake43_ok : PCall Tryd.prog 8 [] (.bool true) := by
  refine pcall_fn Code.ok8 (by simp [Code.f8]) fun H => ?_
  simp [Code.f8]
  intro g1 g2 g3
  refine CallK.wk (ys := [.agg awkS.cells, .agg awkE.cells]) ?_ ?_
  · simp [awkS, awkE, Sc.cells, Ex.cells, Ex.rows, intRows, nil_vr, nil_bk]
  have hc := awk_cnt
  refine CallK.pure (nnf_Norm awkS awkE (by decide) (by simp [awkE, Ex.wf, Ex.wfL, I64])) ?_
  rw [hc, awk_norm]
  simp [Ex.bin, Ex.neg, Ex.cells, Ex.rows]
  intro g4
  exact vbd rfl
set_option maxRecDepth 20000 in
set_option maxHeartbeats 8000000 in
theorem nnf_law (c : Cs) (e : Ex) (hw : e.wf) : PCall Tryd.prog 3 [.agg c.cells, .agg e.cells] (.bool true) := by
  refine pcall_fn Code.ok3 (by simp [Code.f3]) fun H => ?_
  simp [Code.f3]
  intro g1 g2
  refine CallK.rel (fits27_ok c) ?_
  rintro _ ⟨b, rfl, hb⟩
  cases b
  · simp
    refine CallK.pure awake43_ok ?_
    simp
    exact vbd rfl
  have hp := hb rfl
  simp
  refine CallK.rel (few26' e 100 (by omega)) ?_
  rintro _ ⟨b, rfl, hb⟩
  cases b
  · simp
    refine CallK.pure awake43_ok ?_
    simp
    exact vbd rfl
  have hs := hb rfl
  simp
  refine CallK.rel (scope17_ok _ hp _) ?_
  rintro _ ⟨s, rfl⟩
  simp
  intro g3
  refine PCallK.pure (nnf_leaf s e (by omega) hw) ?_
  simp
  refine PCallK.pure (r43_leaf s e (by omega)) ?_
  simp
  refine PCallK.pure (nnf_is s _ (Nat.le_refl _) e (by omega) hw) ?_
  simp
  refine PCallK.pure (r43_is s _ (Nat.le_refl _) e (by omega)) ?_
  simp
  refine PCallK.pure (nnf_count s _ (Nat.le_refl _) e (by omega) hw) ?_
  simp
  refine PCallK.pure (r43_count s e (by omega)) ?_
  simp
  refine CallK.pure (nnf_Norm s e (by omega) hw) ?_
  simp
  intro g4
  refine CallK.pure (r43_count s e (by omega)) ?_
  simp
  refine ⟨fun h => ?_, fun h => ?_⟩
  · have h' : ¬ e.cnt s ≤ 24 := by omega
    simp [h']
    intro _
    refine CallK.wk (ys := [.agg Ex.zero.cells, .agg Ex.zero.cells]) ?_ ?_
    · simp [Ex.zero, Ex.cells, Ex.rows]
    refine CallK.pure (same26_ok _ (Nat.le_refl _) Ex.zero Ex.zero (by decide)) ?_
    simp
    refine CallK.pure awake43_ok ?_
    simp
    exact vbd rfl
  · have ht := Ex.cnt_truth h
    have hn := (Ex.norm_at s e ht).1
    simp [h, hn]
    have hmany : e.many ≤ 24 := by
      rw [Ex.cnt_many] at h
      split at h
      · rename_i hh; exact hh.2
      · omega
    have hsz := (Ex.at_size s e ht hmany).1
    refine ⟨?_, fun h2 => absurd h (by omega)⟩
    refine PCallK.pure (r43_at s _ (Nat.le_refl _) e (by omega) ht).1 ?_
    simp [h, hn]
    refine PCallK.pure (same26_ok _ (Nat.le_refl _) e.at.1 e.at.1 (by omega)) ?_
    simp
    refine PCallK.pure awake43_ok ?_
    simp
    exact vbd rfl
end Go.Proofs.YtmilcpmhdokhgaaDoor
