/- The laws StmtTells, StmtErased, walked. -/
import Derived.Test.YtjgkfgocgknjjaaDoorU14
import Derived.Test.YtjgkfgocgknjjaaDoorS2
import Derived.Test.YtjgkfgocgknjjaaDoorL2
set_option linter.unusedVariables false
set_option linter.unusedSimpArgs false
namespace Go.Proofs.YtjgkfgocgknjjaaDoor
open Go Go.RowKit Go.Proofs.YtjgkfgocgknjjaaDoor.Abs

def stK (k : Int) (body : List St) : St := .mk k 0 0 0 exZ exZ [] [] body [] []
def awkL : List St := [stK 9 [stK 12 []], stK 0 []]
def awkS : Sc := ⟨[], [], [], []⟩
theorem stK_bare {k : Int} {body : List St} (h : body = [] ∨ k = 9) : (stK k body).bare = stK k body := by
  have e : (stK k body).bare = .mk k 0 (if 1 ≤ k ∧ k ≤ 6 then 0 else 0) (if k = 4 ∨ k = 6 then 0 else 0)
    (if k = 1 ∨ k = 2 ∨ k = 3 ∨ k = 4 ∨ k = 7 ∨ k = 8 ∨ k = 10 ∨ k = 11 then exZ else exZ) (if k = 3 then exZ else exZ)
    (if k = 6 then [] else []) (if k = 5 then [] else []) (if 7 ≤ k ∧ k ≤ 10 then body else []) (if k = 7 ∨ k = 11 then [] else []) (if k = 11 then [] else []) := rfl
  rw [e]
  have b : (if 7 ≤ k ∧ k ≤ 10 then body else []) = body := by
    rcases h with h | h
    · rw [h]; split <;> rfl
    · rw [if_pos (by omega)]
  simp only [ite_self]
  rw [b]; rfl
theorem stK_head {k : Int} {body : List St} (h : body = [] ∨ k = 9) : (stK k body).head = true := by
  simp only [St.head, Bool.and_eq_true, decide_eq_true_eq, St.beq_iff, stK_bare h]
  exact ⟨⟨by show (0 : Int) ≤ 0; omega, by show (0 : Int) ≤ 1048576; omega⟩, trivial⟩
theorem awk_right : St.okL awkS awkL 0 = true := by
  have h12 : (stK 12 []).okB awkS 1 = true := by rw [St.okB_eq, stK_head (.inl rfl)]; rfl
  have h0 : (stK 0 []).okB awkS 0 = true := by rw [St.okB_eq, stK_head (.inl rfl)]; rfl
  have hb : St.okL awkS [stK 12 []] 1 = true := by simp [St.okL, h12]
  have h9 : (stK 9 [stK 12 []]).okB awkS 0 = true := by
    rw [St.okB_eq, stK_head (.inr rfl)]
    have : (stK 9 [stK 12 []]).body = [stK 12 []] := rfl
    rw [this, hb]; rfl
  simp [awkL, St.okL, h9, h0]
theorem awk_cnt : St.cntL awkL = 3 := by simp [awkL, stK, St.cntL, St.cnt, Arm.cntL]
theorem awk_dep : St.depL awkL = 2 := by simp [awkL, stK, St.depL, St.dep, Arm.depL]
theorem awk_size : St.sizeL awkL = 9 := by simp [awkL, stK, exZ, St.sizeL, St.size, Ex.size, Ex.sizeL, Arg.sizeL, Arm.sizeL]
theorem exZ_wf : exZ.wf := by simp [exZ, Ex.wf, Ex.wfL, I64]
theorem awk_wf : St.wfL awkL := by simp [awkL, stK, St.wfL, St.wf, Arm.wfL, Arg.wfL, Ex.wfL, exZ_wf]
set_option maxRecDepth 20000 in
set_option maxHeartbeats 8000000 in
theorem awake28_ok : PCall Tryd.prog 6 [] (.bool true) := by
  refine pcall_fn Code.ok6 (by simp [Code.f6]) fun H => ?_
  simp [Code.f6]
  refine CallK.wk (ys := [.agg awkS.cells, .sl .no (St.rows awkL)]) ?_ ?_
  · simp [awkS, awkL, stK, exZ, Sc.cells, St.rows, St.cells, Ex.cells, Ex.rows, intRows, Vr.rows, Bk.rows, Sg.rows, Arg.rows, Arm.rows]
  refine CallK.pure (right_ok awkS awkL (by rw [awk_size]; omega) awk_wf) ?_
  rw [awk_right]
  simp
  refine CallK.wk (ys := [.sl .no (St.rows awkL)]) ?_ ?_
  · simp [awkS, awkL, stK, exZ, Sc.cells, St.rows, St.cells, Ex.cells, Ex.rows, intRows, Vr.rows, Bk.rows, Sg.rows, Arg.rows, Arm.rows]
  refine CallK.pure (count_ok 1000 (by omega) awkL (by rw [awk_size]; omega)) ?_
  rw [awk_cnt]
  simp
  refine CallK.wk (ys := [.sl .no (St.rows awkL)]) ?_ ?_
  · simp [awkS, awkL, stK, exZ, Sc.cells, St.rows, St.cells, Ex.cells, Ex.rows, intRows, Vr.rows, Bk.rows, Sg.rows, Arg.rows, Arm.rows]
  refine CallK.pure (deep_ok 1000 (by omega) awkL (by rw [awk_size]; omega)) ?_
  rw [awk_dep]
  simp
  exact vb rfl

set_option maxRecDepth 20000 in
set_option maxHeartbeats 8000000 in
theorem tells_law (a b : List St) : PCall Tryd.prog 3 [.sl .no (St.rows a), .sl .no (St.rows b)] (.bool true) := by
  refine pcall_fn Code.ok3 (by simp [Code.f3]) fun H => ?_
  simp [Code.f3]
  refine CallK.rel (few28_ok a 200 (by omega)) ?_
  rintro _ ⟨q, rfl, hq⟩
  cases q
  · simp
    refine CallK.pure awake28_ok ?_
    simp
    exact vb rfl
  have ha := hq rfl
  simp
  refine CallK.rel (few28_ok b 200 (by omega)) ?_
  rintro _ ⟨q, rfl, hq⟩
  cases q
  · simp
    refine CallK.pure awake28_ok ?_
    simp
    exact vb rfl
  have hb := hq rfl
  have hea := (St.erL_less a).1
  simp
  refine CallK.pure (erase_ok 500000000 (by omega) a (by omega)) ?_
  simp
  refine CallK.pure (erase28_ok 500000000 (by omega) a (by omega)) ?_
  simp
  refine CallK.pure (same28_ok 500000000 (by omega) _ _ (by omega)) ?_
  rw [St.allB_self]
  simp
  refine CallK.pure (count_ok 500000000 (by omega) a (by omega)) ?_
  simp
  refine CallK.pure (count28_ok 500000000 (by omega) a (by omega)) ?_
  simp
  refine CallK.pure (deep_ok 500000000 (by omega) a (by omega)) ?_
  simp
  refine CallK.pure (deep28_ok 500000000 (by omega) a (by omega)) ?_
  simp
  refine CallK.pure (same_ok 500000000 (by omega) a b (by omega)) ?_
  simp
  refine CallK.pure (same28_ok 500000000 (by omega) a b (by omega)) ?_
  simp
  refine CallK.pure (same_ok 500000000 (by omega) a a (by omega)) ?_
  rw [St.allB_self]
  simp
  refine CallK.pure awake28_ok ?_
  simp
  exact vb rfl

set_option maxRecDepth 20000 in
set_option maxHeartbeats 8000000 in
theorem erased_law (p : Pg) (u : Int) (l : List St) (hw : St.wfL l) : PCall Tryd.prog 4 [.agg p.cells, .int .i64 u, .sl .no (St.rows l)] (.bool true) := by
  refine pcall_fn Code.ok4 (by simp [Code.f4]) fun H => ?_
  simp [Code.f4]
  intro g1
  refine CallK.rel (few16_ok p) ?_
  rintro _ ⟨q, rfl, hq⟩
  cases q
  · simp
    refine CallK.pure awake28_ok ?_
    simp
    exact vbd rfl
  have hp := hq rfl
  simp
  refine CallK.rel (few28_ok l 200 (by omega)) ?_
  rintro _ ⟨q, rfl, hq⟩
  cases q
  · simp
    refine CallK.pure awake28_ok ?_
    simp
    exact vbd rfl
  have hl := hq rfl
  have hel := St.erL_less l
  simp
  refine CallK.rel (scope17_ok _ hp _) ?_
  rintro _ ⟨s, rfl⟩
  simp
  intro g2
  refine CallK.pure (erase_ok 500000000 (by omega) l (by omega)) ?_
  simp
  refine CallK.pure (right_ok s l (by omega) hw) ?_
  have rest : ∀ b, (St.okL s l 0 = true → b = true) → b = true → b = true := fun _ _ h => h
  have hsame : PCall Tryd.prog 14 [.sl .no (St.rows (St.erL (St.erL l))), .sl .no (St.rows (St.erL l))] (.bool true) := by
    rw [St.erL_erL]
    have := same_ok 500000000 (by omega) (St.erL l) (St.erL l) (by omega)
    rwa [St.allB_self] at this
  have hcnt : (St.cntL (St.erL l) : Int) ≤ St.cntL l := by have := hel.2.1; omega
  cases hr : St.okL s l 0
  · simp
    refine CallK.pure (erase_ok 500000000 (by omega) (St.erL l) (by omega)) ?_
    simp
    refine CallK.pure hsame ?_
    simp
    refine CallK.pure (count_ok 500000000 (by omega) (St.erL l) (by omega)) ?_
    simp
    refine CallK.pure (count_ok 500000000 (by omega) l (by omega)) ?_
    simp [hel.2.1]
    refine CallK.pure awake28_ok ?_
    simp
    exact vbd rfl
  · simp
    refine CallK.pure (right_ok s (St.erL l) (by omega) (hel.2.2 hw)) ?_
    rw [St.erL_ok s l 0 hr]
    simp
    refine CallK.pure (erase_ok 500000000 (by omega) (St.erL l) (by omega)) ?_
    simp
    refine CallK.pure hsame ?_
    simp
    refine CallK.pure (count_ok 500000000 (by omega) (St.erL l) (by omega)) ?_
    simp
    refine CallK.pure (count_ok 500000000 (by omega) l (by omega)) ?_
    simp [hel.2.1]
    refine CallK.pure awake28_ok ?_
    simp
    exact vbd rfl
end Go.Proofs.YtjgkfgocgknjjaaDoor
