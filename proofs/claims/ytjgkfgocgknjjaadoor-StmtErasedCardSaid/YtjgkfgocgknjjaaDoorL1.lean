/- What the laws ask ahead of all: short programs, fitting cases; scopes. -/
import Derived.Test.YtjgkfgocgknjjaaDoorK1
import Derived.Test.YtjgkfgocgknjjaaDoorD3
import Derived.Test.YtjgkfgocgknjjaaDoorA17
set_option linter.unusedVariables false
set_option linter.unusedSimpArgs false
namespace Go.Proofs.YtjgkfgocgknjjaaDoor
open Go Go.RowKit Go.Proofs.YtjgkfgocgknjjaaDoor.Abs

theorem end_b {H : AHeap} {b : Bool} {c : Prop} (h : b = true → c) : ∃ r, VShift (.bool b) H r H ∧ IsB c r := end_rel (IsB.mk h) (.refl _)
theorem end_bd {H J : AHeap} {b : Bool} {c : Prop} (h : b = true → c) : ∃ r, VShift (.bool b) (H ++ J) r H ∧ IsB c r := end_rel (IsB.mk h) (.front _ _)
theorem end_f {H J : AHeap} {c : Prop} : ∃ r, VShift (.bool false) (H ++ J) r H ∧ IsB c r := end_bd (by simp)

/-- Is a unit short? -/
def Un.few (u : Un) : Prop := u.params.length ≤ 20 ∧ u.locals.length ≤ 1100 ∧ u.code.length ≤ 300
theorem few15_ok (u : Un) : RCall Tryd.prog 24 [.agg u.cells] (IsB u.few) := by
  refine rcall_fn Code.ok24 (by simp [Code.f24]) fun H => ?_
  simp [Code.f24]
  intro g
  repeat' (first | refine end_bd ?_ | apply And.intro | intro _)
  all_goals (simp_all; try omega)
def Pg.few (p : Pg) : Prop := p.vars.length ≤ 70 ∧ p.blocks.length ≤ 40 ∧ p.units.length ≤ 10 ∧ ∀ u ∈ p.units, u.few
set_option maxRecDepth 20000 in
set_option maxHeartbeats 4000000 in
theorem few16_ok (p : Pg) : RCall Tryd.prog 15 [.agg p.cells] (IsB p.few) := by
  refine rcall_fn Code.ok15 (by simp [Code.f15]) fun H => ?_
  by_cases hg : p.consts.length ≤ 60 ∧ p.vars.length ≤ 70 ∧ p.blocks.length ≤ 40 ∧ p.units.length ≤ 10
  rotate_left
  · simp [Code.f15]
    intro g
    repeat' (first | exact end_f | (exfalso; omega) | apply And.intro | intro _)
  obtain ⟨h1, h2, h3, h4⟩ := hg
  have h1' : ¬ (60 : Int) < p.consts.length := by omega
  have h2' : ¬ (70 : Int) < p.vars.length := by omega
  have h3' : ¬ (40 : Int) < p.blocks.length := by omega
  have h4' : ¬ (10 : Int) < p.units.length := by omega
  simp [Code.f15, h1', h2', h3', h4']
  intro g
  refine LoopK.told (σ := Nat) (fun s => [(3, .int .i64 s), (1, .ptr H.length g 0 0)]) (fun _ => H ++ [some (.rows g [p.cells])]) (fun i => i ≤ p.vars.length) (fun s => p.vars.length - s) 0 ?_ ?_ ?_ ?_
  · simp
  · simp
  · simp
  intro i hi
  simp [Code.f15l0]
  refine ⟨fun h => ?_, fun h => ?_⟩
  · simp [List.getElem?_eq_getElem h]
    exact ⟨fun _ => end_f, fun _ => ⟨i + 1, by omega, by omega, wkn_int (wrap_id (by omega) (by omega))⟩⟩
  refine LoopK.told (σ := Nat) (fun s => [(4, .int .i64 s), (1, .ptr H.length g 0 0)]) (fun _ => H ++ [some (.rows g [p.cells])]) (fun i => i ≤ p.blocks.length) (fun s => p.blocks.length - s) 0 ?_ ?_ ?_ ?_
  · simp
  · simp
  · simp
  intro j hj
  simp [Code.f15l1]
  refine ⟨fun h => ?_, fun h => ?_⟩
  · simp [List.getElem?_eq_getElem h]
    exact ⟨fun _ => end_f, fun _ => ⟨j + 1, by omega, by omega, wkn_int (wrap_id (by omega) (by omega))⟩⟩
  refine LoopK.told (σ := Nat) (fun s => [(5, .int .i64 s), (1, .ptr H.length g 0 0)]) (fun _ => H ++ [some (.rows g [p.cells])]) (fun i => i ≤ p.units.length ∧ ∀ u ∈ p.units.take i, u.few) (fun s => p.units.length - s) 0 ?_ ?_ ?_ ?_
  · simp
  · simp
  · simp
  rintro k ⟨hk, hu⟩
  simp [Code.f15l2]
  refine ⟨fun h => ?_, fun h => ?_⟩
  · simp [List.getElem?_eq_getElem h]
    refine CallK.rel (few15_ok _) ?_
    rintro _ ⟨b, rfl, hb⟩
    cases b
    · simp; exact end_f
    simp
    refine ⟨k + 1, ⟨by omega, ?_⟩, by omega, wkn_int (wrap_id (by omega) (by omega))⟩
    rw [List.take_succ_eq_append_getElem h]
    intro u hu2
    rw [List.mem_append] at hu2
    rcases hu2 with hu2 | hu2
    · exact hu u hu2
    · simp at hu2; subst hu2; exact hb rfl
  · rw [List.take_of_length_le h] at hu
    exact end_bd fun _ => ⟨h2, h3, h4, hu⟩
def Sta.short (s : Sta) : Prop := s.vars.length ≤ 100 ∧ ∀ l ∈ s.vars, l.length ≤ 100
end Go.Proofs.YtjgkfgocgknjjaaDoor
