/- Kinds of values: the scalar functions. -/
import Derived.Test.YtjgkfgocgknjjaaDoorCode
import Derived.Test.YtjgkfgocgknjjaaDoorD1
set_option linter.unusedVariables false
set_option linter.unusedSimpArgs false
namespace Go.Proofs.YtjgkfgocgknjjaaDoor
open Go Go.RowKit Go.Proofs.YtjgkfgocgknjjaaDoor.Abs

theorem vb {a b : Bool} {H : AHeap} (h : a = b) : VShift (.bool a) H (.bool b) H := h ▸ .refl _ _
theorem vi {k : IntKind} {a b : Int} {H : AHeap} (h : a = b) : VShift (.int k a) H (.int k b) H := h ▸ .refl _ _
theorem vbd {a b : Bool} {H J : AHeap} (h : a = b) : VShift (.bool a) (H ++ J) (.bool b) H := h ▸ vshift_drop (.refl _) (.front _ _)
theorem vid {k : IntKind} {a b : Int} {H J : AHeap} (h : a = b) : VShift (.int k a) (H ++ J) (.int k b) H := h ▸ vshift_drop (.refl _) (.front _ _)

/-- Is there such a kind? -/
def kR (t : Int) : Bool := decide (1 ≤ t ∧ t ≤ 6)
theorem kR_iff {t : Int} : kR t = true ↔ 1 ≤ t ∧ t ≤ 6 := by simp [kR]
theorem kind_right (t : Int) : PCall Tryd.prog 49 [.int .i64 t] (.bool (kR t)) := by
  refine pcall_fn Code.ok49 (by simp [Code.f49]) fun H => ?_
  simp [Code.f49]
  exact ⟨fun _ => vb (Bool.eq_iff_iff.2 (by simp [kR]; omega)), fun _ => vb (Bool.eq_iff_iff.2 (by simp [kR]; omega))⟩
/-- Is a number one of a kind? -/
def kIn (t v : Int) : Bool := decide (t = 6 ∨ (t = 1 ∧ 0 ≤ v ∧ v ≤ 1) ∨ (t = 2 ∧ -32768 ≤ v ∧ v ≤ 32767) ∨ (t = 3 ∧ -2147483648 ≤ v ∧ v ≤ 2147483647) ∨ (t = 4 ∧ 0 ≤ v ∧ v ≤ 65535) ∨ (t = 5 ∧ 0 ≤ v ∧ v ≤ 4294967295))
def kWrap (t v : Int) : Int := if t = 1 then (if v = 0 then 0 else 1) else if t = 2 then IntKind.i64.wrap (IntKind.i16.wrap v) else if t = 3 then IntKind.i64.wrap (IntKind.i32.wrap v) else if t = 4 then IntKind.i64.wrap (IntKind.u16.wrap v) else if t = 5 then IntKind.i64.wrap (IntKind.u32.wrap v) else if t = 6 then v else 0
set_option maxRecDepth 20000 in
theorem kind_wrap (t v : Int) : PCall Tryd.prog 59 [.int .i64 t, .int .i64 v] (.int .i64 (kWrap t v)) := by
  refine pcall_fn Code.ok59 (by simp [Code.f59]) fun H => ?_
  simp [Code.f59]
  repeat' (first | refine vi ?_ | apply And.intro | intro _)
  all_goals simp_all [kWrap]
theorem kWrap_in {t v : Int} (h : kR t = true) : (kWrap t v = v) = (kIn t v = true) := by
  have h := kR_iff.1 h
  have : t = 1 ∨ t = 2 ∨ t = 3 ∨ t = 4 ∨ t = 5 ∨ t = 6 := by omega
  refine propext ?_
  rcases this with rfl | rfl | rfl | rfl | rfl | rfl <;> simp [kWrap, kIn, IntKind.wrap, IntKind.signed, IntKind.bits]
  all_goals (repeat' split) <;> omega
theorem kIn_kR {t v : Int} (h : kIn t v = true) : kR t = true := by simp [kIn] at h; simp [kR]; omega
theorem kind_in (t v : Int) : PCall Tryd.prog 53 [.int .i64 t, .int .i64 v] (.bool (kIn t v)) := by
  refine pcall_fn Code.ok53 (by simp [Code.f53]) fun H => ?_
  simp [Code.f53]
  refine CallK.pure (kind_right t) ?_
  simp
  refine ⟨fun hr => ?_, fun hr => vb (by cases h : kIn t v with | false => rfl | true => rw [kIn_kR h] at hr; cases hr)⟩
  refine CallK.pure (kind_wrap t v) ?_
  simp
  exact vb (by simp [kWrap_in hr])

/-- Binary operations; comparisons; what operations go with. -/
def opBin (op : Int) : Bool := decide (8 ≤ op ∧ op ≤ 25 ∧ op ≠ 13 ∧ op ≠ 17)
def opGoes (op t : Int) : Bool := decide (1 ≤ t ∧ t ≤ 6 ∧ (((op = 8 ∨ op = 9 ∨ op = 13) ∧ (t = 2 ∨ t = 3 ∨ t = 6)) ∨ ((op = 10 ∨ op = 11 ∨ op = 12) ∧ (t = 2 ∨ t = 3)) ∨ ((op = 14 ∨ op = 15 ∨ op = 16 ∨ op = 17) ∧ (t = 1 ∨ t = 4 ∨ t = 5)) ∨
  ((op = 18 ∨ op = 19) ∧ (t = 4 ∨ t = 5)) ∨ op = 20 ∨ op = 21 ∨ ((op = 22 ∨ op = 23 ∨ op = 24 ∨ op = 25) ∧ t ≠ 1)))
def opRes (op t : Int) : Int := if opGoes op t then (if 20 ≤ op then 1 else t) else 0
theorem alu_binary {op : Int} (hop : I64 op) : PCall Tryd.prog 56 [.int .i64 op] (.bool (opBin op)) := by
  refine pcall_fn Code.ok56 (by simp [Code.f56]) fun H => ?_
  simp [Code.f56]
  refine ⟨fun h => ?_, fun h => vb (Bool.eq_iff_iff.2 (by simp [opBin]; omega))⟩
  rw [wrap_id (by omega) (by have := hop.2; omega)]
  repeat' (first | refine vb (Bool.eq_iff_iff.2 ?_) | apply And.intro | intro _)
  all_goals (simp [opBin]; omega)
theorem op_cases (op : Int) : (op = 8 ∨ op = 9 ∨ op = 10 ∨ op = 11 ∨ op = 12 ∨ op = 13 ∨ op = 14 ∨ op = 15 ∨ op = 16 ∨ op = 17 ∨ op = 18 ∨ op = 19 ∨ op = 20 ∨ op = 21 ∨ op = 22 ∨ op = 23 ∨ op = 24 ∨ op = 25) ∨
    (op ≠ 8 ∧ op ≠ 9 ∧ op ≠ 10 ∧ op ≠ 11 ∧ op ≠ 12 ∧ op ≠ 13 ∧ op ≠ 14 ∧ op ≠ 15 ∧ op ≠ 16 ∧ op ≠ 17 ∧ op ≠ 18 ∧ op ≠ 19 ∧ op ≠ 20 ∧ op ≠ 21 ∧ op ≠ 22 ∧ op ≠ 23 ∧ op ≠ 24 ∧ op ≠ 25) := by omega
theorem alu_compares (op : Int) : PCall Tryd.prog 63 [.int .i64 op] (.bool (decide (20 ≤ op ∧ op ≤ 25))) := by
  refine pcall_fn Code.ok63 (by simp [Code.f63]) fun H => ?_
  simp [Code.f63]
  repeat' (first | refine vb (Bool.eq_iff_iff.2 ?_) | apply And.intro | intro _)
  all_goals (simp; omega)
@[simp ↓] theorem gtab_goes : gtab 1 = some gcells1 := rfl
@[simp ↓] theorem gtab_rows : gtab 0 = some gcells0 := rfl
def goesL : List Int := [76, 76, 12, 12, 12, 76, 50, 50, 50, 50, 48, 48, 126, 126, 124, 124, 124, 124]
theorem gcells1_get : ∀ i : Fin 18, gcells1[i.val]? = some (.int .i64 (goesL.getD i.val 0)) := fun i => by
  have := i.isLt
  have : i = 0 ∨ i = 1 ∨ i = 2 ∨ i = 3 ∨ i = 4 ∨ i = 5 ∨ i = 6 ∨ i = 7 ∨ i = 8 ∨ i = 9 ∨ i = 10 ∨ i = 11 ∨ i = 12 ∨ i = 13 ∨ i = 14 ∨ i = 15 ∨ i = 16 ∨ i = 17 := by omega
  rcases this with rfl | rfl | rfl | rfl | rfl | rfl | rfl | rfl | rfl | rfl | rfl | rfl | rfl | rfl | rfl | rfl | rfl | rfl <;> rfl
set_option maxRecDepth 20000 in
set_option maxHeartbeats 8000000 in
theorem alu_goes {op : Int} (hop : I64 op) (t : Int) : PCall Tryd.prog 62 [.int .i64 op, .int .i64 t] (.bool (opGoes op t)) := by
  refine pcall_fn Code.ok62 (by simp [Code.f62]) fun H => ?_
  simp [Code.f62]
  refine ⟨fun h => ?_, fun h => vb (Bool.eq_iff_iff.2 (by simp [opGoes]; omega))⟩
  rw [wrap_id (by omega) (by have := hop.2; omega)]
  refine ⟨fun h2 => ?_, fun h2 => vb (Bool.eq_iff_iff.2 (by simp [opGoes]; omega))⟩
  refine CallK.pure (kind_right t) ?_
  simp
  refine ⟨fun hr => vb (Bool.eq_iff_iff.2 (by simp [opGoes]; simp [kR] at hr; omega)), fun hr => ?_⟩
  have hr := kR_iff.1 hr
  rw [wrap_id (by omega) (by omega)]
  have h3 : ∃ i : Fin 18, op - 8 = i.val := ⟨⟨(op - 8).toNat, by omega⟩, by simp; omega⟩
  have h4 : ∃ j : Fin 7, t = j.val := ⟨⟨t.toNat, by omega⟩, by simp; omega⟩
  obtain ⟨i, hi⟩ := h3
  obtain ⟨j, rfl⟩ := h4
  have e : op = 8 + i.val := by omega
  have hg := gcells1_get i
  have hi2 : (i.val : Int) < 18 := by omega
  simp [hi, hg, hi2]
  refine vb ?_
  rw [e]
  clear hi hg hi2 e hop h h2 hr
  revert i j
  decide +kernel
end Go.Proofs.YtjgkfgocgknjjaaDoor
