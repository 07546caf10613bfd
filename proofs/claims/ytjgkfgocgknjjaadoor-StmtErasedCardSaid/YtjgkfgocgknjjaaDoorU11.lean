/- Right: calls of blocks and of units. -/
import Derived.Test.YtjgkfgocgknjjaaDoorU10
set_option linter.unusedVariables false
set_option linter.unusedSimpArgs false
namespace Go.Proofs.YtjgkfgocgknjjaaDoor
open Go Go.RowKit Go.Proofs.YtjgkfgocgknjjaaDoor.Abs

/-- What was met, as cells. -/
def metC (n : Nat) (met : List Int) : List AV := (List.range n).map fun (i : Nat) => .bool (decide (Int.ofNat i ∈ met))
@[simp] theorem metC_length (n : Nat) (met : List Int) : (metC n met).length = n := by simp [metC]
theorem metC_get {n : Nat} {met : List Int} {i : Int} (h0 : 0 ≤ i) (h1 : i < n) : (metC n met)[i.toNat]? = some (.bool (decide (i ∈ met))) := by
  have : i.toNat < n := by omega
  have e : ((i.toNat : Nat) : Int) = i := by omega
  simp [metC, this, e]
theorem metC_put {n : Nat} {met : List Int} {i : Int} (h0 : 0 ≤ i) (h1 : i < n) : List.take i.toNat (metC n met) ++ .bool true :: List.drop (i.toNat + 1) (metC n met) = metC n (i :: met) := by
  apply List.ext_getElem?
  intro j
  have hi : i.toNat < n := by omega
  rcases Nat.lt_trichotomy j i.toNat with h | h | h
  · have hne : (j : Int) ≠ i := by omega
    have hj : j < n := by omega
    rw [List.getElem?_append_left (by simp; omega), List.getElem?_take_of_lt h]
    simp [metC, hj, hne]
  · subst h
    have e : ((i.toNat : Nat) : Int) = i := by omega
    rw [List.getElem?_append_right (by simp; omega)]
    have : i.toNat - min i.toNat n = 0 := by omega
    simp [metC, hi, e, this]
  · have hne : (j : Int) ≠ i := by omega
    obtain ⟨d, rfl⟩ : ∃ d, j = i.toNat + 1 + d := ⟨j - i.toNat - 1, by omega⟩
    rw [List.getElem?_append_right (by simp; omega)]
    have : i.toNat + 1 + d - (List.take i.toNat (metC n met)).length = d + 1 := by simp; omega
    rw [this, List.getElem?_cons_succ, List.getElem?_drop]
    by_cases hj : i.toNat + 1 + d < n
    · simp [metC, hj]
      have : ¬ ((i.toNat + 1 + d : Nat) : Int) = i := hne
      simp at this
      simp [this]
    · simp [metC, hj]

def blockB (s : Sc) (n : Int) : List Int → List Arg → Bool
  | _, [] => decide (0 ≤ n ∧ n < s.blocks.length)
  | met, a :: r => inputB s n a.field a.e && !decide (a.field ∈ met) && blockB s n (a.field :: met) r

def Arg.wfL : List Arg → Prop
  | [] => True
  | a :: r => a.e.wf ∧ Arg.wfL r
theorem Arg.wf_mem : ∀ {l : List Arg} {i : Nat} (h : i < l.length), Arg.wfL l → (l[i]).e.wf
  | [], i, h, _ => by simp at h
  | x :: r, 0, h, w => w.1
  | x :: r, i + 1, h, w => Arg.wf_mem (l := r) (by simpa using h) w.2

set_option maxRecDepth 20000 in
set_option maxHeartbeats 4000000 in
theorem block_ok (s : Sc) (loop : Int) (x : St) (hx : x.size < 900000000) (hw : Arg.wfL x.args) : PCall Tryd.prog 51 [.agg (s.pl loop), .agg x.cells] (.bool (blockB s x.n [] x.args)) := by
  have hsz := St.size_eq x
  have hl2 := Arg.len_size x.args
  refine pcall_fn Code.ok51 (by simp [Code.f51]) fun H => ?_
  simp [Code.f51]
  intro g1 g2 g3
  refine LoopK.told (σ := Nat × List Int) (fun z => [(11, .int .i64 z.1), (10, .int .i64 x.args.length), (9, .sl .no (Arg.rows x.args)), (2, .ptr H.length g1 0 0), (3, .ptr (H.length + 1) g2 0 0), (5, .ptr (H.length + 2) g3 0 0)])
    (fun z => H ++ [some (.rows g1 [s.pl loop]), some (.rows g2 [x.cells]), some (.rows g3 [metC 10 z.2])])
    (fun z => z.1 ≤ x.args.length ∧ blockB s x.n [] x.args = blockB s x.n z.2 (x.args.drop z.1)) (fun z => x.args.length - z.1) (0, []) ?_ ?_ ?_ ?_
  · simp
  · simp
  · exact .refl _
  rintro ⟨i, met⟩ ⟨hi, hb⟩
  simp only at hi hb
  simp [Code.f51l0]
  refine ⟨fun h => ?_, fun h => ?_⟩
  · have hs := Arg.size_mem h
    have hjz : x.args[i].size = 1 + x.args[i].e.size := rfl
    have hwe := Arg.wf_mem h hw
    have hg := List.getElem?_eq_getElem h
    rw [List.drop_eq_getElem_cons h, blockB] at hb
    generalize x.args[i] = a at hs hjz hwe hg hb
    simp [hg]
    intro g4
    refine CallK.pure (input_ok s loop _ _ _ (by omega) hwe) ?_
    cases h1 : inputB s x.n a.field a.e
    · simp; rw [hb, h1]; exact vbd rfl
    obtain ⟨h2, h3⟩ := inputB_le h1
    have h4 : a.field < 10 := by omega
    have hm := metC_get (n := 10) (met := met) h2 (by omega)
    have hp := metC_put (n := 10) (met := met) h2 (by omega)
    have hl : a.field.toNat < 10 := by omega
    have hm' : (metC 10 met)[a.field.toNat]'(by simpa using hl) = .bool (decide (a.field ∈ met)) := by
      rw [List.getElem?_eq_getElem (by simpa using hl)] at hm; exact Option.some.inj hm
    simp [h2, h4, hl, hm']
    refine ⟨fun h5 => by rw [hb, h1]; simp [h5]; exact vbd rfl, fun h5 => ?_⟩
    have h9 : a.field ≤ 9 := by omega
    simp [h2, h4, h9, hl, hp]
    refine ⟨i + 1, a.field :: met, ⟨by omega, ?_⟩, by omega, wkn_int (wrap_id (by omega) (by omega)), ?_⟩
    · rw [hb, h1]; simp [h5]
    · exact hwk_app (by simp)
  · rw [hb, List.drop_eq_nil_of_le h, blockB]
    by_cases h1 : 0 ≤ x.n
    · have h2 : ¬ x.n < 0 := by omega
      simp [h1]; repeat' (first | exact vbd rfl | (exfalso; omega) | apply And.intro | intro _)
    · have h2 : x.n < 0 := by omega
      simp [h1]; repeat' (first | exact vbd rfl | (exfalso; omega) | apply And.intro | intro _)
end Go.Proofs.YtjgkfgocgknjjaaDoor
