/- What merging and splitting come to, in plain Lean; and that the two ways of merging are one. -/
import Derived.Test.YtafhiicjmlkhcaaD1
set_option linter.unusedVariables false
set_option linter.unusedSimpArgs false
namespace Go.Proofs.Ytafhiicjmlkhcaa
open Go Go.RowKit

def Ex.zero : Ex := .mk 0 0 0 0 []
def St.zero : St := .mk 0 0 0 0 .zero .zero [] [] [] [] []
/-! Costs. -/
mutual
def St.costs : St → Prop
  | .mk _ c _ _ _ _ _ _ b e a => 0 ≤ c ∧ c ≤ 1048576 ∧ St.costsL b ∧ St.costsL e ∧ Arm.costsL a
def St.costsL : List St → Prop
  | [] => True
  | x :: r => x.costs ∧ St.costsL r
def Arm.costsL : List Arm → Prop
  | [] => True
  | x :: r => x.costs ∧ Arm.costsL r
def Arm.costs : Arm → Prop
  | .mk _ b => St.costsL b
end
theorem St.costs_eq (x : St) : x.costs = (0 ≤ x.cost ∧ x.cost ≤ 1048576 ∧ St.costsL x.body ∧ St.costsL x.els ∧ Arm.costsL x.arms) := by cases x; rw [St.costs]; rfl
theorem Arm.costs_eq (x : Arm) : x.costs = St.costsL x.body := by cases x; rw [Arm.costs]; rfl
theorem St.costsL_take {l : List St} {i : Nat} (h : i < l.length) : St.costsL (l.take (i + 1)) = (St.costsL (l.take i) ∧ (l[i]).costs) := by
  induction l generalizing i with
  | nil => simp at h
  | cons x r ih =>
    cases i with
    | zero => simp [St.costsL]
    | succ i => simp [St.costsL, ih (by simpa using h), and_assoc]
theorem Arm.costsL_take {l : List Arm} {i : Nat} (h : i < l.length) : Arm.costsL (l.take (i + 1)) = (Arm.costsL (l.take i) ∧ (l[i]).costs) := by
  induction l generalizing i with
  | nil => simp at h
  | cons x r ih =>
    cases i with
    | zero => simp [Arm.costsL]
    | succ i => simp [Arm.costsL, ih (by simpa using h), and_assoc]
theorem St.costsL_get {l : List St} (h : St.costsL l) {i : Nat} (hi : i < l.length) : (l[i]).costs := by
  induction l generalizing i with
  | nil => simp at hi
  | cons x r ih =>
    rw [St.costsL] at h
    cases i with
    | zero => exact h.1
    | succ i => exact ih h.2 (by simpa using hi)
theorem Arm.costsL_get {l : List Arm} (h : Arm.costsL l) {i : Nat} (hi : i < l.length) : (l[i]).costs := by
  induction l generalizing i with
  | nil => simp at hi
  | cons x r ih =>
    rw [Arm.costsL] at h
    cases i with
    | zero => exact h.1
    | succ i => exact ih h.2 (by simpa using hi)

/-! A thing done to all lists within statements. -/
def St.put (x : St) (args : List Arg) (cost : Int) : St := .mk x.kind cost x.n x.m x.e x.i x.l args x.body x.els x.arms
mutual
def St.dp (f : List St → List St) : St → St
  | .mk k c n m e i l a b el ar => .mk k c n m e i l a (f (St.dpL f b)) (f (St.dpL f el)) (Arm.dpL f ar)
def St.dpL (f : List St → List St) : List St → List St
  | [] => []
  | x :: r => x.dp f :: St.dpL f r
def Arm.dpL (f : List St → List St) : List Arm → List Arm
  | [] => []
  | x :: r => x.dp f :: Arm.dpL f r
def Arm.dp (f : List St → List St) : Arm → Arm
  | .mk ls b => .mk ls (f (St.dpL f b))
end
theorem St.dp_eq (f : List St → List St) (x : St) : x.dp f = .mk x.kind x.cost x.n x.m x.e x.i x.l x.args (f (St.dpL f x.body)) (f (St.dpL f x.els)) (Arm.dpL f x.arms) := by cases x; rw [St.dp]; rfl
theorem Arm.dp_eq (f : List St → List St) (x : Arm) : x.dp f = .mk x.labels (f (St.dpL f x.body)) := by cases x; rw [Arm.dp]; rfl
@[simp] theorem St.dpL_map (f : List St → List St) : ∀ l, St.dpL f l = l.map (St.dp f)
  | [] => by simp [St.dpL]
  | x :: r => by simp [St.dpL, St.dpL_map f r]
@[simp] theorem Arm.dpL_map (f : List St → List St) : ∀ l, Arm.dpL f l = l.map (Arm.dp f)
  | [] => by simp [Arm.dpL]
  | x :: r => by simp [Arm.dpL, Arm.dpL_map f r]

/-- Splitting, at one level. -/
def St.field (n : Int) (a : Arg) : St := .mk 4 0 n a.field a.e .zero [] [] [] [] []
def splitOne (x : St) : List St := if x.kind = 5 then x.args.map (St.field x.n) ++ [x.put [] x.cost] else [x]
def splitF (l : List St) : List St := l.flatMap splitOne

/-- Merging, at one level: what is left of statements, and a call with what stood at their end. -/
def St.add (x y : St) (c : Int) : St := x.put (⟨y.m, y.e⟩ :: x.args) (x.cost + c)
def nth (l : List St) (k : Nat) : St := (l[k]?).getD .zero
def takeK (o : List St) : Nat → St → Int → Nat → Nat × St
  | 0, x, _, q => (q, x)
  | k + 1, x, c, q =>
    if (nth o k).kind = 0 then takeK o k x (c + (nth o k).cost) q
    else if (nth o k).kind ≠ 4 ∨ (nth o k).n ≠ x.n ∨ (∃ a ∈ x.args, a.field = (nth o k).m) ∨ c + (nth o k).cost > 1048576 - x.cost then (q, x)
    else takeK o k (x.add (nth o k) (c + (nth o k).cost)) 0 k
def mergeStep (o : List St) (x : St) : List St :=
  if x.kind = 5 then o.take (takeK o o.length x 0 o.length).1 ++ [(takeK o o.length x 0 o.length).2] else o ++ [x]
def mergeF (l : List St) : List St := l.foldl mergeStep []

/-- Merging, the other way. -/
def aheadK (l : List St) (x : St) (i : Nat) : Nat → List Int → Int → Nat → Nat
  | 0, _, _, n => n
  | k + 1, fs, c, n =>
    if (nth l k).kind = 0 then aheadK l x i k fs (c + (nth l k).cost) n
    else if (nth l k).kind ≠ 4 ∨ (nth l k).n ≠ x.n ∨ c + (nth l k).cost > 1048576 then n
    else if (nth l k).m ∈ fs then n
    else aheadK l x i k (fs ++ [(nth l k).m]) (c + (nth l k).cost) (i - k)
def ahead (l : List St) (i : Nat) : Nat := if (nth l i).kind = 5 then aheadK l (nth l i) i i ((nth l i).args.map (·.field)) (nth l i).cost 0 else 0
def argsOf (l : List St) : List Arg := (l.filter (fun y => decide (y.kind = 4))).map fun y => ⟨y.m, y.e⟩
def costOf (l : List St) : Int := (l.map (·.cost)).sum
def refStep (l : List St) (o : List St) (i : Nat) : List St :=
  o.take (o.length - ahead l i) ++ [(nth l i).put (argsOf ((l.drop (i - ahead l i)).take (ahead l i)) ++ (nth l i).args) ((nth l i).cost + costOf ((l.drop (i - ahead l i)).take (ahead l i)))]
end Go.Proofs.Ytafhiicjmlkhcaa
