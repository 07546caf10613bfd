/- Statements held against each other: by definition. -/
import Derived.Test.YtjgkfgocgknjjaaDoorE3
set_option linter.unusedVariables false
set_option linter.unusedSimpArgs false
namespace Go.Proofs.YtjgkfgocgknjjaaDoor
open Go Go.RowKit Go.Proofs.YtjgkfgocgknjjaaDoor.Abs

def allB {α : Type} (f : α → α → Bool) : List α → List α → Bool
  | [], [] => true
  | x :: l, y :: m => f x y && allB f l m
  | [], _ :: _ => false
  | _ :: _, [] => false
theorem allB_len {α : Type} (f : α → α → Bool) : ∀ {l m : List α}, l.length ≠ m.length → allB f l m = false
  | [], [], h => absurd rfl h
  | x :: l, y :: m, h => by rw [allB, allB_len f (l := l) (m := m) (by simpa using h)]; simp
  | [], _ :: _, _ => rfl
  | _ :: _, [], _ => rfl
theorem allB_drop {α : Type} (f : α → α → Bool) {l m : List α} {i : Nat} (h : i < l.length) (h' : i < m.length) : allB f (l.drop i) (m.drop i) = (f l[i] m[i] && allB f (l.drop (i + 1)) (m.drop (i + 1))) := by
  rw [List.drop_eq_getElem_cons h, List.drop_eq_getElem_cons h', allB]
theorem allB_iff {α : Type} (f : α → α → Bool) (hf : ∀ x y, f x y = true ↔ x = y) : ∀ l m : List α, allB f l m = true ↔ l = m
  | [], [] => by simp [allB]
  | x :: l, y :: m => by simp [allB, hf x y, allB_iff f hf l m]
  | [], _ :: _ => by simp [allB]
  | _ :: _, [] => by simp [allB]
theorem Ex.beqL_all : ∀ l m : List Ex, allB Ex.beq l m = Ex.beqL l m
  | [], [] => rfl
  | x :: l, y :: m => by rw [allB, Ex.beqL, Ex.beqL_all l m]
  | [], _ :: _ => rfl
  | _ :: _, [] => rfl
def intB (a b : Int) : Bool := decide (a = b)
def Arg.beq (a b : Arg) : Bool := decide (a.field = b.field) && a.e.beq b.e
theorem Arg.beq_iff (a b : Arg) : a.beq b = true ↔ a = b := by
  cases a; cases b; simp [Arg.beq, Ex.beq_iff]
theorem intB_iff (a b : Int) : intB a b = true ↔ a = b := by simp [intB]
mutual
def St.one : St → St → Bool
  | .mk k _ n m e i l args body els arms, .mk k' _ n' m' e' i' l' args' body' els' arms' =>
    decide (k = k') && decide (n = n') && decide (m = m') && e.beq e' && i.beq i' && allB Ex.beq l l' && allB Arg.beq args args' && St.beqL body body' && St.beqL els els' && Arm.beqL arms arms'
def Arm.beq : Arm → Arm → Bool
  | .mk labels body, .mk labels' body' => allB intB labels labels' && St.beqL body body'
def St.beqL : List St → List St → Bool
  | [], [] => true
  | x :: l, y :: m => (decide (x.cost = y.cost) && x.one y) && St.beqL l m
  | [], _ :: _ => false
  | _ :: _, [] => false
def Arm.beqL : List Arm → List Arm → Bool
  | [], [] => true
  | x :: l, y :: m => x.beq y && Arm.beqL l m
  | [], _ :: _ => false
  | _ :: _, [] => false
end
def St.beq (x y : St) : Bool := decide (x.cost = y.cost) && x.one y
theorem St.beqL_all : ∀ l m : List St, St.beqL l m = allB St.beq l m
  | [], [] => by simp [St.beqL, allB]
  | x :: l, y :: m => by simp only [St.beqL, allB, St.beq, St.beqL_all l m]
  | [], _ :: _ => by simp [St.beqL, allB]
  | _ :: _, [] => by simp [St.beqL, allB]
theorem Arm.beqL_all : ∀ l m : List Arm, Arm.beqL l m = allB Arm.beq l m
  | [], [] => by simp [Arm.beqL, allB]
  | x :: l, y :: m => by simp only [Arm.beqL, allB, Arm.beqL_all l m]
  | [], _ :: _ => by simp [Arm.beqL, allB]
  | _ :: _, [] => by simp [Arm.beqL, allB]
theorem St.one_eq (x y : St) : x.one y = (decide (x.kind = y.kind) && decide (x.n = y.n) && decide (x.m = y.m) && x.e.beq y.e && x.i.beq y.i && allB Ex.beq x.l y.l && allB Arg.beq x.args y.args && allB St.beq x.body y.body && allB St.beq x.els y.els && allB Arm.beq x.arms y.arms) := by
  cases x; cases y; simp only [St.one, St.beqL_all, Arm.beqL_all]; rfl
theorem Arm.beq_eq (x y : Arm) : x.beq y = (allB intB x.labels y.labels && allB St.beq x.body y.body) := by
  cases x; cases y; simp only [Arm.beq, St.beqL_all]; rfl
mutual
theorem St.one_iff : ∀ x y : St, (x.cost = y.cost ∧ x.one y = true) ↔ x = y
  | .mk k c n m e i l args body els arms, .mk k' c' n' m' e' i' l' args' body' els' arms' => by
    have h1 := St.beqL_iff body body'
    have h2 := St.beqL_iff els els'
    have h3 := Arm.beqL_iff arms arms'
    have h4 := Ex.beq_iff e e'
    have h5 := Ex.beq_iff i i'
    have h6 := allB_iff Ex.beq Ex.beq_iff l l'
    have h7 := allB_iff Arg.beq Arg.beq_iff args args'
    simp only [St.one, Bool.and_eq_true, decide_eq_true_eq, h1, h2, h3, h4, h5, h6, h7, St.mk_cost, St.mk.injEq]
    constructor
    · rintro ⟨a, ⟨⟨⟨⟨⟨⟨⟨⟨b, c⟩, d⟩, e⟩, f⟩, g⟩, h⟩, i⟩, j⟩, k⟩
      exact ⟨b, a, c, d, e, f, g, h, i, j, k⟩
    · rintro ⟨b, a, c, d, e, f, g, h, i, j, k⟩
      exact ⟨a, ⟨⟨⟨⟨⟨⟨⟨⟨b, c⟩, d⟩, e⟩, f⟩, g⟩, h⟩, i⟩, j⟩, k⟩
theorem Arm.beq_iff : ∀ x y : Arm, x.beq y = true ↔ x = y
  | .mk labels body, .mk labels' body' => by
    have h1 := St.beqL_iff body body'
    have h2 := allB_iff intB intB_iff labels labels'
    simp only [Arm.beq, Bool.and_eq_true, h1, h2, Arm.mk.injEq]
theorem St.beqL_iff : ∀ l m : List St, St.beqL l m = true ↔ l = m
  | [], [] => by simp [St.beqL]
  | x :: l, y :: m => by
    have h1 := St.one_iff x y
    have h2 := St.beqL_iff l m
    simp only [St.beqL, Bool.and_eq_true, decide_eq_true_eq, h2, List.cons.injEq, ← h1]
  | [], _ :: _ => by simp [St.beqL]
  | _ :: _, [] => by simp [St.beqL]
theorem Arm.beqL_iff : ∀ l m : List Arm, Arm.beqL l m = true ↔ l = m
  | [], [] => by simp [Arm.beqL]
  | x :: l, y :: m => by
    have h1 := Arm.beq_iff x y
    have h2 := Arm.beqL_iff l m
    simp only [Arm.beqL, Bool.and_eq_true, h1, h2, List.cons.injEq]
  | [], _ :: _ => by simp [Arm.beqL]
  | _ :: _, [] => by simp [Arm.beqL]
end
theorem St.beq_iff (x y : St) : x.beq y = true ↔ x = y := by
  rw [← St.one_iff x y]; simp [St.beq]
theorem St.allB_iff (l m : List St) : allB St.beq l m = true ↔ l = m := _root_.Go.Proofs.YtjgkfgocgknjjaaDoor.allB_iff St.beq St.beq_iff l m
@[simp] theorem St.allB_self (l : List St) : allB St.beq l l = true := (St.allB_iff l l).2 rfl
theorem St.beq_eq (x y : St) : x.beq y = (decide (x.kind = y.kind) && decide (x.cost = y.cost) && decide (x.n = y.n) && decide (x.m = y.m) && x.e.beq y.e && x.i.beq y.i && (allB Ex.beq x.l y.l && allB Arg.beq x.args y.args && allB St.beq x.body y.body && allB St.beq x.els y.els && allB Arm.beq x.arms y.arms)) := by
  rw [St.beq, St.one_eq]
  generalize decide (x.cost = y.cost) = a; generalize decide (x.kind = y.kind) = b
  cases a <;> cases b <;> simp [Bool.and_assoc]
end Go.Proofs.YtjgkfgocgknjjaaDoor
