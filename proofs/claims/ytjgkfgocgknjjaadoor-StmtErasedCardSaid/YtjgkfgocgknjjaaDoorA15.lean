/- The abstract machine, part 15: the lemmas by which simp tells code. -/
import Derived.Test.YtjgkfgocgknjjaaDoorA14
set_option linter.unusedVariables false
set_option linter.unusedSimpArgs false
namespace Go.Proofs.YtjgkfgocgknjjaaDoor.Abs
open Go Go.RowKit

def dumA : Nat := 0
def dumB : Nat := 0
/-- So that simp takes its own way at what stands ahead of it, each time. -/
@[simp] theorem dum_eq : dumA = dumB := (rfl : (0 : Nat) = 0) |> fun h => by unfold dumA dumB; exact h
theorem eqv {α : Type} {a b : α} (h : a = b) : a = b := h
/-- What is there is handed on; simp looks at the first part alone. -/
def OptK {α : Type} (x : Option α) (f : α → Prop) : Prop := match x with
  | some v => f v
  | none => False
@[congr] theorem OptK_congr {α : Type} {x y : Option α} {f : α → Prop} {du : Nat} (_d : dumA = du) (h : x = y) : OptK x f = OptK y f := by rw [h]
@[simp ↓] theorem OptK_some {α : Type} (v : α) (f : α → Prop) : OptK (some v) f = f v := eqv rfl
@[simp ↓] theorem OptK_none {α : Type} (f : α → Prop) : OptK none f = False := eqv rfl
theorem OptK.mk {α : Type} {x : Option α} {f : α → Prop} {v : α} (h : x = some v) (k : f v) : OptK x f := by rw [h]; exact k
def BoolK (x : Option AV) (A B : Prop) : Prop := match x with
  | some (.bool b) => (b = true → A) ∧ (b = false → B)
  | _ => False
@[congr] theorem BoolK_congr {x y : Option AV} {A B : Prop} {du : Nat} (_d : dumA = du) (h : x = y) : BoolK x A B = BoolK y A B := by rw [h]
@[simp ↓ high] theorem BoolK_true (A B : Prop) : BoolK (some (.bool true)) A B = A := by simp [BoolK]
@[simp ↓ high] theorem BoolK_false (A B : Prop) : BoolK (some (.bool false)) A B = B := by simp [BoolK]
@[simp ↓] theorem BoolK_any (b : Bool) (A B : Prop) : BoolK (some (.bool b)) A B = ((b = true → A) ∧ (b = false → B)) := eqv rfl
def PickK (x : Option AV) (A B : Prop) : Prop := match x with
  | some (.bool b) => if b = true then A else B
  | _ => False
@[congr] theorem PickK_congr {x y : Option AV} {A B : Prop} {du : Nat} (_d : dumA = du) (h : x = y) : PickK x A B = PickK y A B := by rw [h]
@[simp ↓ high] theorem PickK_true (A B : Prop) : PickK (some (.bool true)) A B = A := by simp [PickK]
@[simp ↓ high] theorem PickK_false (A B : Prop) : PickK (some (.bool false)) A B = B := by simp [PickK]
@[simp ↓] theorem PickK_any (b : Bool) (A B : Prop) : PickK (some (.bool b)) A B = if b = true then A else B := eqv rfl
def IfK (c : Bool) (A : Prop) : Prop := c = true ∧ A
@[congr] theorem IfK_congr {c d : Bool} {A : Prop} {du : Nat} (_d : dumA = du) (h : c = d) : IfK c A = IfK d A := by rw [h]
@[simp ↓] theorem IfK_true (A : Prop) : IfK true A = A := by simp [IfK]
@[simp ↓] theorem IfK_false (A : Prop) : IfK false A = False := by simp [IfK]
def CallK (P : Program) (f : FuncId) (xs : List AV) (H : AHeap) (K : AV → AHeap → Prop) : Prop := ACalls P f xs H K
@[congr] theorem CallK_congr {P : Program} {f : FuncId} {xs ys : List AV} {H J : AHeap} {K : AV → AHeap → Prop} {du : Nat} (_d : dumA = du) (h : xs = ys) (hH : H = J) : CallK P f xs H K = CallK P f ys J K := by rw [h, hH]
theorem CallK.pure {P : Program} {f : FuncId} {xs : List AV} {r : AV} {H : AHeap} {K : AV → AHeap → Prop} (h : PCall P f xs r) (k : K r H) : CallK P f xs H K :=
  (h H).mono fun x H' ⟨a, b⟩ => by subst a; subst b; exact k
theorem CallK.of {P : Program} {f : FuncId} {xs : List AV} {H : AHeap} {Q K : AV → AHeap → Prop} (h : ACalls P f xs H Q) (k : ∀ r H', Q r H' → K r H') : CallK P f xs H K := h.mono k
def PCallK (P : Program) (f : FuncId) (xs : List AV) (K : AV → Prop) : Prop := ∃ r, PCall P f xs r ∧ K r
@[congr] theorem PCallK_congr {P : Program} {f : FuncId} {xs ys : List AV} {K : AV → Prop} {du : Nat} (_d : dumA = du) (h : xs = ys) : PCallK P f xs K = PCallK P f ys K := by rw [h]
theorem PCallK.pure {P : Program} {f : FuncId} {xs : List AV} {r : AV} {K : AV → Prop} (h : PCall P f xs r) (k : K r) : PCallK P f xs K := ⟨r, h, k⟩
def AllK (f : Nat → Prop) : Prop := ∀ g, f g
theorem AllK.mk {f : Nat → Prop} (h : ∀ g, f g) : AllK f := h
@[congr] theorem AllK_congr {f : Nat → Prop} : AllK f = AllK f := rfl
@[simp] theorem AllK_eq (f : Nat → Prop) : AllK f = ∀ g, f g := eqv rfl

/-! Environments and heaps. -/
@[simp ↓] theorem ev_t (E : Env) (n : Nat) : E.ev (.t n) = E.get n := eqv rfl
@[simp ↓] theorem ev_c (E : Env) (x : AV) : E.ev (.c x) = some x := eqv rfl
@[simp ↓] theorem ev_f (E : Env) (n : Nat) : E.ev (.f n) = some (.fn (.func n) [] []) := eqv rfl
@[simp ↓] theorem ev_g (E : Env) (n : Nat) : E.ev (.g n) = (gtab n).map fun c => .rptr c 0 := eqv rfl
theorem get_same (k : Nat) (v : AV) (r : Env) : Env.get ((k, v) :: r) k = some v := by simp [Env.get]
@[simp ↓] theorem get_cons (k t : Nat) (v : AV) (r : Env) : Env.get ((k, v) :: r) t = if k = t then some v else Env.get r t := eqv rfl
@[simp ↓] theorem get_nil (t : Nat) : Env.get [] t = none := eqv rfl
@[simp ↓] theorem put_some (E : Env) (d : Nat) (v : AV) : E.put (some d) v = (d, v) :: E := eqv rfl
@[simp ↓] theorem put_none (E : Env) (v : AV) : E.put none v = E := eqv rfl
@[simp ↓] theorem evs_nil (E : Env) : E.evs [] = some [] := eqv rfl
def consO {α : Type} (x : Option α) (l : Option (List α)) : Option (List α) := match x, l with
  | some v, some l => some (v :: l)
  | _, _ => none
@[simp] theorem consO_some {α : Type} (v : α) (l : List α) : consO (some v) (some l) = some (v :: l) := eqv rfl
@[simp ↓] theorem evs_cons (E : Env) (x : Opd) (r : List Opd) : E.evs (x :: r) = consO (E.ev x) (E.evs r) := by simp only [Env.evs, consO]; cases E.ev x <;> cases E.evs r <;> rfl
@[simp ↓] theorem evParts_nil (E : Env) : evParts E [] = some [] := eqv rfl
@[simp ↓] theorem evParts_cons (E : Env) (o s : Nat) (x : Opd) (r : List (Nat × Nat × Opd)) : evParts E ((o, s, x) :: r) = consO ((E.ev x).map fun v => (o, s, v)) (evParts E r) := by simp only [evParts, consO]; cases E.ev x <;> cases evParts E r <;> rfl
@[simp ↓] theorem evOpt_none (E : Env) : evOpt E none = some none := eqv rfl
@[simp ↓] theorem evOpt_some (E : Env) (x : Opd) : evOpt E (some x) = (E.ev x).map some := by simp only [evOpt]; cases E.ev x <;> rfl
@[simp] theorem hget_add (H l : AHeap) (k : Nat) : (H ++ l)[H.length + k]? = l[k]? := by rw [List.getElem?_append_right (Nat.le_add_right _ _)]; congr 1; omega
@[simp] theorem hget_len (H l : AHeap) : (H ++ l)[H.length]? = l[0]? := hget_add H l 0
@[simp] theorem hset_add (H l : AHeap) (k : Nat) (x : Option Blk) : (H ++ l).set (H.length + k) x = H ++ l.set k x := by rw [List.set_append_right _ _ (Nat.le_add_right _ _)]; congr 2; omega
@[simp] theorem hset_len (H l : AHeap) (x : Option Blk) : (H ++ l).set H.length x = H ++ l.set 0 x := hset_add H l 0 x
def bsR (sz : Nat) (xs : List AV) : Option (List (List AV)) := if xs.all (fun x => x.okst && (x.cells.length == sz)) = true then some (xs.map AV.cells) else none
def slcS (sz : Nat) (st : Bool) (a : AV) (l h : Option AV) : Option AV := if isStrA a = st then slcA sz a l h else none
def lenS (st : Bool) (a : AV) : Option AV := if isStrA a = st then evLen a else none
def extS (a : AV) (i : Nat) : Option AV := match a with
  | .tup vs => vs[i]?
  | _ => none

/-- What an operation that makes nothing comes to. -/
def EvK (s : SOp) (E : Env) (H : AHeap) (f : AV → Prop) : Prop := match evalS 0 s E H with
  | some (x, _) => f x
  | none => False

@[simp ↓] theorem EvK_mv (E : Env) (H : AHeap) (f : AV → Prop) (x : Opd) : EvK (.mv x) E H f = OptK (E.ev x) fun v => f (v) := by
  simp only [EvK, evalS, OptK]
  cases E.ev x <;> rfl
@[simp ↓] theorem EvK_build (E : Env) (H : AHeap) (f : AV → Prop) (z : List AV) (ps : List (Nat × Nat × Opd)) : EvK (.build z ps) E H f = OptK (evParts E ps) fun l => OptK (fillA z l) fun c => f (.agg c) := by
  simp only [EvK, evalS, OptK]
  cases evParts E ps with
  | none => rfl
  | some l => simp only; cases fillA z l <;> rfl
@[simp ↓] theorem EvK_bslice (E : Env) (H : AHeap) (f : AV → Prop) (sz : Nat) (xs : List Opd) : EvK (.bslice sz xs) E H f = OptK (E.evs xs) fun l => OptK (bsR sz l) fun r => f (.sl .full r) := by
  simp only [EvK, evalS, OptK, bsA, bsR]
  cases E.evs xs with
  | none => rfl
  | some a => by_cases h : a.all (fun x => x.okst && (x.cells.length == sz)) = true <;> simp only [h, if_true, if_false, Bool.false_eq_true]
@[simp ↓] theorem EvK_load (E : Env) (H : AHeap) (f : AV → Prop) (ag : Bool) (n : Nat) (x : Opd) : EvK (.load ag n x) E H f = OptK (E.ev x) fun p => OptK (ldA ag n p H) fun v => f (v) := by
  simp only [EvK, evalS, OptK]
  cases E.ev x with
  | none => rfl
  | some p => simp only; cases ldA ag n p H <;> rfl
@[simp ↓] theorem EvK_bin (E : Env) (H : AHeap) (f : AV → Prop) (op : BinOp) (x y : Opd) : EvK (.bin op x y) E H f = OptK (E.ev x) fun a => OptK (E.ev y) fun b => OptK (evBin op a b) fun v => f (v) := by
  simp only [EvK, evalS, OptK]
  cases E.ev x with
  | none => rfl
  | some a =>
    cases E.ev y with
    | none => rfl
    | some b => simp only; cases evBin op a b <;> rfl
@[simp ↓] theorem EvK_beq (E : Env) (H : AHeap) (f : AV → Prop) (ne : Bool) (x y : Opd) : EvK (.beq ne x y) E H f = OptK (E.ev x) fun a => OptK (E.ev y) fun b => OptK (evBeq ne a b) fun v => f (v) := by
  simp only [EvK, evalS, OptK]
  cases E.ev x with
  | none => rfl
  | some a =>
    cases E.ev y with
    | none => rfl
    | some b => simp only; cases evBeq ne a b <;> rfl
@[simp ↓] theorem EvK_un (E : Env) (H : AHeap) (f : AV → Prop) (op : UnOp) (x : Opd) : EvK (.un op x) E H f = OptK (E.ev x) fun a => OptK (evUn op a) fun v => f (v) := by
  simp only [EvK, evalS, OptK]
  cases E.ev x with
  | none => rfl
  | some a => simp only; cases evUn op a <;> rfl
@[simp ↓] theorem EvK_conv (E : Env) (H : AHeap) (f : AV → Prop) (k : IntKind) (x : Opd) : EvK (.conv k x) E H f = OptK (E.ev x) fun a => OptK (evConv k a) fun v => f (v) := by
  simp only [EvK, evalS, OptK]
  cases E.ev x with
  | none => rfl
  | some a => simp only; cases evConv k a <;> rfl
@[simp ↓] theorem EvK_mkfn (E : Env) (H : AHeap) (f : AV → Prop) (fn : Fn) (xs ys : List Opd) : EvK (.mkfn fn xs ys) E H f = OptK (E.evs xs) fun a => OptK (E.evs ys) fun b => f (.fn fn a b) := by
  simp only [EvK, evalS, OptK]
  cases E.evs xs <;> cases E.evs ys <;> rfl
@[simp ↓] theorem EvK_slc (E : Env) (H : AHeap) (f : AV → Prop) (sz : Nat) (st : Bool) (x : Opd) (lo hi : Option Opd) : EvK (.slc sz st x lo hi) E H f = OptK (E.ev x) fun a => OptK (evOpt E lo) fun l => OptK (evOpt E hi) fun h => OptK (slcS sz st a l h) fun v => f (v) := by
  simp only [EvK, evalS, OptK, slcS]
  cases E.ev x with
  | none => rfl
  | some a =>
    cases evOpt E lo with
    | none => rfl
    | some l =>
      cases evOpt E hi with
      | none => rfl
      | some h =>
        by_cases e : isStrA a = st
        · simp only [e, if_true]; cases slcA sz a l h <;> rfl
        · simp only [e, if_false]
@[simp ↓] theorem EvK_faddr (E : Env) (H : AHeap) (f : AV → Prop) (off : Nat) (x : Opd) : EvK (.faddr off x) E H f = OptK (E.ev x) fun a => OptK (faA off a) fun v => f (v) := by
  simp only [EvK, evalS, OptK]
  cases E.ev x with
  | none => rfl
  | some a => simp only; cases faA off a <;> rfl
@[simp ↓] theorem EvK_fld (E : Env) (H : AHeap) (f : AV → Prop) (ag : Bool) (n off : Nat) (x : Opd) : EvK (.fld ag n off x) E H f = OptK (E.ev x) fun a => OptK (fldA ag n off a) fun v => f (v) := by
  simp only [EvK, evalS, OptK]
  cases E.ev x with
  | none => rfl
  | some a => simp only; cases fldA ag n off a <;> rfl
@[simp ↓] theorem EvK_iaddr (E : Env) (H : AHeap) (f : AV → Prop) (sz : Nat) (x i : Opd) : EvK (.iaddr sz x i) E H f = OptK (E.ev x) fun a => OptK (E.ev i) fun b => OptK (iaA sz a b) fun v => f (v) := by
  simp only [EvK, evalS, OptK]
  cases E.ev x with
  | none => rfl
  | some a =>
    cases E.ev i with
    | none => rfl
    | some b => simp only; cases iaA sz a b <;> rfl
@[simp ↓] theorem EvK_iarr (E : Env) (H : AHeap) (f : AV → Prop) (sz len : Nat) (x i : Opd) : EvK (.iarr sz len x i) E H f = OptK (E.ev x) fun a => OptK (E.ev i) fun b => OptK (iaArr sz len a b) fun v => f (v) := by
  simp only [EvK, evalS, OptK]
  cases E.ev x with
  | none => rfl
  | some a =>
    cases E.ev i with
    | none => rfl
    | some b => simp only; cases iaArr sz len a b <;> rfl
@[simp ↓] theorem EvK_idx (E : Env) (H : AHeap) (f : AV → Prop) (x i : Opd) : EvK (.idx x i) E H f = OptK (E.ev x) fun a => OptK (E.ev i) fun b => OptK (evIdx a b) fun v => f (v) := by
  simp only [EvK, evalS, OptK]
  cases E.ev x with
  | none => rfl
  | some a =>
    cases E.ev i with
    | none => rfl
    | some b => simp only; cases evIdx a b <;> rfl
@[simp ↓] theorem EvK_aidx (E : Env) (H : AHeap) (f : AV → Prop) (ag : Bool) (n len : Nat) (x i : Opd) : EvK (.aidx ag n len x i) E H f = OptK (E.ev x) fun a => OptK (E.ev i) fun b => OptK (aidxA ag n n len a b) fun v => f (v) := by
  simp only [EvK, evalS, OptK]
  cases E.ev x with
  | none => rfl
  | some a =>
    cases E.ev i with
    | none => rfl
    | some b => simp only; cases aidxA ag n n len a b <;> rfl
@[simp ↓] theorem EvK_ext (E : Env) (H : AHeap) (f : AV → Prop) (x : Opd) (i : Nat) : EvK (.ext x i) E H f = OptK (E.ev x) fun a => OptK (extS a i) fun v => f (v) := by
  simp only [EvK, evalS, OptK, extS]
  cases E.ev x with
  | none => rfl
  | some a => cases a <;> simp only [] ; rename_i vs; cases vs[i]? <;> rfl
@[simp ↓] theorem EvK_len (E : Env) (H : AHeap) (f : AV → Prop) (st : Bool) (x : Opd) : EvK (.len st x) E H f = OptK (E.ev x) fun a => OptK (lenS st a) fun v => f (v) := by
  simp only [EvK, evalS, OptK, lenS]
  cases E.ev x with
  | none => rfl
  | some a =>
    by_cases e : isStrA a = st
    · simp only [e, if_true]; cases evLen a <;> rfl
    · simp only [e, if_false]
@[simp ↓] theorem EvK_appz (E : Env) (H : AHeap) (f : AV → Prop) (sz bt : Nat) (x y : Opd) : EvK (.appz sz bt x y) E H f = OptK (E.ev x) fun a => OptK (E.ev y) fun b => OptK (azA sz bt a b) fun v => f (v) := by
  simp only [EvK, evalS, OptK]
  cases E.ev x with
  | none => rfl
  | some a =>
    cases E.ev y with
    | none => rfl
    | some b => simp only; cases azA sz bt a b <;> rfl
@[simp ↓] theorem EvK_mm (E : Env) (H : AHeap) (f : AV → Prop) (mx : Bool) (x y : Opd) : EvK (.mm mx x y) E H f = OptK (E.ev x) fun a => OptK (E.ev y) fun b => OptK (evMM mx a b) fun v => f (v) := by
  simp only [EvK, evalS, OptK]
  cases E.ev x with
  | none => rfl
  | some a =>
    cases E.ev y with
    | none => rfl
    | some b => simp only; cases evMM mx a b <;> rfl
@[simp ↓] theorem EvK_pick (E : Env) (H : AHeap) (f : AV → Prop) (c a b : Opd) : EvK (.pick c a b) E H f = PickK (E.ev c) (OptK (E.ev a) f) (OptK (E.ev b) f) := by
  simp only [EvK, evalS, OptK, PickK]
  cases E.ev c with
  | none => rfl
  | some v =>
    cases v <;> simp only []
    rename_i t
    cases t
    · simp only [Bool.false_eq_true, if_false]; cases E.ev b <;> rfl
    · simp only [if_true]; cases E.ev a <;> rfl

/-! One operation. -/
def SOper.mk' (d : Option Nat) (s : SOp) : SOper := ⟨d, s, none, false, false⟩

theorem evK_same {s : SOp} {E : Env} {H H' : AHeap} {x : AV} {g : Nat} (hk : (decide (s.kind = 0) || decide (s.kind = 1)) = true) (h : evalS g s E H = some (x, H')) : H' = H := by
  simp only [Bool.or_eq_true, decide_eq_true_eq] at hk
  rcases hk with hk | hk
  · exact (evalS_pure hk h).1
  · exact evalS_load hk h
@[simp ↓] theorem one_mv (P : Program) (d : Option Nat) (g0 : Option (Nat × Bool)) (b0 l0 : Bool) (E : Env) (H : AHeap) (K : Env → AHeap → Prop) (x : Opd) : rgnOne P ⟨d, .mv x, g0, b0, l0⟩ E H K = EvK (.mv x) E H fun r => K (E.put d r) H := by
  simp only [rgnOne, EvK, SOp.news, Bool.false_eq_true, if_false]
  cases h : evalS 0 (.mv x) E H with
  | none => rfl
  | some p => obtain ⟨y, H'⟩ := p; obtain rfl := evK_same (by rfl) h; rfl
@[simp ↓] theorem det_mv (P : Program) (Hs : List AHeap) (Ls : Seen) (d : Option Nat) (g0 : Option (Nat × Bool)) (b0 l0 : Bool) (E : Env) (H : AHeap) (K : Env → AHeap → List AHeap → Seen → Prop) (x : Opd) : rgnDet P Hs Ls ⟨d, .mv x, g0, b0, l0⟩ E H K = EvK (.mv x) E H fun r => K (E.put d r) H Hs Ls := by
  simp only [rgnDet, EvK]
  cases h : evalS 0 (.mv x) E H with
  | none => rfl
  | some p => obtain ⟨y, H'⟩ := p; obtain rfl := evK_same (by rfl) h; simp [SOp.kind]
@[simp ↓] theorem one_build (P : Program) (d : Option Nat) (g0 : Option (Nat × Bool)) (b0 l0 : Bool) (E : Env) (H : AHeap) (K : Env → AHeap → Prop) (z : List AV) (ps : List (Nat × Nat × Opd)) : rgnOne P ⟨d, .build z ps, g0, b0, l0⟩ E H K = EvK (.build z ps) E H fun r => K (E.put d r) H := by
  simp only [rgnOne, EvK, SOp.news, Bool.false_eq_true, if_false]
  cases h : evalS 0 (.build z ps) E H with
  | none => rfl
  | some p => obtain ⟨y, H'⟩ := p; obtain rfl := evK_same (by rfl) h; rfl
@[simp ↓] theorem det_build (P : Program) (Hs : List AHeap) (Ls : Seen) (d : Option Nat) (g0 : Option (Nat × Bool)) (b0 l0 : Bool) (E : Env) (H : AHeap) (K : Env → AHeap → List AHeap → Seen → Prop) (z : List AV) (ps : List (Nat × Nat × Opd)) : rgnDet P Hs Ls ⟨d, .build z ps, g0, b0, l0⟩ E H K = EvK (.build z ps) E H fun r => K (E.put d r) H Hs Ls := by
  simp only [rgnDet, EvK]
  cases h : evalS 0 (.build z ps) E H with
  | none => rfl
  | some p => obtain ⟨y, H'⟩ := p; obtain rfl := evK_same (by rfl) h; simp [SOp.kind]
@[simp ↓] theorem one_bslice (P : Program) (d : Option Nat) (g0 : Option (Nat × Bool)) (b0 l0 : Bool) (E : Env) (H : AHeap) (K : Env → AHeap → Prop) (sz : Nat) (xs : List Opd) : rgnOne P ⟨d, .bslice sz xs, g0, b0, l0⟩ E H K = EvK (.bslice sz xs) E H fun r => K (E.put d r) H := by
  simp only [rgnOne, EvK, SOp.news, Bool.false_eq_true, if_false]
  cases h : evalS 0 (.bslice sz xs) E H with
  | none => rfl
  | some p => obtain ⟨y, H'⟩ := p; obtain rfl := evK_same (by rfl) h; rfl
@[simp ↓] theorem det_bslice (P : Program) (Hs : List AHeap) (Ls : Seen) (d : Option Nat) (g0 : Option (Nat × Bool)) (b0 l0 : Bool) (E : Env) (H : AHeap) (K : Env → AHeap → List AHeap → Seen → Prop) (sz : Nat) (xs : List Opd) : rgnDet P Hs Ls ⟨d, .bslice sz xs, g0, b0, l0⟩ E H K = EvK (.bslice sz xs) E H fun r => K (E.put d r) H Hs Ls := by
  simp only [rgnDet, EvK]
  cases h : evalS 0 (.bslice sz xs) E H with
  | none => rfl
  | some p => obtain ⟨y, H'⟩ := p; obtain rfl := evK_same (by rfl) h; simp [SOp.kind]
@[simp ↓] theorem one_load (P : Program) (d : Option Nat) (g0 : Option (Nat × Bool)) (b0 l0 : Bool) (E : Env) (H : AHeap) (K : Env → AHeap → Prop) (ag : Bool) (n : Nat) (x : Opd) : rgnOne P ⟨d, .load ag n x, g0, b0, l0⟩ E H K = EvK (.load ag n x) E H fun r => K (E.put d r) H := by
  simp only [rgnOne, EvK, SOp.news, Bool.false_eq_true, if_false]
  cases h : evalS 0 (.load ag n x) E H with
  | none => rfl
  | some p => obtain ⟨y, H'⟩ := p; obtain rfl := evK_same (by rfl) h; rfl
@[simp ↓] theorem det_load (P : Program) (Hs : List AHeap) (Ls : Seen) (d : Option Nat) (g0 : Option (Nat × Bool)) (b0 : Bool) (E : Env) (H : AHeap) (K : Env → AHeap → List AHeap → Seen → Prop) (ag : Bool) (n : Nat) (x : Opd) : rgnDet P Hs Ls ⟨d, .load ag n x, g0, b0, false⟩ E H K = EvK (.load ag n x) E H fun r => K (E.put d r) H Hs Ls := by
  simp only [rgnDet, EvK]
  cases h : evalS 0 (.load ag n x) E H with
  | none => rfl
  | some p => obtain ⟨y, H'⟩ := p; obtain rfl := evK_same (by rfl) h; simp [SOp.kind]
@[simp ↓] theorem det_loadL (P : Program) (Hs : List AHeap) (Ls : Seen) (d : Option Nat) (g0 : Option (Nat × Bool)) (b0 : Bool) (E : Env) (H : AHeap) (K : Env → AHeap → List AHeap → Seen → Prop) (ag : Bool) (n : Nat) (x : Opd) : rgnDet P Hs Ls ⟨d, .load ag n x, g0, b0, true⟩ E H K = EvK (.load ag n x) E H fun r => (∀ J ∈ Hs, evalS 0 (.load ag n x) E J = some (r, J)) ∧ K (E.put d r) H Hs ((⟨d, .load ag n x, g0, b0, true⟩, E, r) :: Ls) := by
  simp only [rgnDet, EvK]
  cases h : evalS 0 (.load ag n x) E H with
  | none => rfl
  | some p => obtain ⟨y, H'⟩ := p; obtain rfl := evK_same (by rfl) h; simp [SOp.kind]
@[simp ↓] theorem one_bin (P : Program) (d : Option Nat) (g0 : Option (Nat × Bool)) (b0 l0 : Bool) (E : Env) (H : AHeap) (K : Env → AHeap → Prop) (op : BinOp) (x y : Opd) : rgnOne P ⟨d, .bin op x y, g0, b0, l0⟩ E H K = EvK (.bin op x y) E H fun r => K (E.put d r) H := by
  simp only [rgnOne, EvK, SOp.news, Bool.false_eq_true, if_false]
  cases h : evalS 0 (.bin op x y) E H with
  | none => rfl
  | some p => obtain ⟨y, H'⟩ := p; obtain rfl := evK_same (by rfl) h; rfl
@[simp ↓] theorem det_bin (P : Program) (Hs : List AHeap) (Ls : Seen) (d : Option Nat) (g0 : Option (Nat × Bool)) (b0 l0 : Bool) (E : Env) (H : AHeap) (K : Env → AHeap → List AHeap → Seen → Prop) (op : BinOp) (x y : Opd) : rgnDet P Hs Ls ⟨d, .bin op x y, g0, b0, l0⟩ E H K = EvK (.bin op x y) E H fun r => K (E.put d r) H Hs Ls := by
  simp only [rgnDet, EvK]
  cases h : evalS 0 (.bin op x y) E H with
  | none => rfl
  | some p => obtain ⟨y, H'⟩ := p; obtain rfl := evK_same (by rfl) h; simp [SOp.kind]
@[simp ↓] theorem one_beq (P : Program) (d : Option Nat) (g0 : Option (Nat × Bool)) (b0 l0 : Bool) (E : Env) (H : AHeap) (K : Env → AHeap → Prop) (ne : Bool) (x y : Opd) : rgnOne P ⟨d, .beq ne x y, g0, b0, l0⟩ E H K = EvK (.beq ne x y) E H fun r => K (E.put d r) H := by
  simp only [rgnOne, EvK, SOp.news, Bool.false_eq_true, if_false]
  cases h : evalS 0 (.beq ne x y) E H with
  | none => rfl
  | some p => obtain ⟨y, H'⟩ := p; obtain rfl := evK_same (by rfl) h; rfl
@[simp ↓] theorem det_beq (P : Program) (Hs : List AHeap) (Ls : Seen) (d : Option Nat) (g0 : Option (Nat × Bool)) (b0 l0 : Bool) (E : Env) (H : AHeap) (K : Env → AHeap → List AHeap → Seen → Prop) (ne : Bool) (x y : Opd) : rgnDet P Hs Ls ⟨d, .beq ne x y, g0, b0, l0⟩ E H K = EvK (.beq ne x y) E H fun r => K (E.put d r) H Hs Ls := by
  simp only [rgnDet, EvK]
  cases h : evalS 0 (.beq ne x y) E H with
  | none => rfl
  | some p => obtain ⟨y, H'⟩ := p; obtain rfl := evK_same (by rfl) h; simp [SOp.kind]
@[simp ↓] theorem one_un (P : Program) (d : Option Nat) (g0 : Option (Nat × Bool)) (b0 l0 : Bool) (E : Env) (H : AHeap) (K : Env → AHeap → Prop) (op : UnOp) (x : Opd) : rgnOne P ⟨d, .un op x, g0, b0, l0⟩ E H K = EvK (.un op x) E H fun r => K (E.put d r) H := by
  simp only [rgnOne, EvK, SOp.news, Bool.false_eq_true, if_false]
  cases h : evalS 0 (.un op x) E H with
  | none => rfl
  | some p => obtain ⟨y, H'⟩ := p; obtain rfl := evK_same (by rfl) h; rfl
@[simp ↓] theorem det_un (P : Program) (Hs : List AHeap) (Ls : Seen) (d : Option Nat) (g0 : Option (Nat × Bool)) (b0 l0 : Bool) (E : Env) (H : AHeap) (K : Env → AHeap → List AHeap → Seen → Prop) (op : UnOp) (x : Opd) : rgnDet P Hs Ls ⟨d, .un op x, g0, b0, l0⟩ E H K = EvK (.un op x) E H fun r => K (E.put d r) H Hs Ls := by
  simp only [rgnDet, EvK]
  cases h : evalS 0 (.un op x) E H with
  | none => rfl
  | some p => obtain ⟨y, H'⟩ := p; obtain rfl := evK_same (by rfl) h; simp [SOp.kind]
@[simp ↓] theorem one_conv (P : Program) (d : Option Nat) (g0 : Option (Nat × Bool)) (b0 l0 : Bool) (E : Env) (H : AHeap) (K : Env → AHeap → Prop) (k : IntKind) (x : Opd) : rgnOne P ⟨d, .conv k x, g0, b0, l0⟩ E H K = EvK (.conv k x) E H fun r => K (E.put d r) H := by
  simp only [rgnOne, EvK, SOp.news, Bool.false_eq_true, if_false]
  cases h : evalS 0 (.conv k x) E H with
  | none => rfl
  | some p => obtain ⟨y, H'⟩ := p; obtain rfl := evK_same (by rfl) h; rfl
@[simp ↓] theorem det_conv (P : Program) (Hs : List AHeap) (Ls : Seen) (d : Option Nat) (g0 : Option (Nat × Bool)) (b0 l0 : Bool) (E : Env) (H : AHeap) (K : Env → AHeap → List AHeap → Seen → Prop) (k : IntKind) (x : Opd) : rgnDet P Hs Ls ⟨d, .conv k x, g0, b0, l0⟩ E H K = EvK (.conv k x) E H fun r => K (E.put d r) H Hs Ls := by
  simp only [rgnDet, EvK]
  cases h : evalS 0 (.conv k x) E H with
  | none => rfl
  | some p => obtain ⟨y, H'⟩ := p; obtain rfl := evK_same (by rfl) h; simp [SOp.kind]
@[simp ↓] theorem one_mkfn (P : Program) (d : Option Nat) (g0 : Option (Nat × Bool)) (b0 l0 : Bool) (E : Env) (H : AHeap) (K : Env → AHeap → Prop) (fn : Fn) (xs ys : List Opd) : rgnOne P ⟨d, .mkfn fn xs ys, g0, b0, l0⟩ E H K = EvK (.mkfn fn xs ys) E H fun r => K (E.put d r) H := by
  simp only [rgnOne, EvK, SOp.news, Bool.false_eq_true, if_false]
  cases h : evalS 0 (.mkfn fn xs ys) E H with
  | none => rfl
  | some p => obtain ⟨y, H'⟩ := p; obtain rfl := evK_same (by rfl) h; rfl
@[simp ↓] theorem det_mkfn (P : Program) (Hs : List AHeap) (Ls : Seen) (d : Option Nat) (g0 : Option (Nat × Bool)) (b0 l0 : Bool) (E : Env) (H : AHeap) (K : Env → AHeap → List AHeap → Seen → Prop) (fn : Fn) (xs ys : List Opd) : rgnDet P Hs Ls ⟨d, .mkfn fn xs ys, g0, b0, l0⟩ E H K = EvK (.mkfn fn xs ys) E H fun r => K (E.put d r) H Hs Ls := by
  simp only [rgnDet, EvK]
  cases h : evalS 0 (.mkfn fn xs ys) E H with
  | none => rfl
  | some p => obtain ⟨y, H'⟩ := p; obtain rfl := evK_same (by rfl) h; simp [SOp.kind]
@[simp ↓] theorem one_slc (P : Program) (d : Option Nat) (g0 : Option (Nat × Bool)) (b0 l0 : Bool) (E : Env) (H : AHeap) (K : Env → AHeap → Prop) (sz : Nat) (st : Bool) (x : Opd) (lo hi : Option Opd) : rgnOne P ⟨d, .slc sz st x lo hi, g0, b0, l0⟩ E H K = EvK (.slc sz st x lo hi) E H fun r => K (E.put d r) H := by
  simp only [rgnOne, EvK, SOp.news, Bool.false_eq_true, if_false]
  cases h : evalS 0 (.slc sz st x lo hi) E H with
  | none => rfl
  | some p => obtain ⟨y, H'⟩ := p; obtain rfl := evK_same (by rfl) h; rfl
@[simp ↓] theorem det_slc (P : Program) (Hs : List AHeap) (Ls : Seen) (d : Option Nat) (g0 : Option (Nat × Bool)) (b0 l0 : Bool) (E : Env) (H : AHeap) (K : Env → AHeap → List AHeap → Seen → Prop) (sz : Nat) (st : Bool) (x : Opd) (lo hi : Option Opd) : rgnDet P Hs Ls ⟨d, .slc sz st x lo hi, g0, b0, l0⟩ E H K = EvK (.slc sz st x lo hi) E H fun r => K (E.put d r) H Hs Ls := by
  simp only [rgnDet, EvK]
  cases h : evalS 0 (.slc sz st x lo hi) E H with
  | none => rfl
  | some p => obtain ⟨y, H'⟩ := p; obtain rfl := evK_same (by rfl) h; simp [SOp.kind]
@[simp ↓] theorem one_faddr (P : Program) (d : Option Nat) (g0 : Option (Nat × Bool)) (b0 l0 : Bool) (E : Env) (H : AHeap) (K : Env → AHeap → Prop) (off : Nat) (x : Opd) : rgnOne P ⟨d, .faddr off x, g0, b0, l0⟩ E H K = EvK (.faddr off x) E H fun r => K (E.put d r) H := by
  simp only [rgnOne, EvK, SOp.news, Bool.false_eq_true, if_false]
  cases h : evalS 0 (.faddr off x) E H with
  | none => rfl
  | some p => obtain ⟨y, H'⟩ := p; obtain rfl := evK_same (by rfl) h; rfl
@[simp ↓] theorem det_faddr (P : Program) (Hs : List AHeap) (Ls : Seen) (d : Option Nat) (g0 : Option (Nat × Bool)) (b0 l0 : Bool) (E : Env) (H : AHeap) (K : Env → AHeap → List AHeap → Seen → Prop) (off : Nat) (x : Opd) : rgnDet P Hs Ls ⟨d, .faddr off x, g0, b0, l0⟩ E H K = EvK (.faddr off x) E H fun r => K (E.put d r) H Hs Ls := by
  simp only [rgnDet, EvK]
  cases h : evalS 0 (.faddr off x) E H with
  | none => rfl
  | some p => obtain ⟨y, H'⟩ := p; obtain rfl := evK_same (by rfl) h; simp [SOp.kind]
@[simp ↓] theorem one_fld (P : Program) (d : Option Nat) (g0 : Option (Nat × Bool)) (b0 l0 : Bool) (E : Env) (H : AHeap) (K : Env → AHeap → Prop) (ag : Bool) (n off : Nat) (x : Opd) : rgnOne P ⟨d, .fld ag n off x, g0, b0, l0⟩ E H K = EvK (.fld ag n off x) E H fun r => K (E.put d r) H := by
  simp only [rgnOne, EvK, SOp.news, Bool.false_eq_true, if_false]
  cases h : evalS 0 (.fld ag n off x) E H with
  | none => rfl
  | some p => obtain ⟨y, H'⟩ := p; obtain rfl := evK_same (by rfl) h; rfl
@[simp ↓] theorem det_fld (P : Program) (Hs : List AHeap) (Ls : Seen) (d : Option Nat) (g0 : Option (Nat × Bool)) (b0 l0 : Bool) (E : Env) (H : AHeap) (K : Env → AHeap → List AHeap → Seen → Prop) (ag : Bool) (n off : Nat) (x : Opd) : rgnDet P Hs Ls ⟨d, .fld ag n off x, g0, b0, l0⟩ E H K = EvK (.fld ag n off x) E H fun r => K (E.put d r) H Hs Ls := by
  simp only [rgnDet, EvK]
  cases h : evalS 0 (.fld ag n off x) E H with
  | none => rfl
  | some p => obtain ⟨y, H'⟩ := p; obtain rfl := evK_same (by rfl) h; simp [SOp.kind]
@[simp ↓] theorem one_iaddr (P : Program) (d : Option Nat) (g0 : Option (Nat × Bool)) (b0 l0 : Bool) (E : Env) (H : AHeap) (K : Env → AHeap → Prop) (sz : Nat) (x i : Opd) : rgnOne P ⟨d, .iaddr sz x i, g0, b0, l0⟩ E H K = EvK (.iaddr sz x i) E H fun r => K (E.put d r) H := by
  simp only [rgnOne, EvK, SOp.news, Bool.false_eq_true, if_false]
  cases h : evalS 0 (.iaddr sz x i) E H with
  | none => rfl
  | some p => obtain ⟨y, H'⟩ := p; obtain rfl := evK_same (by rfl) h; rfl
@[simp ↓] theorem det_iaddr (P : Program) (Hs : List AHeap) (Ls : Seen) (d : Option Nat) (g0 : Option (Nat × Bool)) (b0 l0 : Bool) (E : Env) (H : AHeap) (K : Env → AHeap → List AHeap → Seen → Prop) (sz : Nat) (x i : Opd) : rgnDet P Hs Ls ⟨d, .iaddr sz x i, g0, b0, l0⟩ E H K = EvK (.iaddr sz x i) E H fun r => K (E.put d r) H Hs Ls := by
  simp only [rgnDet, EvK]
  cases h : evalS 0 (.iaddr sz x i) E H with
  | none => rfl
  | some p => obtain ⟨y, H'⟩ := p; obtain rfl := evK_same (by rfl) h; simp [SOp.kind]
@[simp ↓] theorem one_iarr (P : Program) (d : Option Nat) (g0 : Option (Nat × Bool)) (b0 l0 : Bool) (E : Env) (H : AHeap) (K : Env → AHeap → Prop) (sz len : Nat) (x i : Opd) : rgnOne P ⟨d, .iarr sz len x i, g0, b0, l0⟩ E H K = EvK (.iarr sz len x i) E H fun r => K (E.put d r) H := by
  simp only [rgnOne, EvK, SOp.news, Bool.false_eq_true, if_false]
  cases h : evalS 0 (.iarr sz len x i) E H with
  | none => rfl
  | some p => obtain ⟨y, H'⟩ := p; obtain rfl := evK_same (by rfl) h; rfl
@[simp ↓] theorem det_iarr (P : Program) (Hs : List AHeap) (Ls : Seen) (d : Option Nat) (g0 : Option (Nat × Bool)) (b0 l0 : Bool) (E : Env) (H : AHeap) (K : Env → AHeap → List AHeap → Seen → Prop) (sz len : Nat) (x i : Opd) : rgnDet P Hs Ls ⟨d, .iarr sz len x i, g0, b0, l0⟩ E H K = EvK (.iarr sz len x i) E H fun r => K (E.put d r) H Hs Ls := by
  simp only [rgnDet, EvK]
  cases h : evalS 0 (.iarr sz len x i) E H with
  | none => rfl
  | some p => obtain ⟨y, H'⟩ := p; obtain rfl := evK_same (by rfl) h; simp [SOp.kind]
@[simp ↓] theorem one_idx (P : Program) (d : Option Nat) (g0 : Option (Nat × Bool)) (b0 l0 : Bool) (E : Env) (H : AHeap) (K : Env → AHeap → Prop) (x i : Opd) : rgnOne P ⟨d, .idx x i, g0, b0, l0⟩ E H K = EvK (.idx x i) E H fun r => K (E.put d r) H := by
  simp only [rgnOne, EvK, SOp.news, Bool.false_eq_true, if_false]
  cases h : evalS 0 (.idx x i) E H with
  | none => rfl
  | some p => obtain ⟨y, H'⟩ := p; obtain rfl := evK_same (by rfl) h; rfl
@[simp ↓] theorem det_idx (P : Program) (Hs : List AHeap) (Ls : Seen) (d : Option Nat) (g0 : Option (Nat × Bool)) (b0 l0 : Bool) (E : Env) (H : AHeap) (K : Env → AHeap → List AHeap → Seen → Prop) (x i : Opd) : rgnDet P Hs Ls ⟨d, .idx x i, g0, b0, l0⟩ E H K = EvK (.idx x i) E H fun r => K (E.put d r) H Hs Ls := by
  simp only [rgnDet, EvK]
  cases h : evalS 0 (.idx x i) E H with
  | none => rfl
  | some p => obtain ⟨y, H'⟩ := p; obtain rfl := evK_same (by rfl) h; simp [SOp.kind]
@[simp ↓] theorem one_aidx (P : Program) (d : Option Nat) (g0 : Option (Nat × Bool)) (b0 l0 : Bool) (E : Env) (H : AHeap) (K : Env → AHeap → Prop) (ag : Bool) (n len : Nat) (x i : Opd) : rgnOne P ⟨d, .aidx ag n len x i, g0, b0, l0⟩ E H K = EvK (.aidx ag n len x i) E H fun r => K (E.put d r) H := by
  simp only [rgnOne, EvK, SOp.news, Bool.false_eq_true, if_false]
  cases h : evalS 0 (.aidx ag n len x i) E H with
  | none => rfl
  | some p => obtain ⟨y, H'⟩ := p; obtain rfl := evK_same (by rfl) h; rfl
@[simp ↓] theorem det_aidx (P : Program) (Hs : List AHeap) (Ls : Seen) (d : Option Nat) (g0 : Option (Nat × Bool)) (b0 l0 : Bool) (E : Env) (H : AHeap) (K : Env → AHeap → List AHeap → Seen → Prop) (ag : Bool) (n len : Nat) (x i : Opd) : rgnDet P Hs Ls ⟨d, .aidx ag n len x i, g0, b0, l0⟩ E H K = EvK (.aidx ag n len x i) E H fun r => K (E.put d r) H Hs Ls := by
  simp only [rgnDet, EvK]
  cases h : evalS 0 (.aidx ag n len x i) E H with
  | none => rfl
  | some p => obtain ⟨y, H'⟩ := p; obtain rfl := evK_same (by rfl) h; simp [SOp.kind]
@[simp ↓] theorem one_ext (P : Program) (d : Option Nat) (g0 : Option (Nat × Bool)) (b0 l0 : Bool) (E : Env) (H : AHeap) (K : Env → AHeap → Prop) (x : Opd) (i : Nat) : rgnOne P ⟨d, .ext x i, g0, b0, l0⟩ E H K = EvK (.ext x i) E H fun r => K (E.put d r) H := by
  simp only [rgnOne, EvK, SOp.news, Bool.false_eq_true, if_false]
  cases h : evalS 0 (.ext x i) E H with
  | none => rfl
  | some p => obtain ⟨y, H'⟩ := p; obtain rfl := evK_same (by rfl) h; rfl
@[simp ↓] theorem det_ext (P : Program) (Hs : List AHeap) (Ls : Seen) (d : Option Nat) (g0 : Option (Nat × Bool)) (b0 l0 : Bool) (E : Env) (H : AHeap) (K : Env → AHeap → List AHeap → Seen → Prop) (x : Opd) (i : Nat) : rgnDet P Hs Ls ⟨d, .ext x i, g0, b0, l0⟩ E H K = EvK (.ext x i) E H fun r => K (E.put d r) H Hs Ls := by
  simp only [rgnDet, EvK]
  cases h : evalS 0 (.ext x i) E H with
  | none => rfl
  | some p => obtain ⟨y, H'⟩ := p; obtain rfl := evK_same (by rfl) h; simp [SOp.kind]
@[simp ↓] theorem one_len (P : Program) (d : Option Nat) (g0 : Option (Nat × Bool)) (b0 l0 : Bool) (E : Env) (H : AHeap) (K : Env → AHeap → Prop) (st : Bool) (x : Opd) : rgnOne P ⟨d, .len st x, g0, b0, l0⟩ E H K = EvK (.len st x) E H fun r => K (E.put d r) H := by
  simp only [rgnOne, EvK, SOp.news, Bool.false_eq_true, if_false]
  cases h : evalS 0 (.len st x) E H with
  | none => rfl
  | some p => obtain ⟨y, H'⟩ := p; obtain rfl := evK_same (by rfl) h; rfl
@[simp ↓] theorem det_len (P : Program) (Hs : List AHeap) (Ls : Seen) (d : Option Nat) (g0 : Option (Nat × Bool)) (b0 l0 : Bool) (E : Env) (H : AHeap) (K : Env → AHeap → List AHeap → Seen → Prop) (st : Bool) (x : Opd) : rgnDet P Hs Ls ⟨d, .len st x, g0, b0, l0⟩ E H K = EvK (.len st x) E H fun r => K (E.put d r) H Hs Ls := by
  simp only [rgnDet, EvK]
  cases h : evalS 0 (.len st x) E H with
  | none => rfl
  | some p => obtain ⟨y, H'⟩ := p; obtain rfl := evK_same (by rfl) h; simp [SOp.kind]
@[simp ↓] theorem one_appz (P : Program) (d : Option Nat) (g0 : Option (Nat × Bool)) (b0 l0 : Bool) (E : Env) (H : AHeap) (K : Env → AHeap → Prop) (sz bt : Nat) (x y : Opd) : rgnOne P ⟨d, .appz sz bt x y, g0, b0, l0⟩ E H K = EvK (.appz sz bt x y) E H fun r => K (E.put d r) H := by
  simp only [rgnOne, EvK, SOp.news, Bool.false_eq_true, if_false]
  cases h : evalS 0 (.appz sz bt x y) E H with
  | none => rfl
  | some p => obtain ⟨y, H'⟩ := p; obtain rfl := evK_same (by rfl) h; rfl
@[simp ↓] theorem det_appz (P : Program) (Hs : List AHeap) (Ls : Seen) (d : Option Nat) (g0 : Option (Nat × Bool)) (b0 l0 : Bool) (E : Env) (H : AHeap) (K : Env → AHeap → List AHeap → Seen → Prop) (sz bt : Nat) (x y : Opd) : rgnDet P Hs Ls ⟨d, .appz sz bt x y, g0, b0, l0⟩ E H K = EvK (.appz sz bt x y) E H fun r => K (E.put d r) H Hs Ls := by
  simp only [rgnDet, EvK]
  cases h : evalS 0 (.appz sz bt x y) E H with
  | none => rfl
  | some p => obtain ⟨y, H'⟩ := p; obtain rfl := evK_same (by rfl) h; simp [SOp.kind]
@[simp ↓] theorem one_mm (P : Program) (d : Option Nat) (g0 : Option (Nat × Bool)) (b0 l0 : Bool) (E : Env) (H : AHeap) (K : Env → AHeap → Prop) (mx : Bool) (x y : Opd) : rgnOne P ⟨d, .mm mx x y, g0, b0, l0⟩ E H K = EvK (.mm mx x y) E H fun r => K (E.put d r) H := by
  simp only [rgnOne, EvK, SOp.news, Bool.false_eq_true, if_false]
  cases h : evalS 0 (.mm mx x y) E H with
  | none => rfl
  | some p => obtain ⟨y, H'⟩ := p; obtain rfl := evK_same (by rfl) h; rfl
@[simp ↓] theorem det_mm (P : Program) (Hs : List AHeap) (Ls : Seen) (d : Option Nat) (g0 : Option (Nat × Bool)) (b0 l0 : Bool) (E : Env) (H : AHeap) (K : Env → AHeap → List AHeap → Seen → Prop) (mx : Bool) (x y : Opd) : rgnDet P Hs Ls ⟨d, .mm mx x y, g0, b0, l0⟩ E H K = EvK (.mm mx x y) E H fun r => K (E.put d r) H Hs Ls := by
  simp only [rgnDet, EvK]
  cases h : evalS 0 (.mm mx x y) E H with
  | none => rfl
  | some p => obtain ⟨y, H'⟩ := p; obtain rfl := evK_same (by rfl) h; simp [SOp.kind]
@[simp ↓] theorem one_pick (P : Program) (d : Option Nat) (g0 : Option (Nat × Bool)) (b0 l0 : Bool) (E : Env) (H : AHeap) (K : Env → AHeap → Prop) (c a b : Opd) : rgnOne P ⟨d, .pick c a b, g0, b0, l0⟩ E H K = EvK (.pick c a b) E H fun r => K (E.put d r) H := by
  simp only [rgnOne, EvK, SOp.news, Bool.false_eq_true, if_false]
  cases h : evalS 0 (.pick c a b) E H with
  | none => rfl
  | some p => obtain ⟨y, H'⟩ := p; obtain rfl := evK_same (by rfl) h; rfl
@[simp ↓] theorem det_pick (P : Program) (Hs : List AHeap) (Ls : Seen) (d : Option Nat) (g0 : Option (Nat × Bool)) (b0 l0 : Bool) (E : Env) (H : AHeap) (K : Env → AHeap → List AHeap → Seen → Prop) (c a b : Opd) : rgnDet P Hs Ls ⟨d, .pick c a b, g0, b0, l0⟩ E H K = EvK (.pick c a b) E H fun r => K (E.put d r) H Hs Ls := by
  simp only [rgnDet, EvK]
  cases h : evalS 0 (.pick c a b) E H with
  | none => rfl
  | some p => obtain ⟨y, H'⟩ := p; obtain rfl := evK_same (by rfl) h; simp [SOp.kind]
@[simp ↓] theorem one_alloc (P : Program) (d : Option Nat) (g0 : Option (Nat × Bool)) (b0 l0 : Bool) (E : Env) (H : AHeap) (K : Env → AHeap → Prop) (z : List AV) : rgnOne P ⟨d, .alloc z, g0, b0, l0⟩ E H K = AllK fun g => K (E.put d (.ptr H.length g 0 0)) (H ++ [some (.rows g [z])]) := eqv rfl
@[simp ↓] theorem one_box (P : Program) (d : Option Nat) (g0 : Option (Nat × Bool)) (b0 l0 : Bool) (E : Env) (H : AHeap) (K : Env → AHeap → Prop) (x : Opd) : rgnOne P ⟨d, .box x, g0, b0, l0⟩ E H K = OptK (E.ev x) fun v => IfK v.okst (AllK fun g => K (E.put d (.ptr H.length g 0 0)) (H ++ [some (.rows g [v.cells])])) := by
  simp only [rgnOne, evalS, SOp.news, if_true, OptK, IfK, AllK]
  cases E.ev x with
  | none => simp
  | some v => by_cases h : v.okst = true
              · simp only [h, if_true, true_and]
              · simp only [h, if_false, false_and]; exact propext ⟨fun k => (k 0).elim, fun k => absurd k.1 (by simp)⟩
@[simp ↓] theorem one_store (P : Program) (d : Option Nat) (g0 : Option (Nat × Bool)) (b0 l0 : Bool) (E : Env) (H : AHeap) (K : Env → AHeap → Prop) (n : Nat) (p x : Opd) : rgnOne P ⟨d, .store n p x, g0, b0, l0⟩ E H K = OptK (E.ev p) fun a => OptK (E.ev x) fun v => OptK (stA n a v H) fun J => K (E.put d (.tup [])) J := by
  simp only [rgnOne, evalS, SOp.news, Bool.false_eq_true, if_false, OptK]
  cases E.ev p with
  | none => rfl
  | some a =>
    cases E.ev x with
    | none => rfl
    | some v => simp only; cases stA n a v H <;> rfl
@[simp ↓] theorem one_mkslice (P : Program) (d : Option Nat) (g0 : Option (Nat × Bool)) (b0 l0 : Bool) (E : Env) (H : AHeap) (K : Env → AHeap → Prop) (mu : Bool) (z : List AV) (by_ : Nat) (l c : Opd) : rgnOne P ⟨d, .mkslice mu z by_ l c, g0, b0, l0⟩ E H K = OptK (E.ev l) fun a => OptK (E.ev c) fun b => AllK fun g => OptK (mkA g mu z by_ a b H) fun r => K (E.put d r.1) r.2 := by
  simp only [rgnOne, evalS, SOp.news, if_true, OptK, AllK]
  cases E.ev l with
  | none => simp
  | some a =>
    cases E.ev c with
    | none => simp
    | some b => refine propext (forall_congr' fun g => ?_); simp only; split <;> simp_all
@[simp ↓] theorem one_app (P : Program) (d : Option Nat) (g0 : Option (Nat × Bool)) (b0 l0 : Bool) (E : Env) (H : AHeap) (K : Env → AHeap → Prop) (mu : Bool) (sz by_ : Nat) (s x : Opd) : rgnOne P ⟨d, .app mu sz by_ s x, g0, b0, l0⟩ E H K = OptK (E.ev s) fun a => OptK (E.ev x) fun b => AllK fun g => OptK (apA g mu sz by_ a b H) fun r => K (E.put d r.1) r.2 := by
  simp only [rgnOne, evalS, SOp.news, if_true, OptK, AllK]
  cases E.ev s with
  | none => simp
  | some a =>
    cases E.ev x with
    | none => simp
    | some b => refine propext (forall_congr' fun g => ?_); simp only; split <;> simp_all
@[simp ↓] theorem one_call (P : Program) (d : Option Nat) (g0 : Option (Nat × Bool)) (b0 l0 : Bool) (E : Env) (H : AHeap) (K : Env → AHeap → Prop) (f : Nat) (xs : List Opd) : rgnOne P ⟨d, .call f xs, g0, b0, l0⟩ E H K = OptK (E.evs xs) fun l => CallK P f l H fun r J => K (E.put d r) J := by
  simp only [rgnOne, OptK, CallK]; cases E.evs xs <;> rfl
def FnK (x : AV) (f : Nat → List AV → List AV → Prop) : Prop := match x with
  | .fn (.func n) a b => f n a b
  | _ => False
@[congr] theorem FnK_congr {x y : AV} {f : Nat → List AV → List AV → Prop} {du : Nat} (_d : dumA = du) (h : x = y) : FnK x f = FnK y f := by rw [h]
@[simp ↓] theorem FnK_fn (n : Nat) (a b : List AV) (f : Nat → List AV → List AV → Prop) : FnK (.fn (.func n) a b) f = f n a b := eqv rfl
@[simp ↓] theorem one_callv (P : Program) (d : Option Nat) (g0 : Option (Nat × Bool)) (b0 l0 : Bool) (E : Env) (H : AHeap) (K : Env → AHeap → Prop) (y : Opd) (xs : List Opd) : rgnOne P ⟨d, .callv y xs, g0, b0, l0⟩ E H K = OptK (E.ev y) fun v => OptK (E.evs xs) fun l => FnK v fun n a b => fnOk P n = true ∧ CallK P n (a ++ l ++ b) H fun r J => K (E.put d r) J := by
  simp only [rgnOne, OptK, CallK, FnK]
  cases E.ev y with
  | none => rfl
  | some v =>
    cases E.evs xs with
    | none => cases v <;> try rfl
              rename_i fn _ _; cases fn <;> rfl
    | some l => cases v <;> try rfl
                rename_i fn _ _; cases fn <;> rfl
@[simp ↓] theorem det_store (P : Program) (Hs : List AHeap) (Ls : Seen) (d : Option Nat) (g0 : Option (Nat × Bool)) (b0 l0 : Bool) (E : Env) (H : AHeap) (K : Env → AHeap → List AHeap → Seen → Prop) (n : Nat) (p x : Opd) : rgnDet P Hs Ls ⟨d, .store n p x, g0, b0, l0⟩ E H K = OptK (E.ev p) fun a => OptK (E.ev x) fun v => OptK (stA n a v H) fun J => (∀ l ∈ Ls, evalS 0 l.1.op l.2.1 J = some (l.2.2, J)) ∧ K (E.put d (.tup [])) J (J :: Hs) Ls := by
  simp only [rgnDet, evalS, OptK]
  cases E.ev p with
  | none => rfl
  | some a =>
    cases E.ev x with
    | none => rfl
    | some v => simp only; cases stA n a v H <;> simp [SOp.kind]
@[simp ↓] theorem det_call (P : Program) (Hs : List AHeap) (Ls : Seen) (d : Option Nat) (g0 : Option (Nat × Bool)) (b0 l0 : Bool) (E : Env) (H : AHeap) (K : Env → AHeap → List AHeap → Seen → Prop) (f : Nat) (xs : List Opd) : rgnDet P Hs Ls ⟨d, .call f xs, g0, b0, l0⟩ E H K = OptK (E.evs xs) fun l => PCallK P f l fun r => K (E.put d r) H Hs Ls := by
  simp only [rgnDet, OptK, PCallK]; cases E.evs xs <;> rfl
@[simp ↓] theorem det_callv (P : Program) (Hs : List AHeap) (Ls : Seen) (d : Option Nat) (g0 : Option (Nat × Bool)) (b0 l0 : Bool) (E : Env) (H : AHeap) (K : Env → AHeap → List AHeap → Seen → Prop) (y : Opd) (xs : List Opd) : rgnDet P Hs Ls ⟨d, .callv y xs, g0, b0, l0⟩ E H K = OptK (E.ev y) fun v => OptK (E.evs xs) fun l => FnK v fun n a b => fnOk P n = true ∧ PCallK P n (a ++ l ++ b) fun r => K (E.put d r) H Hs Ls := by
  simp only [rgnDet, OptK, PCallK, FnK]
  cases E.ev y with
  | none => rfl
  | some v =>
    cases E.evs xs with
    | none => cases v <;> try rfl
              rename_i fn _ _; cases fn <;> rfl
    | some l => cases v <;> try rfl
                rename_i fn _ _; cases fn <;> simp

/-! Regions. -/
def RgnK (P : Program) (os : List SOper) (K : Env → AHeap → Prop) (E : Env) (H : AHeap) : Prop := rgn P os E H K
@[simp ↓] theorem RgnK_put (P : Program) (os : List SOper) (K : Env → AHeap → Prop) (d : Nat) (v : AV) (E : Env) (H : AHeap) : RgnK P os K (E.put (some d) v) H = rgn P os ((d, v) :: E) H K := eqv rfl
@[simp ↓] theorem RgnK_put0 (P : Program) (os : List SOper) (K : Env → AHeap → Prop) (v : AV) (E : Env) (H : AHeap) : RgnK P os K (E.put none v) H = rgn P os E H K := eqv rfl
@[simp ↓ low] theorem RgnK_any (P : Program) (os : List SOper) (K : Env → AHeap → Prop) (E : Env) (H : AHeap) : RgnK P os K E H = rgn P os E H K := eqv rfl
@[simp ↓] theorem rgn_nil (P : Program) (E : Env) (H : AHeap) (K : Env → AHeap → Prop) : rgn P [] E H K = K E H := eqv rfl
def GuardK (x : Option AV) (w : Bool) (A B C : Prop) : Prop := match x with
  | some (.bool b) => (b = w → A) ∧ (b = (!w) → B)
  | some (.tup _) => C
  | _ => False
@[congr] theorem GuardK_congr {x y : Option AV} {w : Bool} {A B C : Prop} {du : Nat} (_d : dumA = du) (h : x = y) : GuardK x w A B C = GuardK y w A B C := by rw [h]
@[simp ↓ high] theorem GuardK_tt (A B C : Prop) : GuardK (some (.bool true)) true A B C = A := by simp [GuardK]
@[simp ↓ high] theorem GuardK_ff (A B C : Prop) : GuardK (some (.bool false)) false A B C = A := by simp [GuardK]
@[simp ↓ high] theorem GuardK_tf (A B C : Prop) : GuardK (some (.bool true)) false A B C = B := by simp [GuardK]
@[simp ↓ high] theorem GuardK_ft (A B C : Prop) : GuardK (some (.bool false)) true A B C = B := by simp [GuardK]
@[simp ↓] theorem GuardK_tup (l : List AV) (w : Bool) (A B C : Prop) : GuardK (some (.tup l)) w A B C = C := eqv rfl
@[simp ↓] theorem GuardK_any (b w : Bool) (A B C : Prop) : GuardK (some (.bool b)) w A B C = ((b = w → A) ∧ (b = (!w) → B)) := eqv rfl
@[simp ↓] theorem rgn_cons (P : Program) (d : Option Nat) (s : SOp) (b0 l0 : Bool) (os : List SOper) (E : Env) (H : AHeap) (K : Env → AHeap → Prop) : rgn P (⟨d, s, none, b0, l0⟩ :: os) E H K = rgnOne P ⟨d, s, none, b0, l0⟩ E H (RgnK P os K) := eqv rfl
@[simp ↓] theorem rgn_consG (P : Program) (d : Option Nat) (s : SOp) (t : Nat) (w : Bool) (b0 l0 : Bool) (os : List SOper) (E : Env) (H : AHeap) (K : Env → AHeap → Prop) : rgn P (⟨d, s, some (t, w), b0, l0⟩ :: os) E H K =
    GuardK (E.get t) w (rgnOne P ⟨d, s, some (t, w), b0, l0⟩ ((t, .bool w) :: E) H (RgnK P os K)) (RgnK P os K (Env.put ((t, .bool (!w)) :: E) d (.tup [])) H) (RgnK P os K (Env.put E d (.tup [])) H) := by
  simp only [rgn, rgnGuard, GuardK, RgnK]
  cases E.get t with
  | none => rfl
  | some v => cases v <;> rfl
def RgnDK (P : Program) (os : List SOper) (K : Env → AHeap → Prop) (E : Env) (H : AHeap) (Hs : List AHeap) (Ls : Seen) : Prop := rgnD P Hs Ls os E H K
@[simp ↓] theorem RgnDK_put (P : Program) (os : List SOper) (K : Env → AHeap → Prop) (d : Nat) (v : AV) (E : Env) (H : AHeap) (Hs : List AHeap) (Ls : Seen) : RgnDK P os K (E.put (some d) v) H Hs Ls = rgnD P Hs Ls os ((d, v) :: E) H K := eqv rfl
@[simp ↓] theorem RgnDK_put0 (P : Program) (os : List SOper) (K : Env → AHeap → Prop) (v : AV) (E : Env) (H : AHeap) (Hs : List AHeap) (Ls : Seen) : RgnDK P os K (E.put none v) H Hs Ls = rgnD P Hs Ls os E H K := eqv rfl
@[simp ↓ low] theorem RgnDK_any (P : Program) (os : List SOper) (K : Env → AHeap → Prop) (E : Env) (H : AHeap) (Hs : List AHeap) (Ls : Seen) : RgnDK P os K E H Hs Ls = rgnD P Hs Ls os E H K := eqv rfl
@[simp ↓] theorem rgnD_nil (P : Program) (Hs : List AHeap) (Ls : Seen) (E : Env) (H : AHeap) (K : Env → AHeap → Prop) : rgnD P Hs Ls [] E H K = K E H := eqv rfl
@[simp ↓] theorem rgnD_cons (P : Program) (Hs : List AHeap) (Ls : Seen) (d : Option Nat) (s : SOp) (l0 : Bool) (os : List SOper) (E : Env) (H : AHeap) (K : Env → AHeap → Prop) : rgnD P Hs Ls (⟨d, s, none, false, l0⟩ :: os) E H K = rgnDet P Hs Ls ⟨d, s, none, false, l0⟩ E H (RgnDK P os K) := eqv rfl
def BarK (P : Program) (os : List SOper) (K : Env → AHeap → Prop) (E : Env) (H : AHeap) : Prop := rgnD P [H] [] os E H K
@[simp ↓] theorem BarK_put (P : Program) (os : List SOper) (K : Env → AHeap → Prop) (d : Nat) (v : AV) (E : Env) (H : AHeap) : BarK P os K (E.put (some d) v) H = rgnD P [H] [] os ((d, v) :: E) H K := eqv rfl
@[simp ↓] theorem BarK_put0 (P : Program) (os : List SOper) (K : Env → AHeap → Prop) (v : AV) (E : Env) (H : AHeap) : BarK P os K (E.put none v) H = rgnD P [H] [] os E H K := eqv rfl
@[simp ↓ low] theorem BarK_any (P : Program) (os : List SOper) (K : Env → AHeap → Prop) (E : Env) (H : AHeap) : BarK P os K E H = rgnD P [H] [] os E H K := eqv rfl
@[simp ↓] theorem rgnD_bar (P : Program) (Hs : List AHeap) (Ls : Seen) (d : Option Nat) (s : SOp) (l0 : Bool) (os : List SOper) (E : Env) (H : AHeap) (K : Env → AHeap → Prop) : rgnD P Hs Ls (⟨d, s, none, true, l0⟩ :: os) E H K = rgnOne P ⟨d, s, none, true, l0⟩ E H (BarK P os K) := eqv rfl
@[simp ↓] theorem rgnD_consG (P : Program) (Hs : List AHeap) (Ls : Seen) (d : Option Nat) (s : SOp) (t : Nat) (w : Bool) (l0 : Bool) (os : List SOper) (E : Env) (H : AHeap) (K : Env → AHeap → Prop) : rgnD P Hs Ls (⟨d, s, some (t, w), false, l0⟩ :: os) E H K =
    GuardK (E.get t) w (rgnDet P Hs Ls ⟨d, s, some (t, w), false, l0⟩ ((t, .bool w) :: E) H (RgnDK P os K)) (RgnDK P os K (Env.put ((t, .bool (!w)) :: E) d (.tup [])) H Hs Ls) (RgnDK P os K (Env.put E d (.tup [])) H Hs Ls) := by
  simp only [rgnD, GuardK, RgnDK, Bool.false_eq_true, if_false]
  cases E.get t with
  | none => rfl
  | some v => cases v <;> rfl
@[simp ↓] theorem rgnD_barG (P : Program) (Hs : List AHeap) (Ls : Seen) (d : Option Nat) (s : SOp) (t : Nat) (w : Bool) (l0 : Bool) (os : List SOper) (E : Env) (H : AHeap) (K : Env → AHeap → Prop) : rgnD P Hs Ls (⟨d, s, some (t, w), true, l0⟩ :: os) E H K =
    GuardK (E.get t) w (rgnOne P ⟨d, s, some (t, w), true, l0⟩ ((t, .bool w) :: E) H (BarK P os K)) (BarK P os K (Env.put ((t, .bool (!w)) :: E) d (.tup [])) H) (BarK P os K (Env.put E d (.tup [])) H) := by
  simp only [rgnD, rgnGuard, GuardK, BarK, if_true]
  cases E.get t with
  | none => rfl
  | some v => cases v <;> rfl

/-! Code. -/
def SwK (P : Program) (N : Nat) (s : SCode) (Q : APost) (E : Env) (D : List ADef) (H : AHeap) : Prop := sw P N s Q E D H
@[simp ↓] theorem SwK_put (P : Program) (N : Nat) (s : SCode) (Q : APost) (d : Nat) (v : AV) (E : Env) (D : List ADef) (H : AHeap) : SwK P N s Q (E.put (some d) v) D H = sw P N s Q ((d, v) :: E) D H := eqv rfl
@[simp ↓] theorem SwK_put0 (P : Program) (N : Nat) (s : SCode) (Q : APost) (v : AV) (E : Env) (D : List ADef) (H : AHeap) : SwK P N s Q (E.put none v) D H = sw P N s Q E D H := eqv rfl
@[simp ↓ low] theorem SwK_any (P : Program) (N : Nat) (s : SCode) (Q : APost) (E : Env) (D : List ADef) (H : AHeap) : SwK P N s Q E D H = sw P N s Q E D H := eqv rfl
@[simp ↓] theorem sw_skip (P : Program) (N : Nat) (Q : APost) (E : Env) (D : List ADef) (H : AHeap) : sw P N .skip Q E D H = Q .normal E D H := eqv rfl
@[simp ↓] theorem sw_ret (P : Program) (N : Nat) (Q : APost) (E : Env) (D : List ADef) (H : AHeap) : sw P N .ret Q E D H = Q .ret E D H := eqv rfl
@[simp ↓] theorem sw_exit (P : Program) (N : Nat) (id : Nat) (Q : APost) (E : Env) (D : List ADef) (H : AHeap) : sw P N (.exit id) Q E D H = Q (.exit id) E D H := eqv rfl
@[simp ↓] theorem sw_seq (P : Program) (N : Nat) (a b : SCode) (Q : APost) (E : Env) (D : List ADef) (H : AHeap) : sw P N (.seq a b) Q E D H = sw P N a (AThen (SwK P N b Q) Q) E D H := eqv rfl
@[simp ↓] theorem sw_cond (P : Program) (N : Nat) (c : Opd) (t e : SCode) (Q : APost) (E : Env) (D : List ADef) (H : AHeap) : sw P N (.cond c t e) Q E D H = BoolK (E.ev c) (sw P N t Q E D H) (sw P N e Q E D H) := by
  simp only [sw, BoolK]
  cases E.ev c with
  | none => rfl
  | some v => cases v <;> rfl
@[simp ↓] theorem sw_block (P : Program) (N : Nat) (id : Nat) (c : SCode) (Q : APost) (E : Env) (D : List ADef) (H : AHeap) : sw P N (.block id c) Q E D H = sw P N c (AInBlock id Q) E D H := eqv rfl
def LoopK (P : Program) (N : Nat) (c : SCode) (Q : APost) (E : Env) (D : List ADef) (H : AHeap) : Prop := SWp P N (.loop c) Q E D H
@[congr] theorem LoopK_congr {P : Program} {N : Nat} {c : SCode} {Q : APost} {E : Env} {D : List ADef} {H J : AHeap} {du : Nat} (_d : dumA = du) (h : H = J) : LoopK P N c Q E D H = LoopK P N c Q E D J := by rw [h]
@[simp ↓] theorem sw_loop (P : Program) (N : Nat) (c : SCode) (Q : APost) (E : Env) (D : List ADef) (H : AHeap) : sw P N (.loop c) Q E D H = LoopK P N c Q E D H := eqv rfl
def CutK (P : Program) (N : Nat) (c : SCode) (Q : APost) (E : Env) (D : List ADef) (H : AHeap) : Prop := SWp P N c Q E D H
@[congr] theorem CutK_congr {P : Program} {N : Nat} {c : SCode} {Q : APost} {E : Env} {D : List ADef} {H J : AHeap} {du : Nat} (_d : dumA = du) (h : H = J) : CutK P N c Q E D H = CutK P N c Q E D J := by rw [h]
@[simp ↓] theorem sw_cut (P : Program) (N : Nat) (c : SCode) (Q : APost) (E : Env) (D : List ADef) (H : AHeap) : sw P N (.cut c) Q E D H = CutK P N c Q E D H := eqv rfl
theorem CutK.of {P : Program} {N : Nat} {c : SCode} {Q : APost} {E : Env} {D : List ADef} {H : AHeap} (h : sw P N c Q E D H) : CutK P N c Q E D H := sw_sound h
theorem CutK.shift {P : Program} {N : Nat} {c : SCode} {Q : APost} {E E' : Env} {D D' : List ADef} {H H' : AHeap} (s : Shift E D H E' D' H') (h : sw P N c Q E' D' H') : CutK P N c Q E D H := SWp.shift s (sw_sound h)
@[simp ↓] theorem sw_region (P : Program) (N : Nat) (ops : List SOper) (Q : APost) (E : Env) (D : List ADef) (H : AHeap) : sw P N (.region false ops) Q E D H = rgn P ops E H fun E' H' => Q .normal E' D H' := eqv rfl
@[simp ↓] theorem sw_regionD (P : Program) (N : Nat) (ops : List SOper) (Q : APost) (E : Env) (D : List ADef) (H : AHeap) : sw P N (.region true ops) Q E D H = rgnD P [H] [] ops E H fun E' H' => Q .normal E' D H' := eqv rfl
@[simp ↓] theorem AThen_normal (M : Env → List ADef → AHeap → Prop) (Q : APost) (E : Env) (D : List ADef) (H : AHeap) : AThen M Q .normal E D H = M E D H := eqv rfl
@[simp ↓] theorem AThen_exit (M : Env → List ADef → AHeap → Prop) (Q : APost) (id : Nat) (E : Env) (D : List ADef) (H : AHeap) : AThen M Q (.exit id) E D H = Q (.exit id) E D H := eqv rfl
@[simp ↓] theorem AThen_ret (M : Env → List ADef → AHeap → Prop) (Q : APost) (E : Env) (D : List ADef) (H : AHeap) : AThen M Q .ret E D H = Q .ret E D H := eqv rfl
@[simp ↓] theorem AInBlock_normal (id : Nat) (Q : APost) (E : Env) (D : List ADef) (H : AHeap) : AInBlock id Q .normal E D H = Q .normal E D H := eqv rfl
@[simp ↓ high] theorem AInBlock_same (id : Nat) (Q : APost) (E : Env) (D : List ADef) (H : AHeap) : AInBlock id Q (.exit id) E D H = Q .normal E D H := eqv (if_pos rfl)
@[simp ↓] theorem AInBlock_exit (id id' : Nat) (Q : APost) (E : Env) (D : List ADef) (H : AHeap) : AInBlock id Q (.exit id') E D H = if id' = id then Q .normal E D H else Q (.exit id') E D H := eqv rfl
@[simp ↓] theorem AInBlock_ret (id : Nat) (Q : APost) (E : Env) (D : List ADef) (H : AHeap) : AInBlock id Q .ret E D H = Q .ret E D H := eqv rfl
@[simp ↓] theorem RetQ_ret (rs : List SRes) (Q : AV → AHeap → Prop) (E : Env) (D : List ADef) (H : AHeap) : RetQ rs Q .ret E D H = (D = [] ∧ OptK (evRes E H rs) fun l => Q (oneOf l) H) := by simp only [RetQ, OptK]; cases evRes E H rs <;> rfl
@[simp ↓] theorem RetQ_normal (rs : List SRes) (Q : AV → AHeap → Prop) (E : Env) (D : List ADef) (H : AHeap) : RetQ rs Q .normal E D H = (D = [] ∧ OptK (evRes E H rs) fun l => Q (oneOf l) H) := by simp only [RetQ, OptK]; cases evRes E H rs <;> rfl
@[simp ↓] theorem evRes_nil (E : Env) (H : AHeap) : evRes E H [] = some [] := eqv rfl
@[simp ↓] theorem evRes_t (E : Env) (H : AHeap) (n : Nat) (r : List SRes) : evRes E H (.t n :: r) = consO (E.get n) (evRes E H r) := by simp only [evRes, consO]; cases E.get n <;> cases evRes E H r <;> rfl
@[simp ↓] theorem evRes_cell (E : Env) (H : AHeap) (n k : Nat) (agg : Bool) (r : List SRes) : evRes E H (.cell n agg k :: r) = consO ((E.get n).bind fun p => ldA agg k p H) (evRes E H r) := by
  simp only [evRes, consO]
  cases E.get n with
  | none => rfl
  | some p => simp only [Option.bind_some]; cases ldA agg k p H <;> cases evRes E H r <;> rfl
@[simp] theorem oneOf_one (x : AV) : oneOf [x] = x := eqv rfl
@[simp] theorem oneOf_two (x y : AV) (l : List AV) : oneOf (x :: y :: l) = .tup (x :: y :: l) := eqv rfl
@[simp] theorem argEnv_nil (k : Nat) : argEnv k [] = [] := eqv rfl
@[simp] theorem argEnv_cons (k : Nat) (x : AV) (r : List AV) : argEnv k (x :: r) = (k, x) :: argEnv (k + 1) r := eqv rfl
@[simp] theorem cells_int (k : IntKind) (n : Int) : AV.cells (.int k n) = [.int k n] := eqv rfl
@[simp] theorem okst_int (k : IntKind) (n : Int) : AV.okst (.int k n) = true := eqv rfl
@[simp] theorem single_int (k : IntKind) (n : Int) : AV.single (.int k n) = true := eqv rfl
@[simp] theorem isStrA_int (k : IntKind) (n : Int) : isStrA (.int k n) = false := eqv rfl
@[simp] theorem cells_bool (b : Bool) : AV.cells (.bool b) = [.bool b] := eqv rfl
@[simp] theorem okst_bool (b : Bool) : AV.okst (.bool b) = true := eqv rfl
@[simp] theorem single_bool (b : Bool) : AV.single (.bool b) = true := eqv rfl
@[simp] theorem isStrA_bool (b : Bool) : isStrA (.bool b) = false := eqv rfl
@[simp] theorem cells_str (s : ByteArray) : AV.cells (.str s) = [.str s] := eqv rfl
@[simp] theorem okst_str (s : ByteArray) : AV.okst (.str s) = true := eqv rfl
@[simp] theorem single_str (s : ByteArray) : AV.single (.str s) = true := eqv rfl
@[simp] theorem isStrA_str (s : ByteArray) : isStrA (.str s) = true := eqv rfl
@[simp] theorem cells_nilp  : AV.cells (.nilp) = [.nilp] := eqv rfl
@[simp] theorem okst_nilp  : AV.okst (.nilp) = true := eqv rfl
@[simp] theorem single_nilp  : AV.single (.nilp) = true := eqv rfl
@[simp] theorem isStrA_nilp  : isStrA (.nilp) = false := eqv rfl
@[simp] theorem cells_nilfn  : AV.cells (.nilfn) = [.nilfn] := eqv rfl
@[simp] theorem okst_nilfn  : AV.okst (.nilfn) = true := eqv rfl
@[simp] theorem single_nilfn  : AV.single (.nilfn) = true := eqv rfl
@[simp] theorem isStrA_nilfn  : isStrA (.nilfn) = false := eqv rfl
@[simp] theorem cells_sl (o : Own) (r : List (List AV)) : AV.cells (.sl o r) = [.sl o r] := eqv rfl
@[simp] theorem okst_sl (o : Own) (r : List (List AV)) : AV.okst (.sl o r) = true := eqv rfl
@[simp] theorem single_sl (o : Own) (r : List (List AV)) : AV.single (.sl o r) = true := eqv rfl
@[simp] theorem isStrA_sl (o : Own) (r : List (List AV)) : isStrA (.sl o r) = false := eqv rfl
@[simp] theorem cells_osl (b g r n sz : Nat) : AV.cells (.osl b g r n sz) = [.osl b g r n sz] := eqv rfl
@[simp] theorem okst_osl (b g r n sz : Nat) : AV.okst (.osl b g r n sz) = true := eqv rfl
@[simp] theorem single_osl (b g r n sz : Nat) : AV.single (.osl b g r n sz) = true := eqv rfl
@[simp] theorem isStrA_osl (b g r n sz : Nat) : isStrA (.osl b g r n sz) = false := eqv rfl
@[simp] theorem cells_ptr (b g r o : Nat) : AV.cells (.ptr b g r o) = [.ptr b g r o] := eqv rfl
@[simp] theorem okst_ptr (b g r o : Nat) : AV.okst (.ptr b g r o) = true := eqv rfl
@[simp] theorem single_ptr (b g r o : Nat) : AV.single (.ptr b g r o) = true := eqv rfl
@[simp] theorem isStrA_ptr (b g r o : Nat) : isStrA (.ptr b g r o) = false := eqv rfl
@[simp] theorem cells_rptr (c : List AV) (o : Nat) : AV.cells (.rptr c o) = [.rptr c o] := eqv rfl
@[simp] theorem okst_rptr (c : List AV) (o : Nat) : AV.okst (.rptr c o) = true := eqv rfl
@[simp] theorem single_rptr (c : List AV) (o : Nat) : AV.single (.rptr c o) = true := eqv rfl
@[simp] theorem isStrA_rptr (c : List AV) (o : Nat) : isStrA (.rptr c o) = false := eqv rfl
@[simp] theorem cells_fn (f : Fn) (a b : List AV) : AV.cells (.fn f a b) = [.fn f a b] := eqv rfl
@[simp] theorem okst_fn (f : Fn) (a b : List AV) : AV.okst (.fn f a b) = true := eqv rfl
@[simp] theorem single_fn (f : Fn) (a b : List AV) : AV.single (.fn f a b) = true := eqv rfl
@[simp] theorem isStrA_fn (f : Fn) (a b : List AV) : isStrA (.fn f a b) = false := eqv rfl
@[simp] theorem cells_agg (c : List AV) : AV.cells (.agg c) = c := eqv rfl
@[simp] theorem okst_agg (c : List AV) : AV.okst (.agg c) = true := eqv rfl
@[simp] theorem single_agg (c : List AV) : AV.single (.agg c) = false := eqv rfl
@[simp] theorem extS_tup (vs : List AV) (i : Nat) : extS (.tup vs) i = vs[i]? := eqv rfl
@[simp] theorem bnd_none (d : Nat) : bnd none d = some d := eqv rfl
@[simp] theorem bnd_int (k : IntKind) (n : Int) (d : Nat) : bnd (some (.int k n)) d = if 0 ≤ n then some n.toNat else none := eqv rfl
@[simp] theorem fillA_nil (c : List AV) : fillA c [] = some c := eqv (by cases c <;> rfl)
@[simp] theorem fillA_cons (c : List AV) (o s : Nat) (x : AV) (r : List (Nat × Nat × AV)) : fillA c ((o, s, x) :: r) = if x.cells.length = s ∧ o + s ≤ c.length ∧ x.okst = true then fillA (wrRow c o x.cells) r else none := eqv (by cases c <;> rfl)
@[simp] theorem bsR_eq (sz : Nat) (xs : List AV) : bsR sz xs = if xs.all (fun x => x.okst && (x.cells.length == sz)) = true then some (xs.map AV.cells) else none := eqv rfl
def ldO (ag : Bool) (n o : Nat) (x : Option (List AV)) : Option AV := match x with | some row => ldRow ag n row o | none => none
def ldB (ag : Bool) (n g r o : Nat) (x : Option (Option Blk)) : Option AV := match x with
  | some (some (.rows g' rs)) => if g' = g then ldO ag n o rs[r]? else none
  | _ => none
@[simp] theorem ldRow_one (n : Nat) (row : List AV) (o : Nat) : ldRow false n row o = row[o]? := eqv rfl
@[simp] theorem ldRow_ag (n : Nat) (row : List AV) (o : Nat) : ldRow true n row o = if o = 0 ∧ n = row.length then some (.agg row) else if o + n ≤ row.length then some (.agg ((row.drop o).take n)) else none := eqv rfl
@[simp] theorem ldO_some (ag : Bool) (n o : Nat) (row : List AV) : ldO ag n o (some row) = ldRow ag n row o := eqv rfl
@[simp] theorem ldB_rows (ag : Bool) (n g r o : Nat) (rs : List (List AV)) : ldB ag n g r o (some (some (.rows g rs))) = ldO ag n o rs[r]? := by simp [ldB]
@[simp] theorem ldA_rptr (ag : Bool) (n : Nat) (cells : List AV) (o : Nat) (H : AHeap) : ldA ag n (.rptr cells o) H = ldRow ag n cells o := eqv rfl
@[simp] theorem ldA_ptr (ag : Bool) (n b g r o : Nat) (H : AHeap) : ldA ag n (.ptr b g r o) H = ldB ag n g r o H[b]? := eqv rfl
def stO (n o : Nat) (x : AV) (f : List AV → AHeap) (y : Option (List AV)) : Option AHeap := match y with
  | some row => if x.cells.length = n ∧ o + n ≤ row.length ∧ x.okst = true then some (f (wrRow row o x.cells)) else none
  | none => none
def stB (n b g r o : Nat) (x : AV) (H : AHeap) (y : Option (Option Blk)) : Option AHeap := match y with
  | some (some (.rows g' rs)) => if g' = g then stO n o x (fun row => H.set b (some (.rows g' (rs.set r row)))) rs[r]? else none
  | _ => none
@[simp] theorem stO_some (n o : Nat) (x : AV) (f : List AV → AHeap) (row : List AV) : stO n o x f (some row) = if x.cells.length = n ∧ o + n ≤ row.length ∧ x.okst = true then some (f (wrRow row o x.cells)) else none := eqv rfl
@[simp] theorem stB_rows (n b g r o : Nat) (x : AV) (H : AHeap) (rs : List (List AV)) : stB n b g r o x H (some (some (.rows g rs))) = stO n o x (fun row => H.set b (some (.rows g (rs.set r row)))) rs[r]? := by simp [stB]
@[simp] theorem stA_ptr (n b g r o : Nat) (x : AV) (H : AHeap) : stA n (.ptr b g r o) x H = stB n b g r o x H H[b]? := eqv rfl
@[simp] theorem wrRow_eq' (row : List AV) (o : Nat) (cs : List AV) : wrRow row o cs = if o = 0 ∧ cs.length = row.length then cs else row.take o ++ cs ++ row.drop (o + cs.length) := eqv rfl
@[simp] theorem faA_ptr (off b g r o : Nat) : faA off (.ptr b g r o) = some (.ptr b g r (o + off)) := eqv rfl
@[simp] theorem faA_rptr (off : Nat) (cells : List AV) (o : Nat) : faA off (.rptr cells o) = some (.rptr cells (o + off)) := eqv rfl
@[simp] theorem fldA_agg (ag : Bool) (n off : Nat) (cells : List AV) : fldA ag n off (.agg cells) = ldRow ag n cells off := eqv rfl
def iaO (sz : Nat) (x : Option (List AV)) : Option AV := match x with | some row => if row.length = sz then some (.rptr row 0) else none | none => none
@[simp] theorem iaO_some (sz : Nat) (row : List AV) : iaO sz (some row) = if row.length = sz then some (.rptr row 0) else none := eqv rfl
@[simp] theorem iaA_sl (sz : Nat) (o : Own) (rows : List (List AV)) (k : IntKind) (n : Int) : iaA sz (.sl o rows) (.int k n) = if 0 ≤ n then iaO sz rows[n.toNat]? else none := eqv rfl
@[simp] theorem iaA_osl (sz b g r m sz' : Nat) (k : IntKind) (n : Int) : iaA sz (.osl b g r m sz') (.int k n) = if 0 ≤ n then (if n < m ∧ sz' = sz then some (.ptr b g (r + n.toNat) 0) else none) else none := eqv rfl
@[simp] theorem iaArr_int (sz len : Nat) (x : AV) (k : IntKind) (n : Int) : iaArr sz len x (.int k n) = if 0 ≤ n ∧ n < len then faA (n.toNat * sz) x else none := eqv rfl
@[simp] theorem aidxA_int (ag : Bool) (n sz len : Nat) (cells : List AV) (k : IntKind) (i : Int) : aidxA ag n sz len (.agg cells) (.int k i) = if 0 ≤ i ∧ i < len then ldRow ag n cells (i.toNat * sz) else none := eqv rfl
@[simp] theorem evLen_sl (o : Own) (rows : List (List AV)) : evLen (.sl o rows) = some (.int .i64 rows.length) := eqv rfl
@[simp] theorem evLen_osl (b g r n sz : Nat) : evLen (.osl b g r n sz) = some (.int .i64 n) := eqv rfl
@[simp] theorem evLen_str (s : ByteArray) : evLen (.str s) = some (.int .i64 s.size) := eqv rfl
@[simp] theorem lenS_false (o : Own) (rows : List (List AV)) : lenS false (.sl o rows) = some (.int .i64 rows.length) := by simp [lenS]
@[simp] theorem lenS_osl (b g r n sz : Nat) : lenS false (.osl b g r n sz) = some (.int .i64 n) := by simp [lenS]
@[simp] theorem lenS_str (s : ByteArray) : lenS true (.str s) = some (.int .i64 s.size) := by simp [lenS]
@[simp] theorem evUn_neg (k : IntKind) (n : Int) : evUn .neg (.int k n) = some (.int k (k.wrap (0 - n))) := eqv rfl
@[simp] theorem evUn_not (b : Bool) : evUn .not (.bool b) = some (.bool (!b)) := eqv rfl
@[simp] theorem evConv_int (k j : IntKind) (n : Int) : evConv k (.int j n) = some (.int k (k.wrap n)) := eqv rfl
@[simp] theorem evBeq_bool (neg a b : Bool) : evBeq neg (.bool a) (.bool b) = some (.bool (if neg = true then !(a == b) else (a == b))) := eqv rfl
theorem azA_empty (sz bt : Nat) (o : Own) (ys : List (List AV)) (h1 : ∀ y ∈ ys, y.length = sz) (h2 : ys.length * bt ≤ 140737488355328) : azA sz bt (.sl .full []) (.sl o ys) = some (.sl .no ys) := by
  have : ys.all (fun row => row.length == sz) = true := by simpa using h1
  simp [azA, this, h2]
@[simp] theorem evMM_int (mx : Bool) (k j : IntKind) (a b : Int) : evMM mx (.int k a) (.int j b) = some (.int k (if mx = true then (if b > a then b else a) else (if b < a then b else a))) := eqv rfl
@[simp] theorem slcS_sl (sz : Nat) (o : Own) (rows : List (List AV)) (l h : Option AV) : slcS sz false (.sl o rows) l h = slcA sz (.sl o rows) l h := by simp [slcS]
@[simp] theorem slcS_osl (sz b g r n sz' : Nat) (l h : Option AV) : slcS sz false (.osl b g r n sz') l h = slcA sz (.osl b g r n sz') l h := by simp [slcS]
@[simp] theorem slcS_str (sz : Nat) (s : ByteArray) (l h : Option AV) : slcS sz true (.str s) l h = slcA sz (.str s) l h := by simp [slcS]
@[simp] theorem evBin_add (k : IntKind) (a b : Int) : evBin .add (.int k a) (.int k b) = some (.int k (k.wrap (a + b))) := by simp only [evBin, if_true]
@[simp] theorem evBin_sub (k : IntKind) (a b : Int) : evBin .sub (.int k a) (.int k b) = some (.int k (k.wrap (a - b))) := by simp only [evBin, if_true]
@[simp] theorem evBin_mul (k : IntKind) (a b : Int) : evBin .mul (.int k a) (.int k b) = some (.int k (k.wrap (a * b))) := by simp only [evBin, if_true]
@[simp] theorem evBin_quo (k : IntKind) (a b : Int) : evBin .quo (.int k a) (.int k b) = if b = 0 then none else some (.int k (k.wrap (a.tdiv b))) := by simp only [evBin, if_true]
@[simp] theorem evBin_rem (k : IntKind) (a b : Int) : evBin .rem (.int k a) (.int k b) = if b = 0 then none else some (.int k (a.tmod b)) := by simp only [evBin, if_true]
@[simp] theorem evBin_and (k : IntKind) (a b : Int) : evBin .and (.int k a) (.int k b) = some (.int k (k.wrap (BitVec.ofInt k.bits a &&& BitVec.ofInt k.bits b).toNat)) := by simp only [evBin, if_true]
@[simp] theorem evBin_or (k : IntKind) (a b : Int) : evBin .or (.int k a) (.int k b) = some (.int k (k.wrap (BitVec.ofInt k.bits a ||| BitVec.ofInt k.bits b).toNat)) := by simp only [evBin, if_true]
@[simp] theorem evBin_xor (k : IntKind) (a b : Int) : evBin .xor (.int k a) (.int k b) = some (.int k (k.wrap (BitVec.ofInt k.bits a ^^^ BitVec.ofInt k.bits b).toNat)) := by simp only [evBin, if_true]
@[simp] theorem evBin_andNot (k : IntKind) (a b : Int) : evBin .andNot (.int k a) (.int k b) = some (.int k (k.wrap (BitVec.ofInt k.bits a &&& ~~~BitVec.ofInt k.bits b).toNat)) := by simp only [evBin, if_true]
@[simp] theorem evBin_eql (k : IntKind) (a b : Int) : evBin .eql (.int k a) (.int k b) = some (.bool (decide (a = b))) := by simp only [evBin, if_true]
@[simp] theorem evBin_neq (k : IntKind) (a b : Int) : evBin .neq (.int k a) (.int k b) = some (.bool (!decide (a = b))) := by simp only [evBin, if_true]
@[simp] theorem evBin_lss (k : IntKind) (a b : Int) : evBin .lss (.int k a) (.int k b) = some (.bool (decide (a < b))) := by simp only [evBin, if_true]
@[simp] theorem evBin_leq (k : IntKind) (a b : Int) : evBin .leq (.int k a) (.int k b) = some (.bool (decide (a ≤ b))) := by simp only [evBin, if_true]
@[simp] theorem evBin_gtr (k : IntKind) (a b : Int) : evBin .gtr (.int k a) (.int k b) = some (.bool (decide (a > b))) := by simp only [evBin, if_true]
@[simp] theorem evBin_geq (k : IntKind) (a b : Int) : evBin .geq (.int k a) (.int k b) = some (.bool (decide (a ≥ b))) := by simp only [evBin, if_true]
@[simp] theorem evBin_shl (k j : IntKind) (a b : Int) : evBin .shl (.int k a) (.int j b) = if 0 ≤ b then some (.int k (k.wrap (a * 2 ^ min b.toNat k.bits))) else none := eqv rfl
@[simp] theorem evBin_shr (k j : IntKind) (a b : Int) : evBin .shr (.int k a) (.int j b) = if 0 ≤ b then some (.int k (a.fdiv (2 ^ min b.toNat k.bits))) else none := eqv rfl
@[simp] theorem evBinS_eql (a b : ByteArray) : evBin .eql (.str a) (.str b) = some (.bool (a.toList == b.toList)) := eqv rfl
@[simp] theorem evBinS_neq (a b : ByteArray) : evBin .neq (.str a) (.str b) = some (.bool (!(a.toList == b.toList))) := eqv rfl
@[simp] theorem evBinS_lss (a b : ByteArray) : evBin .lss (.str a) (.str b) = some (.bool (Op.bytesLess a.toList b.toList)) := eqv rfl
@[simp] theorem evBinS_add (a b : ByteArray) : evBin .add (.str a) (.str b) = if ((a.size + b.size : Nat) : Int) > IntKind.i64.max then none else some (.str (a ++ b)) := eqv rfl
/-- A loop, told by rounds. -/
theorem LoopK.rounds {P : Program} {N : Nat} {s : SCode} {Q : APost} {E : Env} {D : List ADef} {H : AHeap} {σ : Type} (st : σ → Env) (hp : σ → AHeap) (p : σ → Prop) (μ : σ → Nat) (s0 : σ) (hE : EWk E (st s0)) (hH : HWk H (hp s0)) (h0 : p s0)
    (round : ∀ x, p x → sw P N s (AThen (fun E' D' H' => D' = D ∧ ∃ x', p x' ∧ μ x' < μ x ∧ EWk E' (st x') ∧ HWk H' (hp x')) Q) (st x) D (hp x)) : LoopK P N s Q E D H := SWp.rounds st hp p μ s0 hE hH h0 round
end Go.Proofs.YtjgkfgocgknjjaaDoor.Abs
