/- The abstract machine, part 9: operations as they are told, and that they are what the program does. -/
import Derived.Test.YtjgkfgocgknjjaaDoorA8
set_option linter.unusedVariables false
set_option linter.unusedSimpArgs false
namespace Go.Proofs.YtjgkfgocgknjjaaDoor.Abs
open Go Go.RowKit

inductive Opd where
  | t (n : Nat)
  | c (x : AV)
  | f (n : Nat)
  | g (n : Nat)
def Env.ev (E : Env) : Opd → Option AV
  | .t n => E.get n
  | .c x => some x
  | .f n => some (.fn (.func n) [] [])
  | .g n => (gtab n).map fun c => .rptr c 0
def Env.evs (E : Env) : List Opd → Option (List AV)
  | [] => some []
  | x :: r => match E.ev x, E.evs r with
    | some v, some l => some (v :: l)
    | _, _ => none
def chkOpd : Operand → Opd → Bool
  | .tmp a, .t b => a == b
  | .const v, .c x => constOk v x
  | .func f, .f g => f == g
  | .global a, .g b => a == b
  | _, _ => false
def chkOpds : List Operand → List Opd → Bool
  | [], [] => true
  | a :: r, b :: r' => chkOpd a b && chkOpds r r'
  | _, _ => false

section
variable {N : Nat} {G : Gh} {a : Act} {w : World} {E : Env} {D : List ADef} {H : AHeap}
theorem opd_R (hr : Rep N G a w E D H) {o : Operand} {p : Opd} (hc : chkOpd o p = true) {x : AV} (hx : E.ev p = some x) : R G w (a.eval o) x := by
  unfold chkOpd at hc
  split at hc
  · simp at hc; subst hc; exact hr.env _ _ hx
  · simp [Env.ev] at hx; subst hx; exact const_R hc
  · simp at hc; subst hc
    simp [Env.ev] at hx; subst hx
    exact .fn _ _ _ _ _ rfl rfl (fun j v x h => by simp at h) (fun j v x h => by simp at h)
  · simp at hc; subst hc
    simp only [Env.ev, Option.map_eq_some_iff] at hx
    obtain ⟨c, h, rfl⟩ := hx
    exact hr.inv.gl _ c h
  · cases hc
theorem opds_R (hr : Rep N G a w E D H) : ∀ {os : List Operand} {ps : List Opd} {xs : List AV}, chkOpds os ps = true → E.evs ps = some xs → RL G w (os.map a.eval) xs
  | [], [], xs, _, h => by simp [Env.evs] at h; subst h; exact RL.nil _ _
  | o :: os, p :: ps, xs, hc, h => by
    simp only [chkOpds, Bool.and_eq_true] at hc
    simp only [Env.evs] at h
    split at h
    · rename_i v l hv hl
      cases h
      exact RL.cons (opd_R hr hc.1 hv) (opds_R hr hc.2 hl)
    · cases h
  | [], _ :: _, _, hc, _ => by simp [chkOpds] at hc
  | _ :: _, [], _, hc, _ => by simp [chkOpds] at hc
end

inductive SOp where
  | mv (x : Opd)
  | pick (c a b : Opd)
  | alloc (zero : List AV)
  | box (x : Opd)
  | build (zero : List AV) (parts : List (Nat × Nat × Opd))
  | bslice (sz : Nat) (xs : List Opd)
  | load (agg : Bool) (n : Nat) (x : Opd)
  | store (n : Nat) (a v : Opd)
  | bin (op : BinOp) (x y : Opd)
  | beq (neg : Bool) (x y : Opd)
  | un (op : UnOp) (x : Opd)
  | conv (k : IntKind) (x : Opd)
  | mkfn (f : Fn) (first caps : List Opd)
  | mkslice (mu : Bool) (zero : List AV) (bytes : Nat) (l c : Opd)
  | slc (sz : Nat) (isStr : Bool) (x : Opd) (lo hi : Option Opd)
  | faddr (off : Nat) (x : Opd)
  | fld (agg : Bool) (n off : Nat) (x : Opd)
  | iaddr (sz : Nat) (x i : Opd)
  | iarr (sz len : Nat) (x i : Opd)
  | idx (x i : Opd)
  | aidx (agg : Bool) (n len : Nat) (x i : Opd)
  | ext (x : Opd) (i : Nat)
  | len (isStr : Bool) (x : Opd)
  | app (mu : Bool) (sz bytes : Nat) (s x : Opd)
  | appz (sz bytes : Nat) (s x : Opd)
  | mm (isMax : Bool) (x y : Opd)
  | call (f : Nat) (args : List Opd)
  | callv (x : Opd) (args : List Opd)

/-- Does an operation make an entry of the heap? -/
def SOp.news : SOp → Bool
  | .alloc _ | .box _ | .mkslice .. | .app .. => true
  | _ => false
def evParts (E : Env) : List (Nat × Nat × Opd) → Option (List (Nat × Nat × AV))
  | [] => some []
  | (o, s, x) :: r => match E.ev x, evParts E r with
    | some v, some l => some ((o, s, v) :: l)
    | _, _ => none
def evOpt (E : Env) : Option Opd → Option (Option AV)
  | none => some none
  | some x => match E.ev x with
    | some v => some (some v)
    | none => none
def isStrA : AV → Bool
  | .str _ => true
  | _ => false

def evalS (g : Nat) (s : SOp) (E : Env) (H : AHeap) : Option (AV × AHeap) :=
  match s with
  | .mv x => match E.ev x with | some v => some (v, H) | none => none
  | .pick c a b => match E.ev c with
    | some (.bool t) => if t then (match E.ev a with | some v => some (v, H) | none => none) else (match E.ev b with | some v => some (v, H) | none => none)
    | _ => none
  | .alloc zero => some (.ptr H.length g 0 0, H ++ [some (.rows g [zero])])
  | .box x => match E.ev x with | some v => if v.okst then some (.ptr H.length g 0 0, H ++ [some (.rows g [v.cells])]) else none | none => none
  | .build zero parts => match evParts E parts with
    | some ps => (match fillA zero ps with | some cells => some (.agg cells, H) | none => none)
    | none => none
  | .bslice sz xs => match E.evs xs with | some l => bsA sz l H | none => none
  | .load agg n x => match E.ev x with | some p => (match ldA agg n p H with | some v => some (v, H) | none => none) | none => none
  | .store n p x => match E.ev p, E.ev x with | some p, some v => (match stA n p v H with | some H' => some (.tup [], H') | none => none) | _, _ => none
  | .bin op x y => match E.ev x, E.ev y with | some x, some y => (match evBin op x y with | some v => some (v, H) | none => none) | _, _ => none
  | .beq neg x y => match E.ev x, E.ev y with | some x, some y => (match evBeq neg x y with | some v => some (v, H) | none => none) | _, _ => none
  | .un op x => match E.ev x with | some x => (match evUn op x with | some v => some (v, H) | none => none) | none => none
  | .conv k x => match E.ev x with | some x => (match evConv k x with | some v => some (v, H) | none => none) | none => none
  | .mkfn f first caps => match E.evs first, E.evs caps with | some a, some b => some (.fn f a b, H) | _, _ => none
  | .mkslice mu zero bytes l c => match E.ev l, E.ev c with | some l, some c => mkA g mu zero bytes l c H | _, _ => none
  | .slc sz isStr x lo hi => match E.ev x, evOpt E lo, evOpt E hi with
    | some x, some lo, some hi => if isStrA x = isStr then (match slcA sz x lo hi with | some v => some (v, H) | none => none) else none
    | _, _, _ => none
  | .faddr off x => match E.ev x with | some x => (match faA off x with | some v => some (v, H) | none => none) | none => none
  | .fld agg n off x => match E.ev x with | some x => (match fldA agg n off x with | some v => some (v, H) | none => none) | none => none
  | .iaddr sz x i => match E.ev x, E.ev i with | some x, some i => (match iaA sz x i with | some v => some (v, H) | none => none) | _, _ => none
  | .iarr sz len x i => match E.ev x, E.ev i with | some x, some i => (match iaArr sz len x i with | some v => some (v, H) | none => none) | _, _ => none
  | .idx x i => match E.ev x, E.ev i with | some x, some i => (match evIdx x i with | some v => some (v, H) | none => none) | _, _ => none
  | .aidx agg n len x i => match E.ev x, E.ev i with | some x, some i => (match aidxA agg n n len x i with | some v => some (v, H) | none => none) | _, _ => none
  | .ext x i => match E.ev x with | some (.tup vs) => (match vs[i]? with | some v => some (v, H) | none => none) | _ => none
  | .len isStr x => match E.ev x with | some x => if isStrA x = isStr then (match evLen x with | some v => some (v, H) | none => none) else none | none => none
  | .app mu sz bytes s x => match E.ev s, E.ev x with | some s, some x => apA g mu sz bytes s x H | _, _ => none
  | .appz sz bytes s x => match E.ev s, E.ev x with | some s, some x => (match azA sz bytes s x with | some v => some (v, H) | none => none) | _, _ => none
  | .mm isMax x y => match E.ev x, E.ev y with | some x, some y => (match evMM isMax x y with | some v => some (v, H) | none => none) | _, _ => none
  | .call _ _ => none
  | .callv _ _ => none

/-! What is held against the program. -/
def chkParts (places : List (Nat × Nat)) : List (Nat × Operand) → List (Nat × Nat × Opd) → Bool
  | [], [] => true
  | (i, x) :: r, (o, s, y) :: r' => (match places[i]? with | some p => p.1 == o && p.2 == s | none => false) && chkOpd x y && chkParts places r r'
  | _, _ => false
def chkElems : Nat → List (Nat × Operand) → List Opd → Bool
  | _, [], [] => true
  | k, (i, x) :: r, y :: r' => i == k && chkOpd x y && chkElems (k + 1) r r'
  | _, _, _ => false
def chkOpt : Option Operand → Option Opd → Bool
  | none, none => true
  | some a, some b => chkOpd a b
  | _, _ => false
/-- A slice's type: how many cells and bytes an element has. -/
def elemOk (P : Program) (t : TypeId) (sz bytes : Nat) : Bool :=
  match P.underlying t with
  | some (.slice e) => (match P.info? e with
    | some i => i.size == sz && i.bytes == bytes && decide (0 < sz) && decide (0 < bytes) && (match i.zero with | some z => z.cells.size == sz | none => false)
    | none => false)
  | _ => false
def fnOk (P : Program) (f : Nat) : Bool :=
  match P.funcs[f]? with
  | some fn => fn.body.isSome && !(fn.name == "runtime.NumGoroutine")
  | none => false
def isStrT (P : Program) (t : TypeId) : Bool := match P.underlying t with | some .string => true | _ => false
def isSliceT (P : Program) (t : TypeId) : Bool := match P.underlying t with | some (.slice _) => true | _ => false

def chkOp (P : Program) (op : Op) (s : SOp) : Bool :=
  match op, s with
  | .move x, .mv y => chkOpd x y
  | .assign x, .mv y => chkOpd x y
  | .pick c a b, .pick c' a' b' => chkOpd c c' && chkOpd a a' && chkOpd b b'
  | .alloc t, .alloc zero => zeroOk P t zero
  | .box _ x, .box y => chkOpd x y
  | .build t parts, .build zero ps => zeroOk P t zero && (match P.underlying t with
    | some (.struct fields) => (match fieldPlaces P fields.toList with | some l => chkParts l parts.toList ps | none => false)
    | _ => false)
  | .buildSlice t n parts, .bslice sz xs => n == xs.length && chkElems 0 parts.toList xs && decide (n * sz ≤ 16777216) && (match P.underlying t with
    | some (.slice e) => (match P.info? e with | some i => i.size == sz && i.zero.isSome | none => false)
    | _ => false)
  | .load t x, .load agg n y => tyOk P t agg n && chkOpd x y
  | .store t x v, .store n y u => ((P.info? t).map (·.size) == some n) && chkOpd x y && chkOpd v u
  | .nilCheck x, .mv y => false
  | .binOp op t x y _, .bin op' x' y' => decide (op = op') && chkOpd x x' && chkOpd y y'
  | .binOp op t x y _, .beq neg x' y' => decide (op = if neg then .neq else .eql) && (match P.underlying t with | some .bool => true | _ => false) && chkOpd x x' && chkOpd y y'
  | .unOp op _ x, .un op' y => decide (op = op') && chkOpd x y
  | .convert src dst x, .conv k y => (P.underlying src).isSome && (match P.underlying dst with | some (.int k') => decide (k' = k) | _ => false) && chkOpd x y
  | .makeFunc f first caps, .mkfn f' first' caps' => decide (f = f') && chkOpds first.toList first' && chkOpds caps.toList caps'
  | .makeSlice t l c, .mkslice mu zero bytes l' c' => chkOpd l l' && chkOpd c c' && decide (0 < zero.length) && (match P.underlying t with
    | some (.slice e) => (match P.info? e with | some i => i.size == zero.length && i.bytes == bytes && (match i.zero with | some z => constsOk z.cells.toList zero | none => false) | none => false)
    | _ => false)
  | .slice t x lo hi none, .slc sz isStr x' lo' hi' => chkOpd x x' && chkOpt lo lo' && chkOpt hi hi' && (match P.underlying t with
    | some .string => isStr
    | some (.slice e) => !isStr && (match P.info? e with | some i => i.size == sz | none => false)
    | _ => false)
  | .fieldAddr t x k, .faddr off y => chkOpd x y && (match P.underlying t with
    | some (.struct fields) => (match fields[k]? with | some f => f.offset == off && (match P.info? f.type with | some i => i.size != 0 | none => false) | none => false)
    | _ => false)
  | .field t x k, .fld agg n off y => chkOpd x y && (match P.underlying t with
    | some (.struct fields) => (match fields[k]? with | some f => f.offset == off && tyOk P f.type agg n | none => false)
    | _ => false)
  | .indexAddr t x i, .iaddr sz x' i' => chkOpd x x' && chkOpd i i' && (match P.underlying t with
    | some (.slice e) => (match P.info? e with | some i => i.size == sz | none => false)
    | _ => false)
  | .indexAddr t x i, .iarr sz len x' i' => chkOpd x x' && chkOpd i i' && (match P.underlying t with
    | some (.array n e) => n == len && (match P.info? e with | some i => i.size == sz | none => false)
    | _ => false)
  | .index t x i, .idx x' i' => isStrT P t && chkOpd x x' && chkOpd i i'
  | .index t x i, .aidx agg n len x' i' => chkOpd x x' && chkOpd i i' && (match P.underlying t with
    | some (.array l e) => l == len && tyOk P e agg n
    | _ => false)
  | .extract x i, .ext y i' => i == i' && chkOpd x y
  | .call { callee := .builtin .len, args, argTypes }, .len isStr y => (match args.toList, argTypes.toList with
    | [x], [t] => chkOpd x y && (if isStr then isStrT P t else isSliceT P t)
    | _, _ => false)
  | .call { callee := .builtin .append, args, argTypes }, .app mu sz bytes s x => (match args.toList, argTypes.toList with
    | [s', x'], [t, t'] => chkOpd s' s && chkOpd x' x && t == t' && elemOk P t sz bytes
    | _, _ => false)
  | .call { callee := .builtin .append, args, argTypes }, .appz sz bytes s x => (match args.toList, argTypes.toList with
    | [s', x'], [t, t'] => chkOpd s' s && chkOpd x' x && t == t' && elemOk P t sz bytes
    | _, _ => false)
  | .call { callee := .builtin .max, args, .. }, .mm isMax x y => isMax && (match args.toList with | [x', y'] => chkOpd x' x && chkOpd y' y | _ => false)
  | .call { callee := .builtin .min, args, .. }, .mm isMax x y => !isMax && (match args.toList with | [x', y'] => chkOpd x' x && chkOpd y' y | _ => false)
  | .call { callee := .value (.func f), args, .. }, .call f' args' => f == f' && fnOk P f && chkOpds args.toList args'
  | .call { callee := .value x, args, .. }, .callv y args' => chkOpd x y && chkOpds args.toList args'
  | _, _ => false

theorem elem_ok {P : Program} {t : TypeId} {sz bytes : Nat} (h : elemOk P t sz bytes = true) : ∃ e i z, P.underlying t = some (.slice e) ∧ P.info? e = some i ∧ i.zero = some z ∧ i.size = sz ∧ i.bytes = bytes ∧ z.cells.size = sz ∧ 0 < sz ∧ 0 < bytes := by
  unfold elemOk at h
  split at h
  case h_2 => cases h
  rename_i e hu
  split at h
  case h_2 => cases h
  rename_i i hi
  simp only [Bool.and_eq_true, decide_eq_true_eq, beq_iff_eq] at h
  obtain ⟨⟨⟨⟨h1, h2⟩, h3⟩, h4⟩, h5⟩ := h
  split at h5
  · rename_i z hz
    exact ⟨e, i, z, hu, hi, hz, h1, h2, by simpa using h5, h3, h4⟩
  · cases h5

/-- What an operation that is no call comes to. -/
def OpRun (P : Program) (o : Oper) (a : Act) (G : Gh) (w : World) (x : AV) (H' : AHeap) : Prop :=
  ∃ v w' G', ((execOp a.eval o).run P w = .ok (.value v) w' ∨ ((execOp a.eval o).run P w = .ok .skip w' ∧ v = undef)) ∧ Inv G' w' H' ∧ Ext G w G' w' ∧ R G' w' v x

section
variable {P : Program} {o : Oper} {N : Nat} {G : Gh} {a : Act} {w : World} {E : Env} {D : List ADef} {H H' : AHeap} {x : AV}

theorem run_v {s : Sem Value} {v : Value} {w' : World} (h : s.run P w = .ok v w') : (do pure (Next.value (← s)) : Sem Next).run P w = .ok (.value v) w' := by simp [h]
theorem OpRun.of {s : Sem Value} (he : execOp a.eval o = (do pure (Next.value (← s)) : Sem Next)) (h : OkV G w (s.run P w) x H') : OpRun P o a G w x H' := by
  obtain ⟨v, w', G', hr, i, e, r⟩ := h
  exact ⟨v, w', G', .inl (by rw [he]; exact run_v hr), i, e, r⟩
theorem OpRun.same {s : Sem Value} (hi : Inv G w H) (he : execOp a.eval o = (do pure (Next.value (← s)) : Sem Next)) (h : ∃ v, s.run P w = .ok v w ∧ R G w v x) : OpRun P o a G w x H :=
  let ⟨v, hr, r⟩ := h; .of he (.same hi hr r)

theorem parts_R (hr : Rep N G a w E D H) {places : List (Nat × Nat)} : ∀ {parts : List (Nat × Operand)} {ps : List (Nat × Nat × Opd)} {l : List (Nat × Nat × AV)}, chkParts places parts ps = true → evParts E ps = some l →
    RParts G w (fun i => places[i]?) (parts.map fun p => (p.1, a.eval p.2)) l
  | [], [], l, _, h => by simp [evParts] at h; subst h; trivial
  | (i, x) :: r, (o, s, y) :: r', l, hc, h => by
    simp only [chkParts, Bool.and_eq_true] at hc
    simp only [evParts] at h
    split at h
    · rename_i v l' hv hl
      cases h
      obtain ⟨⟨h1, h2⟩, h3⟩ := hc
      split at h1
      · rename_i p hp
        simp only [Bool.and_eq_true, beq_iff_eq] at h1
        refine ⟨?_, opd_R hr h2 hv, parts_R hr h3 hl⟩
        show places[i]? = some (o, s)
        rw [hp, ← h1.1, ← h1.2]
      · cases h1
    · cases h
  | [], _ :: _, _, hc, _ => by simp [chkParts] at hc
  | _ :: _, [], _, hc, _ => by simp [chkParts] at hc

theorem elems_R (hr : Rep N G a w E D H) : ∀ {k : Nat} {parts : List (Nat × Operand)} {ps : List Opd} {l : List AV}, chkElems k parts ps = true → E.evs ps = some l →
    ∃ vs : List Value, RL G w vs l ∧ vs.length = ps.length ∧ (parts.map fun p => (p.1, a.eval p.2)) = ((vs.zipIdx k).map fun p => (p.2, p.1))
  | k, [], [], l, _, h => by simp [Env.evs] at h; subst h; exact ⟨[], RL.nil _ _, rfl, rfl⟩
  | k, (i, x) :: r, y :: r', l, hc, h => by
    simp only [chkElems, Bool.and_eq_true, beq_iff_eq] at hc
    simp only [Env.evs] at h
    split at h
    · rename_i v l' hv hl
      cases h
      obtain ⟨⟨rfl, h2⟩, h3⟩ := hc
      obtain ⟨vs, k1, k2, k3⟩ := elems_R hr h3 hl
      exact ⟨a.eval x :: vs, RL.cons (opd_R hr h2 hv) k1, by simp [k2], by simp [k3]⟩
    · cases h
  | _, [], _ :: _, _, hc, _ => by simp [chkElems] at hc
  | _, _ :: _, [], _, hc, _ => by simp [chkElems] at hc

theorem opt_R (hr : Rep N G a w E D H) {o : Option Operand} {p : Option Opd} (hc : chkOpt o p = true) {x : Option AV} (hx : evOpt E p = some x) : ROpt G w (o.map a.eval) x := by
  cases o with
  | none =>
    cases p with
    | none => simp [evOpt] at hx; subst hx; trivial
    | some _ => simp [chkOpt] at hc
  | some o =>
    cases p with
    | none => simp [chkOpt] at hc
    | some p =>
      simp only [evOpt] at hx
      split at hx
      · rename_i v hv; cases hx; exact opd_R hr hc hv
      · cases hx

theorem op_ok {s : SOp} (hc : chkOp P o.op s = true) (hr : Rep N G a w E D H) (h : evalS G.clock s E H = some (x, H')) : OpRun P o a G w x H' := by
  obtain ⟨dst, op, ty, pos, after, guard⟩ := o
  dsimp only at hc
  have hi := hr.inv
  unfold chkOp at hc
  split at hc
  · -- move
    simp only [evalS] at h
    split at h
    · rename_i v hv; cases h
      exact ⟨_, w, G, .inl rfl, hi, Ext.refl _ _, opd_R hr hc hv⟩
    · cases h
  · simp only [evalS] at h
    split at h
    · rename_i v hv; cases h
      exact ⟨_, w, G, .inl rfl, hi, Ext.refl _ _, opd_R hr hc hv⟩
    · cases h
  · -- pick
    rename_i op0 s0 c a0 b0 c1 a1 b1
    simp only [Bool.and_eq_true] at hc
    obtain ⟨⟨h1, h2⟩, h3⟩ := hc
    simp only [evalS] at h
    split at h
    · rename_i t ht
      have hb := opd_R hr h1 ht
      have hbe : a.eval c = .bool t := by
        generalize a.eval c = v at hb ⊢
        cases hb; rfl
      split at h
      · rename_i htt
        split at h
        · rename_i v hv; cases h
          refine ⟨_, w, G, .inl ?_, hi, Ext.refl _ _, opd_R hr h2 hv⟩
          simp [execOp, hbe, asBool, htt]
        · cases h
      · rename_i htt
        split at h
        · rename_i v hv; cases h
          refine ⟨_, w, G, .inl ?_, hi, Ext.refl _ _, opd_R hr h3 hv⟩
          simp [execOp, hbe, asBool, htt]
        · cases h
    · cases h
  · -- alloc
    simp only [evalS] at h
    cases h
    exact .of rfl (ok_alloc hi hc)
  · -- box
    simp only [evalS] at h
    split at h
    · rename_i v hv
      split at h
      · rename_i hok; cases h; exact .of rfl (ok_box hi _ (opd_R hr hc hv) hok)
      · cases h
    · cases h
  · -- build
    rename_i op0 s0 t parts zero ps0
    simp only [Bool.and_eq_true] at hc
    obtain ⟨h1, h2⟩ := hc
    simp only [evalS] at h
    split at h2
    case h_2 => cases h2
    rename_i fields hu
    split at h2
    case h_2 => cases h2
    rename_i l hl
    split at h
    case h_2 => cases h
    rename_i ps hps
    split at h
    case h_2 => cases h
    rename_i cells hcells
    cases h
    have hp := parts_R hr h2 hps
    have := ok_build (P := P) hi h1 hu hl hp hcells
    refine .of (s := Instr.build t (parts.map fun (p : Nat × Operand) => (p.1, a.eval p.2))) rfl ?_
    have e : (parts.map fun (p : Nat × Operand) => (p.1, a.eval p.2)) = (parts.toList.map fun p => (p.1, a.eval p.2)).toArray := by apply Array.ext'; rw [Array.toList_map]
    rw [e]; exact this
  · -- buildSlice
    rename_i op0 s0 t n parts sz xs
    simp only [Bool.and_eq_true, decide_eq_true_eq, beq_iff_eq] at hc
    obtain ⟨⟨⟨h1, h2⟩, h3⟩, h4⟩ := hc
    simp only [evalS] at h
    split at h4
    case h_2 => cases h4
    rename_i e hu
    split at h4
    case h_2 => cases h4
    rename_i i hinfo
    simp only [Bool.and_eq_true, beq_iff_eq] at h4
    obtain ⟨hsz, hzs⟩ := h4
    obtain ⟨z, hz⟩ := Option.isSome_iff_exists.1 hzs
    split at h
    case h_2 => cases h
    rename_i l hl
    obtain ⟨vs, k1, k2, k3⟩ := elems_R hr h2 hl
    have hn : n = vs.length := by rw [k2]; exact h1
    subst hn
    have := ok_bslice (P := P) hi hu hinfo hz hsz k1 h3 h
    refine .of (s := Instr.buildSlice t vs.length (parts.map fun (p : Nat × Operand) => (p.1, a.eval p.2))) rfl ?_
    have e : (parts.map fun (p : Nat × Operand) => (p.1, a.eval p.2)) = (parts.toList.map fun p => (p.1, a.eval p.2)).toArray := by apply Array.ext'; rw [Array.toList_map]
    rw [e, k3]; exact this
  · -- load
    simp only [Bool.and_eq_true] at hc
    simp only [evalS] at h
    split at h
    case h_2 => cases h
    rename_i p hp
    split at h
    case h_2 => cases h
    rename_i v hv
    cases h
    obtain ⟨ad, u, e1, e2, e3⟩ := run_load (P := P) hc.1 hi (opd_R hr hc.2 hp) hv
    refine .same hi rfl ⟨u, ?_, e3⟩
    simp [Instr.loadAt, e1, Instr.sureAddr, e2]
  · -- store
    simp only [Bool.and_eq_true] at hc
    obtain ⟨⟨h1, h2⟩, h3⟩ := hc
    simp only [evalS] at h
    split at h
    case h_2 => cases h
    rename_i p v hp hv
    split at h
    case h_2 => cases h
    rename_i H2 hst
    cases h
    obtain ⟨w', e1, e2, e3⟩ := run_st (P := P) hi (by simpa using h1) (opd_R hr h2 hp) (opd_R hr h3 hv) hst
    refine ⟨undef, w', G, .inr ⟨?_, rfl⟩, e2, e3, ?_⟩
    · simp [execOp, e1]
    · exact .tup _ _ rfl (fun j v x hv => by simp at hv)
  · cases hc
  · -- binOp
    simp only [Bool.and_eq_true, decide_eq_true_eq] at hc
    obtain ⟨⟨rfl, h2⟩, h3⟩ := hc
    simp only [evalS] at h
    split at h
    case h_2 => cases h
    rename_i u v hu hv
    split at h
    case h_2 => cases h
    rename_i z hz
    cases h
    exact .same hi rfl (ok_bin (opd_R hr h2 hu) (opd_R hr h3 hv) hz)
  · -- beq
    simp only [Bool.and_eq_true, decide_eq_true_eq] at hc
    obtain ⟨⟨⟨rfl, h1⟩, h2⟩, h3⟩ := hc
    simp only [evalS] at h
    split at h
    case h_2 => cases h
    rename_i u v hu hv
    split at h
    case h_2 => cases h
    rename_i z hz
    cases h
    split at h1
    case h_2 => cases h1
    rename_i ht
    exact .same hi rfl (ok_beq ht (opd_R hr h2 hu) (opd_R hr h3 hv) hz)
  · -- unOp
    simp only [Bool.and_eq_true, decide_eq_true_eq] at hc
    obtain ⟨rfl, h2⟩ := hc
    simp only [evalS] at h
    split at h
    case h_2 => cases h
    rename_i u hu
    split at h
    case h_2 => cases h
    rename_i z hz
    cases h
    exact .same hi rfl (ok_un (opd_R hr h2 hu) hz)
  · -- convert
    simp only [Bool.and_eq_true] at hc
    obtain ⟨⟨h1, h2⟩, h3⟩ := hc
    simp only [evalS] at h
    split at h
    case h_2 => cases h
    rename_i u hu
    split at h
    case h_2 => cases h
    rename_i z hz
    cases h
    split at h2
    case h_2 => cases h2
    rename_i k' hd
    simp at h2
    subst h2
    exact .same hi rfl (ok_conv h1 hd (opd_R hr h3 hu) hz)
  · -- makeFunc
    simp only [Bool.and_eq_true, decide_eq_true_eq] at hc
    obtain ⟨⟨rfl, h2⟩, h3⟩ := hc
    simp only [evalS] at h
    split at h
    case h_2 => cases h
    rename_i l1 l2 hl1 hl2
    cases h
    have r1 := opds_R hr h2 hl1
    have r2 := opds_R hr h3 hl2
    refine .same hi (s := Instr.makeFunc _ _ _) rfl ⟨_, rfl, .fn _ _ _ _ _ (by simpa using r1.1) (by simpa using r2.1) (fun j v x a b => r1.2 j v x (by simpa using a) b) (fun j v x a b => r2.2 j v x (by simpa using a) b)⟩
  · -- makeSlice
    simp only [Bool.and_eq_true, decide_eq_true_eq] at hc
    obtain ⟨⟨⟨h1, h2⟩, h3⟩, h4⟩ := hc
    simp only [evalS] at h
    split at h4
    case h_2 => cases h4
    rename_i e hu
    split at h4
    case h_2 => cases h4
    rename_i i hinfo
    simp only [Bool.and_eq_true, beq_iff_eq] at h4
    obtain ⟨⟨hsz, hby⟩, hz4⟩ := h4
    split at hz4
    case h_2 => cases hz4
    rename_i z hz
    subst hby
    split at h
    case h_2 => cases h
    rename_i l c hl hcc
    exact .of rfl (ok_make hi hu hinfo hz hz4 hsz h3 (opd_R hr h1 hl) (opd_R hr h2 hcc) h)
  · -- slice
    simp only [Bool.and_eq_true] at hc
    obtain ⟨⟨⟨h1, h2⟩, h3⟩, h4⟩ := hc
    simp only [evalS] at h
    split at h
    case h_2 => cases h
    rename_i u l hh hu hl hhh
    split at h
    case isFalse => cases h
    rename_i hstr
    split at h
    case h_2 => cases h
    rename_i z hz
    cases h
    split at h4
    · rename_i ht
      subst h4
      refine .same hi rfl (ok_slice (.inl ht) (opd_R hr h1 hu) (opt_R hr h2 hl) (opt_R hr h3 hhh) ⟨fun _ => ?_, fun _ => ht⟩ hz)
      cases u <;> simp [isStrA] at hstr
      exact ⟨_, rfl⟩
    · rename_i e ht
      simp only [Bool.and_eq_true] at h4
      obtain ⟨h5, h6⟩ := h4
      split at h6
      case h_2 => cases h6
      rename_i i hinfo
      refine .same hi rfl (ok_slice (.inr ⟨e, i, ht, hinfo, by simpa using h6⟩) (opd_R hr h1 hu) (opt_R hr h2 hl) (opt_R hr h3 hhh) ⟨fun k => (by rw [ht] at k; cases k), fun ⟨s, hs⟩ => ?_⟩ hz)
      subst hs
      simp only [isStrA] at hstr
      rw [← hstr] at h5
      exact absurd h5 (by decide)
    · cases h4
  · -- fieldAddr
    simp only [Bool.and_eq_true] at hc
    obtain ⟨h1, h2⟩ := hc
    simp only [evalS] at h
    split at h
    case h_2 => cases h
    rename_i u hu
    split at h
    case h_2 => cases h
    rename_i z hz
    cases h
    split at h2
    case h_2 => cases h2
    rename_i fields ht
    split at h2
    case h_2 => cases h2
    rename_i f hf
    simp only [Bool.and_eq_true, beq_iff_eq] at h2
    obtain ⟨h3, h4⟩ := h2
    subst h3
    split at h4
    case h_2 => cases h4
    rename_i i hinfo
    exact .same hi rfl (ok_fieldAddr ht hf hinfo (by simpa using h4) (opd_R hr h1 hu) hz)
  · -- field
    simp only [Bool.and_eq_true] at hc
    obtain ⟨h1, h2⟩ := hc
    simp only [evalS] at h
    split at h
    case h_2 => cases h
    rename_i u hu
    split at h
    case h_2 => cases h
    rename_i z hz
    cases h
    split at h2
    case h_2 => cases h2
    rename_i fields ht
    split at h2
    case h_2 => cases h2
    rename_i f hf
    simp only [Bool.and_eq_true, beq_iff_eq] at h2
    obtain ⟨h3, h4⟩ := h2
    subst h3
    exact .same hi rfl (ok_field ht hf h4 (opd_R hr h1 hu) hz)
  · -- indexAddr
    simp only [Bool.and_eq_true] at hc
    obtain ⟨⟨h1, h2⟩, h3⟩ := hc
    simp only [evalS] at h
    split at h
    case h_2 => cases h
    rename_i u v hu hv
    split at h
    case h_2 => cases h
    rename_i z hz
    cases h
    split at h3
    case h_2 => cases h3
    rename_i e ht
    split at h3
    case h_2 => cases h3
    rename_i i hinfo
    simp at h3
    subst h3
    exact .same hi rfl (ok_indexAddr ht hinfo (opd_R hr h1 hu) (opd_R hr h2 hv) hz)
  · simp only [Bool.and_eq_true] at hc
    obtain ⟨⟨h1, h2⟩, h3⟩ := hc
    simp only [evalS] at h
    split at h
    case h_2 => cases h
    rename_i u v hu hv
    split at h
    case h_2 => cases h
    rename_i z hz
    cases h
    split at h3
    case h_2 => cases h3
    rename_i n e ht
    simp only [Bool.and_eq_true, beq_iff_eq] at h3
    obtain ⟨h4, h5⟩ := h3
    subst h4
    split at h5
    case h_2 => cases h5
    rename_i i hinfo
    simp at h5
    subst h5
    exact .same hi rfl (ok_indexAddrArr ht hinfo (opd_R hr h1 hu) (opd_R hr h2 hv) hz)
  · -- index
    rename_i op0 s0 t0 x0 i0 x1 i1
    simp only [Bool.and_eq_true] at hc
    obtain ⟨⟨h1, h2⟩, h3⟩ := hc
    simp only [evalS] at h
    split at h
    case h_2 => cases h
    rename_i u v hu hv
    split at h
    case h_2 => cases h
    rename_i z hz
    cases h
    have ht : P.underlying t0 = some .string := by unfold isStrT at h1; split at h1; assumption; cases h1
    exact .same hi rfl (ok_idx ht (opd_R hr h2 hu) (opd_R hr h3 hv) hz)
  · -- index of an array
    simp only [Bool.and_eq_true] at hc
    obtain ⟨⟨h1, h2⟩, h3⟩ := hc
    simp only [evalS] at h
    split at h
    case h_2 => cases h
    rename_i u v hu hv
    split at h
    case h_2 => cases h
    rename_i z hz
    cases h
    split at h3
    case h_2 => cases h3
    rename_i n e ht
    simp only [Bool.and_eq_true, beq_iff_eq] at h3
    obtain ⟨h4, h5⟩ := h3
    subst h4
    exact .same hi rfl (ok_aidx ht h5 (opd_R hr h1 hu) (opd_R hr h2 hv) hz)
  · -- extract
    rename_i op0 s0 x0 i0 y0 i1
    simp only [Bool.and_eq_true, beq_iff_eq] at hc
    obtain ⟨rfl, h2⟩ := hc
    simp only [evalS] at h
    split at h
    case h_2 => cases h
    rename_i vs hvs
    split at h
    case h_2 => cases h
    rename_i v hv
    cases h
    have hR := opd_R hr h2 hvs
    generalize he : a.eval x0 = u at hR
    cases hR with
    | tup cs _ hs hRR =>
    obtain ⟨u', hu'⟩ := get_ex (l := cs.toList) (by simpa using hs) hv
    have hu'' : cs[i0]? = some u' := by simpa using hu'
    refine .same hi (s := Instr.extract (a.eval x0) i0) rfl ⟨u', ?_, hRR _ _ _ hu'' hv⟩
    rw [he]
    simp [Instr.extract, hu'']
  · -- len
    rename_i op0 s0 args argTypes isStr y
    simp only [evalS] at h
    split at hc
    case h_2 => cases hc
    rename_i x0 t0 hargs htys
    simp only [Bool.and_eq_true] at hc
    obtain ⟨h1, h2⟩ := hc
    split at h
    case h_2 => cases h
    rename_i u hu
    split at h
    case isFalse => cases h
    rename_i hstr
    split at h
    case h_2 => cases h
    rename_i z hz
    cases h
    have hargs' : args = #[x0] := by rw [← Array.toArray_toList (xs := args), hargs]
    have htys' : argTypes = #[t0] := by rw [← Array.toArray_toList (xs := argTypes), htys]
    subst hargs' htys'
    have ht : if isStr = true then P.underlying t0 = some .string else ∃ e, P.underlying t0 = some (.slice e) := by
      split at h2
      · rename_i hb
        rw [if_pos hb]
        unfold isStrT at h2; split at h2; assumption; cases h2
      · rename_i hb
        rw [if_neg hb]
        unfold isSliceT at h2; split at h2; exact ⟨_, by assumption⟩; cases h2
    obtain ⟨r, hr1, hr2⟩ := ok_len (P := P) (ty := ty) ht (opd_R hr h1 hu) hz ⟨fun k => by
        subst k; cases u <;> simp [isStrA] at hstr; exact ⟨_, rfl⟩, fun ⟨s, hs⟩ => by subst hs; simpa [isStrA] using hstr.symm⟩
    refine ⟨r, w, G, .inl ?_, hi, Ext.refl _ _, hr2⟩
    simp [execOp, resolve, invoke, builtin, hr1]
  · -- append
    rename_i op0 s00 args argTypes mu sz bytes s y
    simp only [evalS] at h
    split at hc
    case h_2 => cases hc
    rename_i s0 x0 t0 t1 hargs htys
    simp only [Bool.and_eq_true, beq_iff_eq] at hc
    obtain ⟨⟨⟨h1, h2⟩, rfl⟩, h4⟩ := hc
    split at h
    case h_2 => cases h
    rename_i u v hu hv
    have hargs' : args = #[s0, x0] := by rw [← Array.toArray_toList (xs := args), hargs]
    have htys' : argTypes = #[t0, t0] := by rw [← Array.toArray_toList (xs := argTypes), htys]
    subst hargs' htys'
    obtain ⟨e, i, z, e1, e2, e3, e4, e5, e6, e7, e8⟩ := elem_ok h4
    obtain ⟨r, w', G', k1, k2, k3, k4⟩ := run_ap (P := P) hi t0 ty e i z sz bytes e1 e2 e3 e4 e5 e6 e7 e8 (opd_R hr h1 hu) (opd_R hr h2 hv) h
    refine ⟨r, w', G', .inl ?_, k2, k3, k4⟩
    simp [execOp, resolve, invoke, builtin, k1]
  · -- append to a literal
    rename_i op0 s00 args argTypes sz bytes s y
    simp only [evalS] at h
    split at hc
    case h_2 => cases hc
    rename_i s0 x0 t0 t1 hargs htys
    simp only [Bool.and_eq_true, beq_iff_eq] at hc
    obtain ⟨⟨⟨h1, h2⟩, rfl⟩, h4⟩ := hc
    split at h
    case h_2 => cases h
    rename_i u v hu hv
    have hargs' : args = #[s0, x0] := by rw [← Array.toArray_toList (xs := args), hargs]
    have htys' : argTypes = #[t0, t0] := by rw [← Array.toArray_toList (xs := argTypes), htys]
    subst hargs' htys'
    obtain ⟨e, i, z, e1, e2, e3, e4, e5, e6, e7, e8⟩ := elem_ok h4
    split at h
    case h_2 => cases h
    rename_i v1 hv1
    cases h
    obtain ⟨r, w', G', k1, k2, k3, k4⟩ := run_az (P := P) hi t0 ty e i z sz bytes e1 e2 e3 e4 e5 e6 e7 e8 (opd_R hr h1 hu) (opd_R hr h2 hv) hv1
    refine ⟨r, w', G', .inl ?_, k2, k3, k4⟩
    simp [execOp, resolve, invoke, builtin, k1]
  · -- max
    rename_i op0 s0 args argTypes isMax x1 y1
    simp only [Bool.and_eq_true] at hc
    obtain ⟨h0, hc⟩ := hc
    simp only [evalS] at h
    split at hc
    case h_2 => cases hc
    rename_i x0 y0 hargs
    simp only [Bool.and_eq_true] at hc
    obtain ⟨h1, h2⟩ := hc
    split at h
    case h_2 => cases h
    rename_i u v hu hv
    split at h
    case h_2 => cases h
    rename_i z hz
    cases h
    have hargs' : args = #[x0, y0] := by rw [← Array.toArray_toList (xs := args), hargs]
    subst hargs'
    obtain ⟨r, hr1, hr2⟩ := ok_mm (P := P) (ts := argTypes) (t := ty) (opd_R hr h1 hu) (opd_R hr h2 hv) hz
    rw [h0, if_pos rfl] at hr1
    refine ⟨r, w, G, .inl ?_, hi, Ext.refl _ _, hr2⟩
    simp [execOp, resolve, invoke, builtin, hr1]
  · -- min
    rename_i op0 s0 args argTypes isMax x1 y1
    simp only [Bool.and_eq_true] at hc
    obtain ⟨h0, hc⟩ := hc
    simp only [evalS] at h
    split at hc
    case h_2 => cases hc
    rename_i x0 y0 hargs
    simp only [Bool.and_eq_true] at hc
    obtain ⟨h1, h2⟩ := hc
    split at h
    case h_2 => cases h
    rename_i u v hu hv
    split at h
    case h_2 => cases h
    rename_i z hz
    cases h
    have hargs' : args = #[x0, y0] := by rw [← Array.toArray_toList (xs := args), hargs]
    subst hargs'
    obtain ⟨r, hr1, hr2⟩ := ok_mm (P := P) (ts := argTypes) (t := ty) (opd_R hr h1 hu) (opd_R hr h2 hv) hz
    have h0' : isMax = false := by simpa using h0
    rw [h0', if_neg (by simp)] at hr1
    refine ⟨r, w, G, .inl ?_, hi, Ext.refl _ _, hr2⟩
    simp [execOp, resolve, invoke, builtin, hr1]
  · simp [evalS] at h
  · simp [evalS] at h
  · cases hc
end
end Go.Proofs.YtjgkfgocgknjjaaDoor.Abs
