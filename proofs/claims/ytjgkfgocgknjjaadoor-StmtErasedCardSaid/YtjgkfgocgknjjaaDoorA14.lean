/- The abstract machine, part 14: code as it is told, and functions. -/
import Derived.Test.YtjgkfgocgknjjaaDoorA13
set_option linter.unusedVariables false
set_option linter.unusedSimpArgs false
namespace Go.Proofs.YtjgkfgocgknjjaaDoor.Abs
open Go Go.RowKit

inductive SCode where
  | skip
  | ret
  | exit (id : Nat)
  | seq (a b : SCode)
  | cond (c : Opd) (t e : SCode)
  | block (id : Nat) (c : SCode)
  | loop (c : SCode)
  | region (draw : Bool) (ops : List SOper)
  | cut (c : SCode)

def chk (P : Program) (N : Nat) : Code → SCode → Bool
  | c, .cut s => chk P N c s
  | .skip, .skip => true
  | .ret, .ret => true
  | .exit i, .exit j => i == j
  | .seq a b, .seq a' b' => chk P N a a' && chk P N b b'
  | .cond c t e, .cond c' t' e' => chkOpd c c' && chk P N t t' && chk P N e e'
  | .block i c, .block j c' => i == j && chk P N c c'
  | .loop c, .loop c' => chk P N c c'
  | .region _ ops draw, .region draw' sops => draw == draw' && chkAll P N ops ops.toList sops && (!draw || (P.follows .mixedOrders && chkDraw ops.toList sops))
  | _, _ => false

def SWp (P : Program) (N : Nat) (s : SCode) (Q : APost) (E : Env) (D : List ADef) (H : AHeap) : Prop := ∀ c, chk P N c s = true → AWp P N c Q E D H

def sw (P : Program) (N : Nat) : SCode → APost → Env → List ADef → AHeap → Prop
  | .skip, Q, E, D, H => Q .normal E D H
  | .ret, Q, E, D, H => Q .ret E D H
  | .exit id, Q, E, D, H => Q (.exit id) E D H
  | .seq a b, Q, E, D, H => sw P N a (AThen (fun E D H => sw P N b Q E D H) Q) E D H
  | .cond c t e, Q, E, D, H => match E.ev c with
    | some (.bool b) => (b = true → sw P N t Q E D H) ∧ (b = false → sw P N e Q E D H)
    | _ => False
  | .block id c, Q, E, D, H => sw P N c (AInBlock id Q) E D H
  | .loop c, Q, E, D, H => SWp P N (.loop c) Q E D H
  | .cut s, Q, E, D, H => SWp P N s Q E D H
  | .region draw ops, Q, E, D, H => if draw = true then rgnD P [H] [] ops E H fun E' H' => Q .normal E' D H' else rgn P ops E H fun E' H' => Q .normal E' D H'

section
variable {P : Program} {N : Nat}

theorem sw_sound : ∀ {s : SCode} {Q : APost} {E : Env} {D : List ADef} {H : AHeap}, sw P N s Q E D H → SWp P N s Q E D H
  | .skip, Q, E, D, H, h, c, hc => by cases c <;> simp [chk] at hc; exact AWp.skip h
  | .ret, Q, E, D, H, h, c, hc => by cases c <;> simp [chk] at hc; exact AWp.ret h
  | .exit id, Q, E, D, H, h, c, hc => by cases c <;> simp [chk] at hc; subst hc; exact AWp.exit h
  | .seq a b, Q, E, D, H, h, c, hc => by
    cases c <;> simp only [chk, Bool.false_eq_true, Bool.and_eq_true] at hc
    refine AWp.seq ((sw_sound (s := a) h _ hc.1).mono ?_)
    intro x E' D' H' hx
    cases x with
    | normal => exact sw_sound (s := b) hx _ hc.2
    | exit => exact hx
    | ret => exact hx
  | .cond o t e, Q, E, D, H, h, c, hc => by
    cases c <;> simp only [chk, Bool.false_eq_true, Bool.and_eq_true] at hc
    rename_i o' t' e'
    simp only [sw] at h
    split at h
    case h_2 => exact h.elim
    rename_i b hb
    intro G a w r
    have hR := opd_R r hc.1.1 hb
    have hv : a.eval o' = .bool b := by
      generalize a.eval o' = v at hR ⊢
      cases hR; rfl
    refine wp_cond hv ?_
    cases b with
    | true => exact sw_sound (s := t) (h.1 rfl) _ hc.1.2 G a w r
    | false => exact sw_sound (s := e) (h.2 rfl) _ hc.2 G a w r
  | .block id s, Q, E, D, H, h, c, hc => by
    cases c <;> simp only [chk, Bool.false_eq_true, Bool.and_eq_true, beq_iff_eq] at hc
    obtain ⟨rfl, hc⟩ := hc
    exact AWp.block (sw_sound (s := s) h _ hc)
  | .loop s, Q, E, D, H, h, c, hc => h c hc
  | .cut s, Q, E, D, H, h, c, hc => h c (by simpa only [chk] using hc)
  | .region draw ops, Q, E, D, H, h, c, hc => by
    cases c <;> simp only [chk, Bool.false_eq_true, Bool.and_eq_true, beq_iff_eq] at hc
    rename_i id ops' draw'
    obtain ⟨⟨rfl, h1⟩, h2⟩ := hc
    simp only [sw] at h
    cases draw' with
    | false => exact AWp.region h1 (by simpa using h)
    | true =>
      simp only [Bool.not_true, Bool.false_or, Bool.and_eq_true] at h2
      exact AWp.regionD h2.1 h1 h2.2 (by simpa using h)

theorem SWp.mono {s : SCode} {Q Q' : APost} {E : Env} {D : List ADef} {H : AHeap} (h : SWp P N s Q E D H) (hq : ∀ x E D H, Q x E D H → Q' x E D H) : SWp P N s Q' E D H :=
  fun c hc => (h c hc).mono hq
theorem SWp.shift {s : SCode} {Q : APost} {E E' : Env} {D D' : List ADef} {H H' : AHeap} (sh : Shift E D H E' D' H') (h : SWp P N s Q E' D' H') : SWp P N s Q E D H :=
  fun c hc => AWp.shift sh (h c hc)
theorem SWp.loop {s : SCode} {Q : APost} {E : Env} {D : List ADef} {H : AHeap} {σ : Type} (I : σ → Env → List ADef → AHeap → Prop) (μ : σ → Nat) (s0 : σ) (h0 : I s0 E D H)
    (round : ∀ x E D H, I x E D H → SWp P N s (AThen (fun E' D' H' => ∃ s' E'' D'' H'', Shift E' D' H' E'' D'' H'' ∧ I s' E'' D'' H'' ∧ μ s' < μ x) Q) E D H) : SWp P N (.loop s) Q E D H := by
  intro c hc
  cases c <;> simp only [chk, Bool.false_eq_true] at hc
  exact AWp.loop I μ s0 h0 fun x E D H hI => round x E D H hI _ hc

/-- A loop: at each round's begin just this is known. -/
theorem SWp.rounds {s : SCode} {Q : APost} {E : Env} {D : List ADef} {H : AHeap} {σ : Type} (st : σ → Env) (hp : σ → AHeap) (p : σ → Prop) (μ : σ → Nat) (s0 : σ) (hE : EWk E (st s0)) (hH : HWk H (hp s0)) (h0 : p s0)
    (round : ∀ x, p x → sw P N s (AThen (fun E' D' H' => D' = D ∧ ∃ x', p x' ∧ μ x' < μ x ∧ EWk E' (st x') ∧ HWk H' (hp x')) Q) (st x) D (hp x)) : SWp P N (.loop s) Q E D H := by
  refine SWp.shift (shift_wk hE hH) ?_
  refine SWp.loop (fun x E' D' H' => E' = st x ∧ D' = D ∧ H' = hp x ∧ p x) μ s0 ⟨rfl, rfl, rfl, h0⟩ ?_
  rintro x E' D' H' ⟨rfl, rfl, rfl, hp'⟩
  refine (sw_sound (round x hp')).mono ?_
  intro e E2 D2 H2 he
  cases e with
  | normal =>
    obtain ⟨rfl, x', h1, h2, h3, h4⟩ := he
    exact ⟨x', _, _, _, shift_wk h3 h4, ⟨rfl, rfl, rfl, h1⟩, h2⟩
  | exit => exact he
  | ret => exact he

/-! Functions. -/
inductive SRes where
  | t (n : Nat)
  | cell (n : Nat) (agg : Bool) (size : Nat)
def chkRess (P : Program) : List ResultVar → List SRes → Bool
  | [], [] => true
  | .tmp a :: r, .t b :: r' => a == b && chkRess P r r'
  | .cell a t :: r, .cell b agg n :: r' => a == b && tyOk P t agg n && chkRess P r r'
  | _, _ => false
def evRes (E : Env) (H : AHeap) : List SRes → Option (List AV)
  | [] => some []
  | .t n :: r => match E.get n, evRes E H r with
    | some x, some l => some (x :: l)
    | _, _ => none
  | .cell n agg k :: r => match E.get n with
    | some p => (match ldA agg k p H, evRes E H r with | some x, some l => some (x :: l) | _, _ => none)
    | none => none
structure SFn where
  n : Nat
  code : SCode
  res : List SRes
def chkFn (P : Program) (f : Nat) (F : SFn) : Bool :=
  match P.funcs[f]? with
  | some fn => fn.ntmps == F.n && (match fn.body with | some c => chk P F.n c F.code | none => false) && chkRess P fn.results.toList F.res
  | none => false
def oneOf : List AV → AV
  | [x] => x
  | l => .tup l
def RetQ (rs : List SRes) (Q : AV → AHeap → Prop) : APost
  | .exit _, _, _, _ => False
  | _, E, D, H => D = [] ∧ match evRes E H rs with
    | some l => Q (oneOf l) H
    | none => False
def argEnv : Nat → List AV → Env
  | _, [] => []
  | k, x :: r => (k, x) :: argEnv (k + 1) r

def resV (tmps : Array Value) : ResultVar → Sem Value
  | .tmp t => pure (tmps.getD t undef)
  | .cell p t => do loadVar t (← asAddr (tmps.getD p undef))
theorem results_eq (fn : Func) (tmps : Array Value) : results fn tmps = (do
    let vs ← fn.results.mapM (resV tmps)
    pure (if h : vs.size = 1 then vs[0] else .tuple vs)) := by
  unfold results
  have : (fun r => resV tmps r) = (fun r : ResultVar => match r with | .tmp t => pure (tmps.getD t undef) | .cell a t => (do loadVar t (← asAddr (tmps.getD a undef)))) := by
    funext r; cases r <;> rfl
  rw [show resV tmps = (fun r => resV tmps r) from rfl, this]
  rfl
theorem res_ok {G : Gh} {a : Act} {w : World} {E : Env} {D : List ADef} {H : AHeap} (hr : Rep N G a w E D H) : ∀ {rs : List ResultVar} {srs : List SRes} {l : List AV}, chkRess P rs srs = true → evRes E H srs = some l →
    ∃ vs : List Value, (rs.mapM (resV a.tmps)).run P w = .ok vs w ∧ RL G w vs l
  | [], [], l, _, h => by simp [evRes] at h; subst h; exact ⟨[], by simp, RL.nil _ _⟩
  | .tmp t :: rs, .t n :: srs, l, hc, h => by
    simp only [chkRess, Bool.and_eq_true, beq_iff_eq] at hc
    obtain ⟨rfl, hc⟩ := hc
    simp only [evRes] at h
    split at h
    case h_2 => cases h
    rename_i x l' hx hl
    cases h
    obtain ⟨vs, h1, h2⟩ := res_ok hr hc hl
    refine ⟨a.tmps.getD t undef :: vs, ?_, RL.cons (hr.env _ _ hx) h2⟩
    simp only [List.mapM_cons, resV, Sem.run_bind, Sem.run_pure, Result.andThen_ok, h1]
  | .cell p t :: rs, .cell n agg k :: srs, l, hc, h => by
    simp only [chkRess, Bool.and_eq_true, beq_iff_eq] at hc
    obtain ⟨⟨rfl, ht⟩, hc⟩ := hc
    simp only [evRes] at h
    split at h
    case h_2 => cases h
    rename_i x hx
    split at h
    case h_2 => cases h
    rename_i y l' hy hl
    cases h
    obtain ⟨vs, h1, h2⟩ := res_ok hr hc hl
    obtain ⟨ad, v, e1, e2, e3⟩ := run_load (P := P) ht hr.inv (hr.env _ _ hx) hy
    refine ⟨v :: vs, ?_, RL.cons e3 h2⟩
    have ha : (asAddr (a.tmps.getD p undef)).run P w = .ok ad w := by rw [e1]; rfl
    simp only [List.mapM_cons, resV, Sem.run_bind, Sem.run_pure, Result.andThen_ok, ha, e2, h1]
  | [], _ :: _, _, hc, _ => by simp [chkRess] at hc
  | _ :: _, [], _, hc, _ => by cases ‹ResultVar› <;> simp [chkRess] at hc
  | .tmp _ :: _, .cell .. :: _, _, hc, _ => by simp [chkRess] at hc
  | .cell .. :: _, .t _ :: _, _, hc, _ => by simp [chkRess] at hc

theorem argEnv_get {G : Gh} {w : World} : ∀ {vs : List Value} {xs : List AV} {k t : Nat} {y : AV}, RL G w vs xs → (argEnv k xs).get t = some y → ∃ v, vs[t - k]? = some v ∧ k ≤ t ∧ R G w v y
  | [], [], k, t, y, _, h => by simp [argEnv, Env.get] at h
  | v :: vs, x :: xs, k, t, y, hRL, h => by
    simp only [argEnv, Env.get] at h
    have htl : RL G w vs xs := ⟨by simpa using hRL.1, fun j v x a b => hRL.2 (j + 1) v x (by simpa using a) (by simpa using b)⟩
    split at h
    · rename_i e
      cases h
      subst e
      exact ⟨v, by simp, Nat.le_refl _, hRL.2 0 v _ (by simp) (by simp)⟩
    · rename_i e
      obtain ⟨u, h1, h2, h3⟩ := argEnv_get htl h
      refine ⟨u, ?_, by omega, h3⟩
      rw [show t - k = (t - (k + 1)) + 1 by omega, List.getElem?_cons_succ]
      exact h1
  | [], _ :: _, _, _, _, h, _ => by have := h.1; simp at this
  | _ :: _, [], _, _, _, h, _ => by have := h.1; simp at this

/-- A function: from its code as it is told. -/
theorem acalls_fn {f : Nat} {F : SFn} (hF : chkFn P f F = true) {args : List AV} (hn : args.length ≤ F.n) {H : AHeap} {Q : AV → AHeap → Prop} (h : sw P F.n F.code (RetQ F.res Q) (argEnv 0 args) [] H) : ACalls P f args H Q := by
  unfold chkFn at hF
  split at hF
  case h_2 => cases hF
  rename_i fn hfn
  simp only [Bool.and_eq_true, beq_iff_eq] at hF
  obtain ⟨⟨h1, h2⟩, h3⟩ := hF
  split at h2
  case h_2 => cases h2
  rename_i c hb
  intro G w vs hi hRL
  refine calls_of_wp hfn hb ?_
  have hlen : vs.size = args.length := by simpa using hRL.1
  have hrep : Rep F.n G { tmps := vs ++ Array.replicate (fn.ntmps - vs.size) undef, defers := [] } w (argEnv 0 args) [] H := by
    refine ⟨hi, by simp; omega, trivial, fun t y hy => ?_⟩
    obtain ⟨v, a1, _, a3⟩ := argEnv_get hRL hy
    have : (vs ++ Array.replicate (fn.ntmps - vs.size) undef).getD t undef = v := by
      have hv : vs[t]? = some v := by simpa using a1
      have hlt := (Array.getElem?_eq_some_iff.1 hv).1
      rw [Array.getD_eq_getD_getElem?, Array.getElem?_append_left hlt, hv]; rfl
    simp only [this]
    exact a3
  refine wp_mono (sw_sound h c h2 G _ w hrep) ?_
  rintro e a' w' ⟨x, G', E', D', H', rfl, hr', he, hq⟩
  have fin : D' = [] → (match evRes E' H' F.res with | some l => Q (oneOf l) H' | none => False) →
      a'.defers = [] ∧ ∃ v, (results fn a'.tmps).run P w' = .ok v w' ∧ ∃ G' v' x H', (Ending.returned v : Ending) = .returned v' ∧ Inv G' w' H' ∧ Ext G w G' w' ∧ R G' w' v' x ∧ Q x H' := by
    clear hq
    intro hD hq
    subst hD
    have hdef : a'.defers = [] := by
      have := hr'.defs
      cases hd : a'.defers with
      | nil => rfl
      | cons d ds => rw [hd] at this; exact this.elim
    split at hq
    case h_2 => exact hq.elim
    rename_i l hl
    obtain ⟨us, hrun, hRLu⟩ := res_ok (P := P) hr' h3 hl
    have hres : (results fn a'.tmps).run P w' = .ok (if h : us.toArray.size = 1 then us.toArray[0] else .tuple us.toArray) w' := by
      rw [results_eq, Array.mapM_eq_mapM_toList]
      simp only [Sem.run_bind, Sem.run_map, hrun, Result.andThen_ok, Sem.run_pure]
    refine ⟨hdef, _, hres, G', _, oneOf l, H', rfl, hr'.inv, he, ?_, hq⟩
    cases us with
    | nil =>
      have : l = [] := List.eq_nil_of_length_eq_zero (by simpa using hRLu.1.symm)
      subst this
      simp only [oneOf]
      rw [dif_neg (by simp)]
      exact .tup _ _ rfl (fun j v x h => by simp at h)
    | cons u us =>
      cases l with
      | nil => have := hRLu.1; simp at this
      | cons y l =>
        cases us with
        | nil =>
          have : l = [] := List.eq_nil_of_length_eq_zero (by have := hRLu.1; simpa using this.symm)
          subst this
          rw [dif_pos (by simp)]
          exact hRLu.2 0 u y rfl rfl
        | cons u2 us =>
          cases l with
          | nil => have := hRLu.1; simp at this
          | cons y2 l =>
            rw [dif_neg (by simp)]
            exact .tup _ _ (by have := hRLu.1; simpa using this) (fun j v x a b => hRLu.2 j v x (by simpa using a) b)
  cases x with
  | exit => exact hq.elim
  | normal => exact fin hq.1 hq.2
  | ret => exact fin hq.1 hq.2
end
end Go.Proofs.YtjgkfgocgknjjaaDoor.Abs
