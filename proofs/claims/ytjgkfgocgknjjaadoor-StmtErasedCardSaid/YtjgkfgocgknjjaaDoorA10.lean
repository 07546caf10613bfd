/- The abstract machine, part 10: calls, and regions in their own order. -/
import Derived.Test.YtjgkfgocgknjjaaDoorA9
set_option linter.unusedVariables false
set_option linter.unusedSimpArgs false
namespace Go.Proofs.YtjgkfgocgknjjaaDoor.Abs
open Go Go.RowKit

structure SOper where
  dst : Option Nat
  op : SOp
  guard : Option (Nat × Bool) := none
  bar : Bool := false
  loose : Bool := false

/-- A call that hands back just this, and leaves all as it was. -/
def PCall (P : Program) (f : FuncId) (args : List AV) (r : AV) : Prop := ∀ H, ACalls P f args H fun r' H' => r' = r ∧ H' = H

def rgnOne (P : Program) (o : SOper) (E : Env) (H : AHeap) (K : Env → AHeap → Prop) : Prop :=
  match o.op with
  | .call f args => match E.evs args with
    | some xs => ACalls P f xs H fun r H' => K (E.put o.dst r) H'
    | none => False
  | .callv y args => match E.ev y, E.evs args with
    | some (.fn (.func f) first caps), some xs => fnOk P f = true ∧ ACalls P f (first ++ xs ++ caps) H fun r H' => K (E.put o.dst r) H'
    | _, _ => False
  | s => if s.news then (∀ g, match evalS g s E H with | some (x, H') => K (E.put o.dst x) H' | none => False)
    else match evalS 0 s E H with | some (x, H') => K (E.put o.dst x) H' | none => False

def rgnGuard (P : Program) (o : SOper) (E : Env) (H : AHeap) (K : Env → AHeap → Prop) : Prop :=
  match o.guard with
  | none => rgnOne P o E H K
  | some (t, want) => match E.get t with
    | some (.bool b) => (b = want → rgnOne P o (E.put (some t) (.bool want)) H K) ∧ (b = (!want) → K ((E.put (some t) (.bool (!want))).put o.dst (.tup [])) H)
    | some (.tup _) => K (E.put o.dst (.tup [])) H
    | _ => False

def rgn (P : Program) : List SOper → Env → AHeap → (Env → AHeap → Prop) → Prop
  | [], E, H, K => K E H
  | o :: os, E, H, K => rgnGuard P o E H fun E' H' => rgn P os E' H' K

def chkGuard (ops : Array Oper) : Option (Nat × Bool) → Option (Nat × Bool) → Bool
  | none, none => true
  | some (j, b), some (t, b') => b == b' && ((ops[j]?).bind (·.dst) == some t)
  | _, _ => false
def chkOper (P : Program) (N : Nat) (ops : Array Oper) (o : Oper) (so : SOper) : Bool :=
  (o.dst == so.dst) && (match o.dst with | some d => decide (d < N) | none => true) && chkGuard ops o.guard so.guard && chkOp P o.op so.op

section
variable {P : Program} {N : Nat} {G : Gh} {a : Act} {w : World} {E : Env} {D : List ADef} {H : AHeap}

theorem evalS_gen {s : SOp} (h : s.news = false) (g g' : Nat) : evalS g s E H = evalS g' s E H := by
  cases s <;> first | rfl | simp [SOp.news] at h

theorem fn_ok {f : Nat} (h : fnOk P f = true) : ∃ fn, P.funcs[f]? = some fn ∧ fn.body.isSome = true ∧ (fn.name == "runtime.NumGoroutine") = false := by
  unfold fnOk at h
  split at h
  · rename_i fn hf
    simp only [Bool.and_eq_true, Bool.not_eq_true'] at h
    exact ⟨fn, hf, h.1, h.2⟩
  · cases h
theorem run_callFunc {f : Nat} (h : fnOk P f = true) (args : Array Value) : (callFunc f args).run P w = .ok (.enter f args) w := by
  obtain ⟨fn, h1, h2, h3⟩ := fn_ok h
  have h2' : fn.body.isNone = false := by cases hb : fn.body with | none => simp [hb] at h2 | some _ => rfl
  simp only [callFunc, Sem.run_bind, run_program, Result.andThen_ok, h1, h3, h2', Bool.false_eq_true, if_false, Sem.run_pure]

theorem call_run {o : Oper} {f : Nat} {args : List Opd} {xs : List AV} (hc : chkOp P o.op (.call f args) = true) (hr : Rep N G a w E D H) (hx : E.evs args = some xs) :
    ∃ vs : Array Value, (execOp a.eval o).run P w = .ok (.enter f vs) w ∧ RL G w vs.toList xs := by
  obtain ⟨dst, op, ty, pos, after, guard⟩ := o
  dsimp only at hc
  unfold chkOp at hc
  split at hc <;> try (rename_i hh; cases hh; done)
  · rename_i f0 args' argTypes f1 as1 heq; cases heq
    simp only [Bool.and_eq_true, beq_iff_eq] at hc
    obtain ⟨⟨rfl, h2⟩, h3⟩ := hc
    refine ⟨args'.map a.eval, ?_, by simpa using opds_R hr h3 hx⟩
    simp [execOp, resolve, Act.eval, Deferred.ofValue, invoke, run_callFunc h2]
  · cases hc

theorem callv_run {o : Oper} {y : Opd} {args : List Opd} {f : Nat} {first caps xs : List AV} (hc : chkOp P o.op (.callv y args) = true) (hr : Rep N G a w E D H) (hy : E.ev y = some (.fn (.func f) first caps)) (hx : E.evs args = some xs) (hf : fnOk P f = true) :
    ∃ vs : Array Value, (execOp a.eval o).run P w = .ok (.enter f vs) w ∧ RL G w vs.toList (first ++ xs ++ caps) := by
  obtain ⟨dst, op, ty, pos, after, guard⟩ := o
  dsimp only at hc
  unfold chkOp at hc
  split at hc <;> try (rename_i hh; cases hh; done)
  · rename_i x0 args' argTypes y1 as1 heq; cases heq
    simp only [Bool.and_eq_true] at hc
    have hR := opd_R hr hc.1 hy
    have hA := opds_R hr hc.2 hx
    generalize he : a.eval x0 = u at hR
    cases hR with
    | fn _ fs cs _ _ h1 h2 h3 h4 =>
    refine ⟨fs ++ args'.map a.eval ++ cs, ?_, ?_⟩
    · simp [execOp, resolve, he, Deferred.ofValue, invoke, run_callFunc hf]
    · simp only [Array.toList_append, Array.toList_map]
      exact RL.append (RL.append ⟨by simpa using h1, fun j v x p q => h3 j v x (by simpa using p) q⟩ hA) ⟨by simpa using h2, fun j v x p q => h4 j v x (by simpa using p) q⟩
  · cases hc

theorem guard_wanted {ops : Array Oper} {o : Oper} {so : SOper} (hr : Rep N G a w E D H) (hg : chkGuard ops o.guard so.guard = true) :
    (so.guard = none → Region.wanted o (yielded ops a.tmps) = true) ∧ (∀ t want b, so.guard = some (t, want) → E.get t = some (.bool b) → Region.wanted o (yielded ops a.tmps) = (b == want)) ∧
    ∀ t want l, so.guard = some (t, want) → E.get t = some (.tup l) → Region.wanted o (yielded ops a.tmps) = false := by
  unfold chkGuard at hg
  split at hg
  · rename_i h1 h2
    exact ⟨fun _ => by simp [Region.wanted, h1], fun t want b h => (by rw [h2] at h; cases h), fun t want b h => (by rw [h2] at h; cases h)⟩
  · rename_i j b t b' h1 h2
    simp only [Bool.and_eq_true, beq_iff_eq] at hg
    obtain ⟨rfl, hd⟩ := hg
    refine ⟨fun h => (by rw [h2] at h; cases h), fun t0 want b0 h hE => ?_, fun t0 want l h hE => ?_⟩
    rotate_left
    · rw [h2] at h; cases h
      have hR := hr.env t _ hE
      have hv : ∃ cs, a.tmps.getD t undef = .tuple cs := by
        generalize a.tmps.getD t undef = v at hR ⊢
        cases hR with
        | tup cs _ _ _ => exact ⟨cs, rfl⟩
      obtain ⟨cs, hv⟩ := hv
      rw [Array.getD_eq_getD_getElem?] at hv
      simp only [Region.wanted, h1, yielded, hd, Option.bind_some]
      cases hq : a.tmps[t]? with
      | none => rfl
      | some v => rw [hq] at hv; simp at hv; rw [hv]; rfl
    rw [h2] at h; cases h
    have hR := hr.env t _ hE
    have hv : a.tmps.getD t undef = .bool b0 := by
      generalize a.tmps.getD t undef = v at hR ⊢
      cases hR; rfl
    have ht : a.tmps[t]? = some (.bool b0) := by
      rw [Array.getD_eq_getD_getElem?] at hv
      cases hq : a.tmps[t]? with
      | none => rw [hq] at hv; simp [undef] at hv
      | some v => rw [hq] at hv; simp at hv; rw [hv]
    simp only [Region.wanted, h1, yielded, hd, Option.bind_some, ht]
    cases b0 <;> cases b <;> rfl
  · cases hg

/-- One operation, whatever comes behind it. -/
theorem one_ok {ops : Array Oper} {o : Oper} {so : SOper} {K : Env → AHeap → Prop} (hc : chkOper P N ops o so = true) (hr : Rep N G a w E D H) (hk : rgnOne P so E H K) {next : Act → World → Prop} {Qc : Exit → Act → World → Prop}
    (hn : ∀ G' a' w' E' H', Rep N G' a' w' E' D H' → Ext G w G' w' → K E' H' → next a' w') : o.wp P a w next Qc := by
  simp only [chkOper, Bool.and_eq_true, beq_iff_eq] at hc
  obtain ⟨⟨⟨hdst, hd⟩, _⟩, hop⟩ := hc
  have hdN : ∀ t, so.dst = some t → t < N := by
    intro t ht
    rw [← hdst] at ht
    rw [ht] at hd
    simpa using hd
  have hput : ∀ (G' : Gh) (w' : World) (H' : AHeap) (v : Value) (x : AV), Inv G' w' H' → Ext G w G' w' → R G' w' v x → K (E.put so.dst x) H' → next (a.put o.dst v) w' := by
    intro G' w' H' v x hi he hR hK
    have hr' : Rep N G' a w' E D H' := ⟨hi, hr.size, hr.defs.ext he, fun t y h => (hr.env t y h).ext he⟩
    have := hr'.put (d := so.dst) hdN hR
    rw [hdst]
    exact hn G' _ w' _ H' this he hK
  have hplain : ∀ x H', evalS G.clock so.op E H = some (x, H') → K (E.put so.dst x) H' → o.wp P a w next Qc := by
    intro x H' hev hK
    obtain ⟨v, w', G', hrun, hi, he, hR⟩ := op_ok hop hr hev
    unfold Oper.wp
    rcases hrun with hrun | ⟨hrun, rfl⟩
    · rw [hrun]; exact hput G' w' H' v x hi he hR hK
    · rw [hrun]; exact hput G' w' H' undef x hi he hR hK
  have hcalls : ∀ (f : Nat) (vs : Array Value) (xs : List AV), (execOp a.eval o).run P w = .ok (.enter f vs) w → RL G w vs.toList xs → ACalls P f xs H (fun r H' => K (E.put so.dst r) H') → o.wp P a w next Qc := by
    intro f vs xs hrun hRL hcall
    unfold Oper.wp
    rw [hrun]
    refine (hcall G w vs hr.inv hRL).mono ?_
    rintro e w' ⟨G', v, x, H', rfl, hi, he, hR, hK⟩
    exact hput G' w' H' v x hi he hR hK
  unfold rgnOne at hk
  split at hk
  · rename_i f args hso
    split at hk
    case h_2 => exact hk.elim
    rename_i xs hxs
    obtain ⟨vs, h1, h2⟩ := call_run (hso ▸ hop) hr hxs
    exact hcalls f vs xs h1 h2 hk
  · rename_i y args hso
    split at hk
    case h_2 => exact hk.elim
    rename_i f first caps xs hy hxs
    obtain ⟨vs, h1, h2⟩ := callv_run (hso ▸ hop) hr hy hxs hk.1
    exact hcalls f vs _ h1 h2 hk.2
  · split at hk
    · have hk := hk G.clock
      split at hk
      · rename_i x H' hev; exact hplain x H' hev hk
      · exact hk.elim
    · rename_i hnew
      split at hk
      · rename_i x H' hev
        rw [evalS_gen (by simpa using hnew) 0 G.clock] at hev
        exact hplain x H' hev hk
      · exact hk.elim

theorem Rep.refine {t : Nat} {b : Bool} (hr : Rep N G a w E D H) (h : E.get t = some (.bool b)) : Rep N G a w (E.put (some t) (.bool b)) D H := by
  refine ⟨hr.inv, hr.size, hr.defs, fun u y hy => ?_⟩
  rw [Env.get_put] at hy
  split at hy
  · rename_i e; subst e; cases hy; exact hr.env _ _ h
  · exact hr.env u y hy

theorem guard_ok {ops : Array Oper} {i : Nat} {o : Oper} (ho : ops[i]? = some o) {so : SOper} {K : Env → AHeap → Prop} (hc : chkOper P N ops o so = true) (hr : Rep N G a w E D H) (hk : rgnGuard P so E H K) {next : Act → World → Prop} {Qc : Exit → Act → World → Prop}
    (hn : ∀ G' a' w' E' H', Rep N G' a' w' E' D H' → Ext G w G' w' → K E' H' → next a' w') : wpOp P ops Qc i next a w := by
  have hg : chkGuard ops o.guard so.guard = true := by simp only [chkOper, Bool.and_eq_true] at hc; exact hc.1.2
  obtain ⟨g1, g2, g3⟩ := guard_wanted hr hg
  unfold wpOp
  simp only [ho]
  unfold rgnGuard at hk
  split at hk
  · rename_i hnone
    rw [if_pos (g1 hnone)]
    exact .inl (one_ok hc hr hk hn)
  · rename_i t want hsome
    split at hk
    case h_3 => exact hk.elim
    case h_2 =>
      rename_i l hb
      rw [g3 t want l hsome hb, if_neg (by simp)]
      simp only [chkOper, Bool.and_eq_true, beq_iff_eq] at hc
      obtain ⟨⟨⟨hdst, hd⟩, _⟩, _⟩ := hc
      have := hr.put (d := so.dst) (fun t ht => by rw [← hdst] at ht; rw [ht] at hd; simpa using hd) (v := undef) (x := .tup []) (.tup _ _ rfl (fun j v x h => by simp at h))
      rw [hdst]
      exact hn G _ w _ H this (Ext.refl _ _) hk
    rename_i b hb
    have hw := g2 t want b hsome hb
    by_cases hbw : b = want
    · subst hbw
      rw [hw, if_pos (by simp)]
      exact .inl (one_ok hc (hr.refine hb) (hk.1 rfl) hn)
    · have hbn : b = !want := by cases b <;> cases want <;> simp_all
      rw [hw, if_neg (by simpa using hbw)]
      have hk2 := hk.2 hbn
      simp only [chkOper, Bool.and_eq_true, beq_iff_eq] at hc
      obtain ⟨⟨⟨hdst, hd⟩, _⟩, _⟩ := hc
      subst hbn
      have := (hr.refine hb).put (d := so.dst) (fun t ht => by rw [← hdst] at ht; rw [ht] at hd; simpa using hd) (v := undef) (x := .tup []) (.tup _ _ rfl (fun j v x h => by simp at h))
      rw [hdst]
      exact hn G _ w _ H this (Ext.refl _ _) hk2

def AllOk (P : Program) (N : Nat) (ops : Array Oper) : List Nat → List SOper → Prop
  | [], [] => True
  | i :: l, so :: sl => (∃ o, ops[i]? = some o ∧ chkOper P N ops o so = true) ∧ AllOk P N ops l sl
  | _, _ => False

theorem rgn_ok {ops : Array Oper} {Q : APost} {G0 : Gh} {w0 : World} : ∀ {l : List Nat} {sl : List SOper}, AllOk P N ops l sl → ∀ {G : Gh} {a : Act} {w : World} {E : Env} {H : AHeap}, Rep N G a w E D H → Ext G0 w0 G w →
    rgn P sl E H (fun E' H' => Q .normal E' D H') → wpOps P ops (CPost N G0 w0 Q) l a w
  | [], [], _, G, a, w, E, H, hr, he, hk => ⟨.normal, G, E, D, H, rfl, hr, he, hk⟩
  | i :: l, so :: sl, ⟨⟨o, ho, hc⟩, hal⟩, G, a, w, E, H, hr, he, hk => by
    rw [wpOps_cons]
    exact guard_ok ho hc hr hk fun G' a' w' E' H' hr' he' hk' => rgn_ok hal hr' (he.trans he') hk'
  | [], _ :: _, h, _, _, _, _, _, _, _, _ => h.elim
  | _ :: _, [], h, _, _, _, _, _, _, _, _ => h.elim

def chkAll (P : Program) (N : Nat) (ops : Array Oper) : List Oper → List SOper → Bool
  | [], [] => true
  | o :: l, so :: sl => chkOper P N ops o so && chkAll P N ops l sl
  | _, _ => false
theorem allOk_of {ops : Array Oper} : ∀ {l : List Oper} {sl : List SOper} (k : Nat), (∀ j, l[j]? = ops[k + j]?) → chkAll P N ops l sl = true → AllOk P N ops (List.range' k l.length) sl
  | [], [], k, _, _ => trivial
  | o :: l, so :: sl, k, hk, h => by
    simp only [chkAll, Bool.and_eq_true] at h
    refine ⟨⟨o, by have := hk 0; simpa using this.symm, h.1⟩, ?_⟩
    exact allOk_of (k + 1) (fun j => by have := hk (j + 1); simpa [Nat.add_assoc, Nat.add_comm 1 j] using this) h.2
  | [], _ :: _, _, _, h => by simp [chkAll] at h
  | _ :: _, [], _, _, h => by simp [chkAll] at h

theorem AWp.region {id : Nat} {ops : Array Oper} {sl : List SOper} {Q : APost} (hc : chkAll P N ops ops.toList sl = true) (h : rgn P sl E H fun E' H' => Q .normal E' D H') : AWp P N (.region id ops false) Q E D H := by
  intro G a w hr
  refine wp_region ?_
  have := allOk_of (P := P) (N := N) (ops := ops) (l := ops.toList) 0 (fun j => by simp) hc
  rw [Array.length_toList, ← List.range_eq_range'] at this
  exact rgn_ok this hr (Ext.refl _ _) h
end
end Go.Proofs.YtjgkfgocgknjjaaDoor.Abs
