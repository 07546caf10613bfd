/- The abstract machine, part 11: regions whose order is drawn. -/
import Derived.Test.YtjgkfgocgknjjaaDoorA10
set_option linter.unusedVariables false
set_option linter.unusedSimpArgs false
namespace Go.Proofs.YtjgkfgocgknjjaaDoor.Abs
open Go Go.RowKit

def optL : Option Opd → List Opd
  | none => []
  | some x => [x]
def SOp.opds : SOp → List Opd
  | .mv x => [x]
  | .pick c a b => [c, a, b]
  | .alloc _ => []
  | .box x => [x]
  | .build _ ps => ps.map fun p => p.2.2
  | .bslice _ xs => xs
  | .load _ _ x => [x]
  | .store _ a v => [a, v]
  | .bin _ x y => [x, y]
  | .beq _ x y => [x, y]
  | .un _ x => [x]
  | .conv _ x => [x]
  | .mkfn _ a b => a ++ b
  | .mkslice _ _ _ l c => [l, c]
  | .slc _ _ x lo hi => x :: (optL lo ++ optL hi)
  | .faddr _ x => [x]
  | .fld _ _ _ x => [x]
  | .iaddr _ x i => [x, i]
  | .iarr _ _ x i => [x, i]
  | .idx x i => [x, i]
  | .aidx _ _ _ x i => [x, i]
  | .ext x _ => [x]
  | .len _ x => [x]
  | .app _ _ _ s x => [s, x]
  | .appz _ _ s x => [s, x]
  | .mm _ x y => [x, y]
  | .call _ xs => xs
  | .callv x xs => x :: xs
/-- 0: hangs on no heap; 1: reads it; 2: writes to it; 3: makes an entry. -/
def SOp.kind : SOp → Nat
  | .load .. => 1
  | .store .. => 2
  | .alloc _ | .box _ | .mkslice .. | .app .. => 3
  | _ => 0

theorem evs_congr {E E' : Env} : ∀ {l : List Opd}, (∀ p ∈ l, E.ev p = E'.ev p) → E.evs l = E'.evs l
  | [], _ => rfl
  | x :: r, h => by simp only [Env.evs]; rw [h x (by simp), evs_congr fun p hp => h p (by simp [hp])]
theorem evParts_congr {E E' : Env} : ∀ {l : List (Nat × Nat × Opd)}, (∀ p ∈ l.map (fun p => p.2.2), E.ev p = E'.ev p) → evParts E l = evParts E' l
  | [], _ => rfl
  | (o, s, x) :: r, h => by simp only [evParts]; rw [h x (by simp), evParts_congr fun p hp => h p (by simp at hp ⊢; exact .inr hp)]
theorem evOpt_congr {E E' : Env} {o : Option Opd} (h : ∀ p ∈ optL o, E.ev p = E'.ev p) : evOpt E o = evOpt E' o := by
  cases o with
  | none => rfl
  | some x => simp only [evOpt]; rw [h x (by simp [optL])]
theorem evalS_congr {E E' : Env} {s : SOp} (h : ∀ p ∈ s.opds, E.ev p = E'.ev p) (g : Nat) (H : AHeap) : evalS g s E H = evalS g s E' H := by
  cases s with
  | build z ps => simp only [evalS]; rw [evParts_congr (E := E) (E' := E') (l := ps) h]
  | bslice sz xs => simp only [evalS]; rw [evs_congr (E := E) (E' := E') (l := xs) h]
  | mkfn f a b => simp only [evalS]; rw [evs_congr fun p hp => h p (by simp [SOp.opds, hp]), evs_congr fun p hp => h p (by simp [SOp.opds, hp])]
  | slc sz st x lo hi =>
    simp only [evalS]
    rw [h x (by simp [SOp.opds]), evOpt_congr (o := lo) fun p hp => h p (by simp [SOp.opds, hp]), evOpt_congr (o := hi) fun p hp => h p (by simp [SOp.opds, hp])]
  | pick c a b => simp only [evalS]; rw [h c (by simp [SOp.opds]), h a (by simp [SOp.opds]), h b (by simp [SOp.opds])]
  | call | callv | alloc => rfl
  | mv x | box x | load _ _ x | un _ x | conv _ x | faddr _ x | fld _ _ _ x | ext x _ | len _ x => simp only [evalS]; rw [h x (by simp [SOp.opds])]
  | store _ x y | bin _ x y | beq _ x y | mkslice _ _ _ x y | iaddr _ x y | iarr _ _ x y | idx x y | aidx _ _ _ x y | app _ _ _ x y | appz _ _ x y | mm _ x y => simp only [evalS]; rw [h x (by simp [SOp.opds]), h y (by simp [SOp.opds])]
theorem evalS_pure {E : Env} {s : SOp} {x : AV} {g : Nat} {H H' : AHeap} (hk : s.kind = 0) (h : evalS g s E H = some (x, H')) : H' = H ∧ ∀ J, evalS g s E J = some (x, J) := by
  cases s <;> simp only [SOp.kind] at hk <;> try (cases hk; done)
  all_goals
    first
    | (simp only [evalS] at h ⊢
       repeat' split at h
       all_goals first
         | (simp only [Option.some.injEq, Prod.mk.injEq] at h; obtain ⟨rfl, rfl⟩ := h; refine ⟨rfl, fun J => ?_⟩; simp_all)
         | (cases h; done)
         | (simp only [bsA] at h ⊢; split at h
            · simp only [Option.some.injEq, Prod.mk.injEq] at h; obtain ⟨rfl, rfl⟩ := h; refine ⟨rfl, fun J => ?_⟩; simp_all
            · cases h))
    | (simp [evalS] at h)
theorem evalS_load {E : Env} {s : SOp} {x : AV} {g : Nat} {H H' : AHeap} (hk : s.kind = 1) (h : evalS g s E H = some (x, H')) : H' = H := by
  cases s <;> simp only [SOp.kind] at hk <;> try (cases hk; done)
  simp only [evalS] at h
  repeat' split at h
  all_goals first
    | (simp only [Option.some.injEq, Prod.mk.injEq] at h; exact h.2.symm)
    | cases h

def SOper.reads (o : SOper) : List Nat :=
  (match o.guard with | some (t, _) => [t] | none => []) ++ o.op.opds.filterMap fun | .t n => some n | _ => none
def wantA (o : SOper) (E : Env) : Option Bool :=
  match o.guard with
  | none => some true
  | some (t, want) => match E.get t with
    | some (.bool b) => some (b == want)
    | some (.tup _) => some false
    | _ => none

def StepD (P : Program) (o : SOper) (E : Env) (H : AHeap) (x : AV) (H' : AHeap) : Prop :=
  match wantA o E with
  | some false => x = .tup [] ∧ H' = H
  | some true => (match o.op with
    | .call f args => ∃ xs, E.evs args = some xs ∧ PCall P f xs x ∧ H' = H
    | .callv y args => ∃ f first caps xs, E.ev y = some (.fn (.func f) first caps) ∧ E.evs args = some xs ∧ fnOk P f = true ∧ PCall P f (first ++ xs ++ caps) x ∧ H' = H
    | s => s.news = false ∧ evalS 0 s E H = some (x, H'))
  | none => False

theorem ev_congr {E E' : Env} {o : SOper} (h : ∀ t ∈ o.reads, E.get t = E'.get t) : wantA o E = wantA o E' ∧ ∀ p ∈ o.op.opds, E.ev p = E'.ev p := by
  refine ⟨?_, fun p hp => ?_⟩
  · unfold wantA
    split
    · rfl
    · rename_i t want hg
      rw [h t (by simp [SOper.reads, hg])]
  · cases p with
    | t n =>
      refine h n ?_
      simp only [SOper.reads, List.mem_append, List.mem_filterMap]
      exact .inr ⟨_, hp, rfl⟩
    | c | f | g => rfl
theorem stepD_congr {P : Program} {o : SOper} {E E' : Env} {H H' : AHeap} {x : AV} (h : ∀ t ∈ o.reads, E.get t = E'.get t) (k : StepD P o E H x H') : StepD P o E' H x H' := by
  obtain ⟨hw, ho⟩ := ev_congr h
  unfold StepD at k ⊢
  rw [← hw]
  split at k
  · exact k
  · split at k
    · rename_i f args hop
      obtain ⟨xs, h1, h2⟩ := k
      exact ⟨xs, by rw [← evs_congr (fun p hp => ho p (by rw [hop]; simpa [SOp.opds] using hp))]; exact h1, h2⟩
    · rename_i y args hop
      obtain ⟨f, first, caps, xs, h1, h2, h3⟩ := k
      refine ⟨f, first, caps, xs, ?_, ?_, h3⟩
      · rw [← ho y (by rw [hop]; simp [SOp.opds])]; exact h1
      · rw [← evs_congr (fun p hp => ho p (by rw [hop]; simp [SOp.opds, hp]))]; exact h2
    · exact ⟨k.1, by rw [← evalS_congr ho]; exact k.2⟩
  · exact k
theorem stepD_pure {P : Program} {o : SOper} {E : Env} {H H' : AHeap} {x : AV} (hk : o.op.kind = 0) (k : StepD P o E H x H') : H' = H ∧ ∀ J, StepD P o E J x J := by
  unfold StepD at k ⊢
  split at k
  · exact ⟨k.2, fun J => ⟨k.1, rfl⟩⟩
  · split at k
    · obtain ⟨xs, h1, h2, h3⟩ := k; exact ⟨h3, fun J => ⟨xs, h1, h2, rfl⟩⟩
    · obtain ⟨f, first, caps, xs, h1, h2, h3, h4, h5⟩ := k; exact ⟨h5, fun J => ⟨f, first, caps, xs, h1, h2, h3, h4, rfl⟩⟩
    · obtain ⟨h1, h2⟩ := evalS_pure hk k.2
      exact ⟨h1, fun J => ⟨k.1, h2 J⟩⟩
  · exact k.elim
theorem stepD_load {P : Program} {o : SOper} {E : Env} {H H' : AHeap} {x : AV} (hk : o.op.kind = 1) (k : StepD P o E H x H') : H' = H := by
  unfold StepD at k
  split at k
  · exact k.2
  · split at k
    · exact k.choose_spec.2.2
    · obtain ⟨f, first, caps, xs, h1, h2, h3, h4, h5⟩ := k; exact h5
    · exact evalS_load hk k.2
  · exact k.elim

section
variable {P : Program} {N : Nat} {D : List ADef}
theorem stepD_ok {G : Gh} {a : Act} {w : World} {E : Env} {H H' : AHeap} {x : AV} {ops : Array Oper} {i : Nat} {o : Oper} (ho : ops[i]? = some o) {so : SOper} (hc : chkOper P N ops o so = true) (hr : Rep N G a w E D H) (hk : StepD P so E H x H')
    {next : Act → World → Prop} {Qc : Exit → Act → World → Prop} (hn : ∀ G' a' w', Rep N G' a' w' (E.put so.dst x) D H' → Ext G w G' w' → next a' w') : wpOp P ops Qc i next a w := by
  have hone : ∀ (E1 : Env), (∀ t, E1.get t = E.get t) → wantA so E = some true → rgnOne P so E1 H fun E' H'' => (∀ t, E'.get t = (E.put so.dst x).get t) ∧ H'' = H' := by
    intro E1 hE1 hw
    have hop : ∀ p, E1.ev p = E.ev p := fun p => by cases p <;> simp [Env.ev, hE1]
    have hput : ∀ y, ∀ t, (E1.put so.dst y).get t = (E.put so.dst y).get t := by
      intro y t
      cases so.dst with
      | none => exact hE1 t
      | some d => simp [Env.get_put, hE1]
    unfold StepD at hk
    rw [hw] at hk
    simp only at hk
    unfold rgnOne
    split
    · rename_i f args hso
      rw [hso] at hk
      obtain ⟨xs, h1, h2, h3⟩ := hk
      rw [evs_congr (fun p _ => hop p), h1]
      refine (h2 H).mono ?_
      rintro y H'' ⟨rfl, rfl⟩
      exact ⟨hput _, h3.symm⟩
    · rename_i y args hso
      rw [hso] at hk
      obtain ⟨f, first, caps, xs, h1, h2, h3, h4, h5⟩ := hk
      rw [hop, h1, evs_congr (fun p _ => hop p), h2]
      refine ⟨h3, (h4 H).mono ?_⟩
      rintro y H'' ⟨rfl, rfl⟩
      exact ⟨hput _, h5.symm⟩
    · rename_i hn1 hn2
      have hk' : so.op.news = false ∧ evalS 0 so.op E H = some (x, H') := by
        revert hk
        cases hso : so.op <;> intro hk <;> first | exact hk | exact absurd hso (hn1 _ _) | exact absurd hso (hn2 _ _)
      rw [if_neg (by rw [hk'.1]; simp), evalS_congr (fun p _ => hop p), hk'.2]
      exact ⟨hput x, rfl⟩
  have hrepc : ∀ {G' a' w' E1 H1}, Rep N G' a' w' E1 D H1 → (∀ t, E1.get t = (E.put so.dst x).get t) → Rep N G' a' w' (E.put so.dst x) D H1 := fun r h =>
    ⟨r.inv, r.size, r.defs, fun t y hy => r.env t y (by rw [h]; exact hy)⟩
  have hg : rgnGuard P so E H fun E' H'' => (∀ t, E'.get t = (E.put so.dst x).get t) ∧ H'' = H' := by
    have hk0 := hk
    unfold StepD at hk
    unfold rgnGuard
    split
    · rename_i hgn
      exact hone E (fun _ => rfl) (by simp [wantA, hgn])
    · rename_i t want hgs
      have hw : wantA so E = (match E.get t with | some (.bool b) => some (b == want) | some (.tup _) => some false | _ => none) := by simp [wantA, hgs]
      split
      · rename_i b hb
        rw [hb] at hw
        simp only at hw
        refine ⟨fun e => ?_, fun e => ?_⟩
        · subst e
          refine hone _ (fun u => ?_) (by rw [hw]; simp)
          rw [Env.get_put]
          split
          · rename_i e; subst e; exact hb.symm
          · rfl
        · subst e
          have : wantA so E = some false := by rw [hw]; cases want <;> rfl
          rw [this] at hk
          simp only at hk
          obtain ⟨rfl, rfl⟩ := hk
          refine ⟨fun u => ?_, rfl⟩
          have hE1 : ∀ u, (E.put (some t) (.bool (!want))).get u = E.get u := by
            intro u
            rw [Env.get_put]
            split
            · rename_i e; subst e; exact hb.symm
            · rfl
          cases so.dst with
          | none => exact hE1 u
          | some d =>
            rw [Env.get_put _ d, Env.get_put E d, hE1]
      · rename_i l hl
        rw [hl] at hw
        simp only at hw
        rw [hw] at hk
        simp only at hk
        obtain ⟨rfl, rfl⟩ := hk
        exact ⟨fun u => rfl, rfl⟩
      · rename_i hnb hnt
        have : wantA so E = none := by
          rw [hw]
          split
          · rename_i b hb; exact absurd hb (hnb b)
          · rename_i b hb; exact absurd hb (hnt b)
          · rfl
        rw [this] at hk
        exact hk.elim
  refine guard_ok ho hc hr hg ?_
  rintro G' a' w' E' H'' hr' he ⟨h1, rfl⟩
  exact hn G' a' w' (hrepc hr' h1) he
end
end Go.Proofs.YtjgkfgocgknjjaaDoor.Abs
