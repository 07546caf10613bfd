/- The abstract machine, part 2: the abstract heap, what a call and a piece of code may do, and the rules of control. -/
import Derived.Test.YtjgkfgocgknjjaaDoorA1
set_option linter.unusedVariables false
set_option linter.unusedSimpArgs false
namespace Go.Proofs.YtjgkfgocgknjjaaDoor.Abs
open Go Go.RowKit

inductive Blk where
  | rows (g : Nat) (rs : List (List AV))
  | tail (g sz : Nat)
def Blk.g : Blk → Nat
  | .rows g _ => g
  | .tail g _ => g
abbrev AHeap := List (Option Blk)

structure Holds (G : Gh) (w : World) (l : Loc) : Prop where
  B : G.B ≤ l.blk
  heap : ∃ cs elem, w.heap[l.blk]? = some (.cells cs elem (0, 0)) ∧ l.csize ≤ cs.size
  free : ∀ o, l.base ≤ o → o < l.csize → ¬ G.fz l.blk o

def BlkOk (G : Gh) (w : World) (l : Loc) : Blk → Prop
  | .tail _ sz => l.size = sz
  | .rows _ rs => (∀ row ∈ rs, row.length = l.size) ∧ l.base + rs.length * l.size ≤ l.csize ∧ (∀ row ∈ rs, ∀ x ∈ row, x.single = true) ∧
      ∀ (i j : Nat) (row : List AV) (x : AV), rs[i]? = some row → row[j]? = some x → ∃ v, w.cell? ⟨l.blk, l.base + (i * l.size + j), none⟩ = some v ∧ R G w v x

structure Inv (G : Gh) (w : World) (H : AHeap) : Prop where
  B : G.B ≤ w.heap.size
  fzlt : ∀ k o, G.fz k o → k < w.heap.size
  ok : ∀ b g l, G.at_ b = some (g, l) → g < G.clock ∧ b < H.length ∧ Holds G w l
  ent : ∀ b blk, H[b]? = some (some blk) → ∃ l, G.at_ b = some (blk.g, l) ∧ BlkOk G w l blk
  dist : ∀ b b' g g' l l', b ≠ b' → G.at_ b = some (g, l) → G.at_ b' = some (g', l') → l.blk ≠ l'.blk
  gl : ∀ n cells, gtab n = some cells → R G w (.pointer (some ⟨n, 0, none⟩)) (.rptr cells 0)

/-! Environments: what each slot is known to hold. -/
abbrev Env := List (Nat × AV)
def Env.get : Env → Nat → Option AV
  | [], _ => none
  | (k, v) :: r, t => if k = t then some v else Env.get r t
def Env.put (E : Env) (d : Option Nat) (v : AV) : Env :=
  match d with
  | some d => (d, v) :: E
  | none => E
theorem Env.get_put (E : Env) (d : Nat) (v : AV) (t : Nat) : (E.put (some d) v).get t = if d = t then some v else E.get t := rfl

/-- Lists of values, pointwise. -/
def RL (G : Gh) (w : World) (vs : List Value) (xs : List AV) : Prop :=
  vs.length = xs.length ∧ ∀ (j : Nat) (v : Value) (x : AV), vs[j]? = some v → xs[j]? = some x → R G w v x
theorem RL.ext {G G' : Gh} {w w' : World} (he : Ext G w G' w') {vs : List Value} {xs : List AV} (h : RL G w vs xs) : RL G' w' vs xs :=
  ⟨h.1, fun j v x a b => (h.2 j v x a b).ext he⟩
theorem RL.nil (G : Gh) (w : World) : RL G w [] [] := ⟨rfl, fun j v x h => by simp at h⟩
theorem RL.cons {G : Gh} {w : World} {v : Value} {x : AV} {vs : List Value} {xs : List AV} (h : R G w v x) (k : RL G w vs xs) : RL G w (v :: vs) (x :: xs) := by
  refine ⟨by simp [k.1], fun j u y a b => ?_⟩
  cases j with
  | zero => simp at a b; subst a; subst b; exact h
  | succ j => simp at a b; exact k.2 j u y a b
theorem RL.append {G : Gh} {w : World} {vs us : List Value} {xs ys : List AV} (h : RL G w vs xs) (k : RL G w us ys) : RL G w (vs ++ us) (xs ++ ys) := by
  refine ⟨by simp [h.1, k.1], fun j u y a b => ?_⟩
  by_cases hj : j < vs.length
  · rw [List.getElem?_append_left hj] at a
    rw [List.getElem?_append_left (by rw [← h.1]; exact hj)] at b
    exact h.2 j u y a b
  · rw [List.getElem?_append_right (by omega)] at a
    rw [List.getElem?_append_right (by rw [← h.1]; omega), ← h.1] at b
    exact k.2 _ u y a b

/-- Deferred calls. -/
abbrev ADef := Nat × List AV
def RDef (G : Gh) (w : World) (d : Deferred) (x : ADef) : Prop :=
  ∃ caps : Array Value, d.target = .fn (.func x.1) caps ∧ RL G w (d.args ++ caps).toList x.2
def RD (G : Gh) (w : World) : List Deferred → List ADef → Prop
  | [], [] => True
  | d :: ds, x :: xs => RDef G w d x ∧ RD G w ds xs
  | _, _ => False
theorem RD.ext {G G' : Gh} {w w' : World} (he : Ext G w G' w') : ∀ {ds : List Deferred} {xs : List ADef}, RD G w ds xs → RD G' w' ds xs
  | [], [], _ => trivial
  | d :: ds, x :: xs, ⟨⟨caps, h1, h2⟩, h⟩ => ⟨⟨caps, h1, h2.ext he⟩, RD.ext he h⟩

structure Rep (N : Nat) (G : Gh) (a : Act) (w : World) (E : Env) (D : List ADef) (H : AHeap) : Prop where
  inv : Inv G w H
  size : a.tmps.size = N
  defs : RD G w a.defers D
  env : ∀ t x, E.get t = some x → R G w (a.tmps.getD t undef) x

theorem Rep.put {N : Nat} {G : Gh} {a : Act} {w : World} {E : Env} {D : List ADef} {H : AHeap} (h : Rep N G a w E D H) {d : Option Nat} (hd : ∀ t, d = some t → t < N) {v : Value} {x : AV} (hv : R G w v x) :
    Rep N G (a.put d v) w (E.put d x) D H := by
  cases d with
  | none => exact h
  | some d =>
    have hlt : d < N := hd d rfl
    refine ⟨h.inv, by simp [Act.put, h.size], h.defs, fun t y hy => ?_⟩
    rw [Env.get_put] at hy
    by_cases e : d = t
    · subst e
      rw [if_pos rfl] at hy
      cases hy
      simpa [Act.put, Array.getD_eq_getD_getElem?, Array.getElem?_setIfInBounds, h.size, hlt] using hv
    · rw [if_neg e] at hy
      have := h.env t y hy
      simpa [Act.put, Array.getD_eq_getD_getElem?, Array.getElem?_setIfInBounds, e] using this

inductive AExit where
  | normal
  | exit (id : Nat)
  | ret
def AExit.toExit : AExit → Exit
  | .normal => .normal
  | .exit id => .exit id
  | .ret => .ret

abbrev APost := AExit → Env → List ADef → AHeap → Prop

/-- The concrete post that an abstract one stands for. -/
def CPost (N : Nat) (G : Gh) (w : World) (Q : APost) : Exit → Act → World → Prop := fun e a' w' =>
  ∃ x G' E' D' H', e = AExit.toExit x ∧ Rep N G' a' w' E' D' H' ∧ Ext G w G' w' ∧ Q x E' D' H'

/-- What a piece of code does, told of what is known alone. -/
def AWp (P : Program) (N : Nat) (c : Code) (Q : APost) (E : Env) (D : List ADef) (H : AHeap) : Prop :=
  ∀ G a w, Rep N G a w E D H → c.wp P (CPost N G w Q) a w

/-- What a call does. -/
def ACalls (P : Program) (f : FuncId) (args : List AV) (H : AHeap) (Q : AV → AHeap → Prop) : Prop :=
  ∀ G w (vs : Array Value), Inv G w H → RL G w vs.toList args →
    Calls P f vs w fun e w' => ∃ G' v x H', e = .returned v ∧ Inv G' w' H' ∧ Ext G w G' w' ∧ R G' w' v x ∧ Q x H'

theorem ACalls.mono {P : Program} {f : FuncId} {args : List AV} {H : AHeap} {Q Q' : AV → AHeap → Prop} (h : ACalls P f args H Q) (hq : ∀ x H', Q x H' → Q' x H') : ACalls P f args H Q' :=
  fun G w vs hi hr => (h G w vs hi hr).mono fun _ _ ⟨G', v, x, H', a, b, c, d, e⟩ => ⟨G', v, x, H', a, b, c, d, hq _ _ e⟩

/-- What is known is told otherwise. -/
def Shift (E : Env) (D : List ADef) (H : AHeap) (E' : Env) (D' : List ADef) (H' : AHeap) : Prop :=
  ∀ N G a w, Rep N G a w E D H → ∃ G', Rep N G' a w E' D' H' ∧ Ext G w G' w
theorem Shift.refl (E : Env) (D : List ADef) (H : AHeap) : Shift E D H E D H := fun N G a w h => ⟨G, h, Ext.refl _ _⟩
theorem Shift.trans {E1 E2 E3 : Env} {D1 D2 D3 : List ADef} {H1 H2 H3 : AHeap} (h : Shift E1 D1 H1 E2 D2 H2) (k : Shift E2 D2 H2 E3 D3 H3) : Shift E1 D1 H1 E3 D3 H3 :=
  fun N G a w r => let ⟨G1, r1, e1⟩ := h N G a w r; let ⟨G2, r2, e2⟩ := k N G1 a w r1; ⟨G2, r2, e1.trans e2⟩
def VShift (x : AV) (H : AHeap) (x' : AV) (H' : AHeap) : Prop :=
  ∀ G w v, Inv G w H → R G w v x → ∃ G', Inv G' w H' ∧ R G' w v x' ∧ Ext G w G' w
theorem VShift.refl (x : AV) (H : AHeap) : VShift x H x H := fun G w v h k => ⟨G, h, k, Ext.refl _ _⟩
theorem VShift.trans {x y z : AV} {H1 H2 H3 : AHeap} (h : VShift x H1 y H2) (k : VShift y H2 z H3) : VShift x H1 z H3 :=
  fun G w v hi hr => let ⟨G1, i1, r1, e1⟩ := h G w v hi hr; let ⟨G2, i2, r2, e2⟩ := k G1 w v i1 r1; ⟨G2, i2, r2, e1.trans e2⟩
theorem ACalls.shift {P : Program} {f : FuncId} {args : List AV} {H : AHeap} {Q Q' : AV → AHeap → Prop} (h : ACalls P f args H Q) (hq : ∀ x H', Q x H' → ∃ x' H'', VShift x H' x' H'' ∧ Q' x' H'') : ACalls P f args H Q' :=
  fun G w vs hi hr => (h G w vs hi hr).mono fun _ _ ⟨G', v, x, H', a, b, c, d, e⟩ =>
    let ⟨x', H'', s, q⟩ := hq _ _ e
    let ⟨G2, i2, r2, e2⟩ := s G' _ v b d
    ⟨G2, v, x', H'', a, i2, c.trans e2, r2, q⟩

section
variable {P : Program} {N : Nat} {Q Q' : APost} {E : Env} {D : List ADef} {H : AHeap}

theorem CPost.mono {G : Gh} {w : World} (hq : ∀ x E D H, Q x E D H → Q' x E D H) {e : Exit} {a : Act} {w' : World} (h : CPost N G w Q e a w') : CPost N G w Q' e a w' :=
  let ⟨x, G', E', D', H', h1, h2, h3, h4⟩ := h; ⟨x, G', E', D', H', h1, h2, h3, hq _ _ _ _ h4⟩
theorem CPost.ext {G G' : Gh} {w w1 : World} (he : Ext G w G' w1) {e : Exit} {a : Act} {w' : World} (h : CPost N G' w1 Q e a w') : CPost N G w Q e a w' :=
  let ⟨x, G2, E', D', H', h1, h2, h3, h4⟩ := h; ⟨x, G2, E', D', H', h1, h2, he.trans h3, h4⟩

theorem AWp.mono {c : Code} (h : AWp P N c Q E D H) (hq : ∀ x E D H, Q x E D H → Q' x E D H) : AWp P N c Q' E D H :=
  fun G a w r => wp_mono (h G a w r) fun _ _ _ k => k.mono hq

theorem AWp.shift {c : Code} {E' : Env} {D' : List ADef} {H' : AHeap} (s : Shift E D H E' D' H') (h : AWp P N c Q E' D' H') : AWp P N c Q E D H :=
  fun G a w r => let ⟨G', r', e⟩ := s N G a w r; wp_mono (h G' a w r') fun _ _ _ k => k.ext e

theorem AWp.skip (h : Q .normal E D H) : AWp P N .skip Q E D H := fun G a w r => wp_skip ⟨.normal, G, E, D, H, rfl, r, Ext.refl _ _, h⟩
theorem AWp.ret (h : Q .ret E D H) : AWp P N .ret Q E D H := fun G a w r => wp_ret ⟨.ret, G, E, D, H, rfl, r, Ext.refl _ _, h⟩
theorem AWp.exit {id : Nat} (h : Q (.exit id) E D H) : AWp P N (.exit id) Q E D H := fun G a w r => wp_exit ⟨.exit id, G, E, D, H, rfl, r, Ext.refl _ _, h⟩

def AThen (M : Env → List ADef → AHeap → Prop) (Q : APost) : APost
  | .normal, E, D, H => M E D H
  | x, E, D, H => Q x E D H
theorem AWp.seq {x y : Code} (h : AWp P N x (AThen (AWp P N y Q) Q) E D H) : AWp P N (.seq x y) Q E D H := by
  intro G a w r
  refine wp_seq (wp_mono (h G a w r) ?_)
  rintro e a' w' ⟨x, G', E', D', H', rfl, r', he, q⟩
  cases x with
  | normal => exact wp_mono (q G' a' w' r') fun _ _ _ k => k.ext he
  | exit id => exact ⟨.exit id, G', E', D', H', rfl, r', he, q⟩
  | ret => exact ⟨.ret, G', E', D', H', rfl, r', he, q⟩

def AInBlock (id : Nat) (Q : APost) : APost
  | .exit id', E, D, H => if id' = id then Q .normal E D H else Q (.exit id') E D H
  | x, E, D, H => Q x E D H
theorem AWp.block {id : Nat} {c : Code} (h : AWp P N c (AInBlock id Q) E D H) : AWp P N (.block id c) Q E D H := by
  intro G a w r
  refine wp_block (wp_mono (h G a w r) ?_)
  rintro e a' w' ⟨x, G', E', D', H', rfl, r', he, q⟩
  cases x with
  | normal => exact ⟨.normal, G', E', D', H', rfl, r', he, q⟩
  | exit id' =>
    show Exit.inBlock id _ (.exit id') a' w'
    simp only [Exit.inBlock]
    simp only [AInBlock] at q
    split
    · rename_i e; rw [if_pos e] at q; exact ⟨.normal, G', E', D', H', rfl, r', he, q⟩
    · rename_i e; rw [if_neg e] at q; exact ⟨.exit id', G', E', D', H', rfl, r', he, q⟩
  | ret => exact ⟨.ret, G', E', D', H', rfl, r', he, q⟩

/-- A loop: a family of states, one of which is told at each round's begin, and a measure that falls. -/
theorem AWp.loop {c : Code} {σ : Type} (I : σ → Env → List ADef → AHeap → Prop) (μ : σ → Nat) (s0 : σ) (h0 : I s0 E D H)
    (round : ∀ s E D H, I s E D H → AWp P N c (AThen (fun E' D' H' => ∃ s' E'' D'' H'', Shift E' D' H' E'' D'' H'' ∧ I s' E'' D'' H'' ∧ μ s' < μ s) Q) E D H) :
    AWp P N (.loop c) Q E D H := by
  intro G a w r b k cs
  have key : ∀ n s E D H G1 a w1, μ s = n → I s E D H → Rep N G1 a w1 E D H → Ext G w G1 w1 →
      ∃ e a' w', CPost N G w Q e a' w' ∧ Arrives P (lone (b.at a (.code c :: .inLoop c :: k)) cs w1) b k cs e a' w' := by
    intro n
    induction n using Nat.strongRecOn with
    | _ n ih =>
      intro s E D H G1 a w1 hn hI hr he
      obtain ⟨e, a₁, w₁, ⟨x, G', E', D', H', rfl, r', he', q⟩, harr⟩ := round s E D H hI G1 a w1 hr b (.inLoop c :: k) cs
      cases x with
      | normal =>
        obtain ⟨s', E'', D'', H'', sh, hI', hlt⟩ := q
        obtain ⟨G2, r2, e2⟩ := sh N G' a₁ w₁ r'
        obtain ⟨e, a₂, w₂, hq₂, harr₂⟩ := ih (μ s') (hn ▸ hlt) s' E'' D'' H'' G2 a₁ w₁ rfl hI' r2 ((he.trans he').trans e2)
        exact ⟨e, a₂, w₂, hq₂, .of_steps (Steps.trans harr (.one step_inLoop)) harr₂⟩
      | exit id => exact ⟨_, a₁, w₁, ⟨.exit id, G', E', D', H', rfl, r', he.trans he', q⟩, .pass (x := .inLoop c) rfl (fun _ _ => .inl (by simp [AExit.toExit])) harr⟩
      | ret => exact ⟨_, a₁, w₁, ⟨.ret, G', E', D', H', rfl, r', he.trans he', q⟩, .pass (x := .inLoop c) rfl (fun _ _ => .inl (by simp [AExit.toExit])) harr⟩
  obtain ⟨e, a', w', hq, harr⟩ := key _ s0 E D H G a w rfl h0 r (Ext.refl _ _)
  exact ⟨e, a', w', hq, .of_steps (.one step_loop) harr⟩
end
end Go.Proofs.YtjgkfgocgknjjaaDoor.Abs
