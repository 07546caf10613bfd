/- The abstract machine, part 16: weakening told by simp, functions that leave no trace, loops. -/
import Derived.Test.YtjgkfgocgknjjaaDoorA15
set_option linter.unusedVariables false
set_option linter.unusedSimpArgs false
namespace Go.Proofs.YtjgkfgocgknjjaaDoor.Abs
open Go Go.RowKit

/-! Weakening. -/
@[simp] theorem wkn_refl (x : AV) : Wkn x x := .refl x
@[simp] theorem wkn_no (o : Own) (r : List (List AV)) : Wkn (.sl o r) (.sl .no r) := .no o r
theorem wkn_int {k : IntKind} {a b : Int} (h : a = b) : Wkn (.int k a) (.int k b) := h ▸ .refl _
theorem wkn_bool {a b : Bool} (h : a = b) : Wkn (.bool a) (.bool b) := h ▸ .refl _
theorem wkn_int_eq {k l : IntKind} {a b : Int} : Wkn (.int k a) (.int l b) = (k = l ∧ a = b) := propext ⟨fun h => by cases h; exact ⟨rfl, rfl⟩, fun ⟨h, e⟩ => by subst h; subst e; exact .refl _⟩
theorem wkn_bool_eq {a b : Bool} : Wkn (.bool a) (.bool b) = (a = b) := propext ⟨fun h => by cases h; rfl, wkn_bool⟩
theorem wkn_sl {o : Own} {a b : List (List AV)} (h : a = b) : Wkn (.sl o a) (.sl .no b) := h ▸ .no _ _
/-- The entries of an environment, one by one. -/
def EnvTo (E : Env) : Env → Prop
  | [] => True
  | (k, v) :: r => OptK (E.get k) (fun x => Wkn x v) ∧ EnvTo E r
@[simp ↓] theorem EnvTo_nil (E : Env) : EnvTo E [] = True := rfl
@[simp ↓] theorem EnvTo_cons (E : Env) (k : Nat) (v : AV) (r : Env) : EnvTo E ((k, v) :: r) = (OptK (E.get k) (fun x => Wkn x v) ∧ EnvTo E r) := rfl
theorem EnvTo.wk {E : Env} : ∀ {l : Env}, EnvTo E l → EWk E l
  | [], _ => .nil E
  | (k, v) :: r, ⟨h, t⟩ => by
    cases hk : E.get k with
    | none => rw [hk] at h; exact h.elim
    | some x => rw [hk] at h; exact .cons hk h t.wk
@[simp] theorem hwk_refl (H : AHeap) : HWk H H := .refl H
@[simp] theorem hwk_front (H J : AHeap) : HWk (H ++ J) H := .front H J

theorem LoopK.toldS {P : Program} {N : Nat} {s : SCode} {Q : APost} {E : Env} {D : List ADef} {H : AHeap} {σ : Type} (st : σ → Env) (hp : σ → AHeap) (p : σ → Prop) (μ : σ → Nat) (s0 : σ) (h0 : p s0) (hS : Shift E D H (st s0) D (hp s0))
    (round : ∀ x, p x → SWp P N s (AThen (fun E' D' H' => ∃ x', p x' ∧ μ x' < μ x ∧ Shift E' D' H' (st x') D (hp x')) Q) (st x) D (hp x)) : LoopK P N s Q E D H := by
  refine SWp.shift hS ?_
  refine SWp.loop (fun x E' D' H' => E' = st x ∧ D' = D ∧ H' = hp x ∧ p x) μ s0 ⟨rfl, rfl, rfl, h0⟩ ?_
  rintro x E' D' H' ⟨rfl, rfl, rfl, hp'⟩
  refine (round x hp').mono ?_
  intro e E2 D2 H2 he
  cases e with
  | normal =>
    obtain ⟨x', h1, h2, h3⟩ := he
    exact ⟨x', _, _, _, h3, ⟨rfl, rfl, rfl, h1⟩, h2⟩
  | exit => exact he
  | ret => exact he
/-- A loop, told by rounds. -/
theorem LoopK.told {P : Program} {N : Nat} {s : SCode} {Q : APost} {E : Env} {D : List ADef} {H : AHeap} {σ : Type} (st : σ → Env) (hp : σ → AHeap) (p : σ → Prop) (μ : σ → Nat) (s0 : σ) (h0 : p s0) (hE : EnvTo E (st s0)) (hH : HWk H (hp s0))
    (round : ∀ x, p x → sw P N s (AThen (fun E' D' H' => D' = D ∧ ∃ x', p x' ∧ μ x' < μ x ∧ EnvTo E' (st x') ∧ HWk H' (hp x')) Q) (st x) D (hp x)) : LoopK P N s Q E D H :=
  LoopK.toldS st hp p μ s0 h0 (shift_wk hE.wk hH) fun x hx c hc => by
    refine (sw_sound (round x hx) c hc).mono ?_
    intro o E' D' H' h
    cases o with
    | normal => obtain ⟨rfl, x', b, c, d, e⟩ := h; exact ⟨x', b, c, shift_wk d.wk e⟩
    | exit => exact h
    | ret => exact h

/-- A function that leaves no trace: what it makes is dropped, what it yields is weakened. -/
theorem pcall_fn {P : Program} {f : Nat} {F : SFn} (hF : chkFn P f F = true) {args : List AV} {r : AV} (hn : args.length ≤ F.n)
    (h : ∀ H, sw P F.n F.code (RetQ F.res fun x H' => VShift x H' r H) (argEnv 0 args) [] H) : PCall P f args r := fun H =>
  (acalls_fn hF hn (h H)).shift fun x H' k => ⟨r, H, k, rfl, rfl⟩
theorem vshift_drop {x r : AV} {H H' : AHeap} (h : Wkn x r) (k : HWk H' H) : VShift x H' r H := vshift_wk h k
/-- A function that leaves no trace, told by what its result is like. -/
def RCall (P : Program) (f : FuncId) (args : List AV) (φ : AV → Prop) : Prop := ∀ H, ACalls P f args H fun r H' => φ r ∧ H' = H
theorem rcall_fn {P : Program} {f : Nat} {F : SFn} (hF : chkFn P f F = true) {args : List AV} {φ : AV → Prop} (hn : args.length ≤ F.n)
    (h : ∀ H, sw P F.n F.code (RetQ F.res fun x H' => ∃ r, VShift x H' r H ∧ φ r) (argEnv 0 args) [] H) : RCall P f args φ := fun H =>
  (acalls_fn hF hn (h H)).shift fun x H' ⟨r, k, e⟩ => ⟨r, H, k, e, rfl⟩
theorem CallK.rel {P : Program} {f : FuncId} {xs : List AV} {φ : AV → Prop} {H : AHeap} {K : AV → AHeap → Prop} (h : RCall P f xs φ) (k : ∀ r, φ r → K r H) : CallK P f xs H K :=
  (h H).mono fun x H' ⟨a, b⟩ => by subst b; exact k x a
theorem PCall.rel {P : Program} {f : FuncId} {xs : List AV} {r : AV} (h : PCall P f xs r) : RCall P f xs fun x => x = r := h
theorem RCall.mono {P : Program} {f : FuncId} {xs : List AV} {φ ψ : AV → Prop} (h : RCall P f xs φ) (k : ∀ r, φ r → ψ r) : RCall P f xs ψ := fun H => (h H).mono fun x H' ⟨a, b⟩ => ⟨k x a, b⟩
/-- A truth value that, if true, bears a thing; a whole number of a kind. -/
def IsB (c : Prop) (r : AV) : Prop := ∃ b, r = .bool b ∧ (b = true → c)
def IsI (p : Int → Prop) (r : AV) : Prop := ∃ q, r = .int .i64 q ∧ p q
theorem IsB.mk {c : Prop} {b : Bool} (h : b = true → c) : IsB c (.bool b) := ⟨b, rfl, h⟩
theorem IsI.mk {p : Int → Prop} {q : Int} (h : p q) : IsI p (.int .i64 q) := ⟨q, rfl, h⟩
/-- What a function's end needs: the result, weakened, and the entries made are dropped. -/
theorem end_rel {x : AV} {H' H : AHeap} {φ : AV → Prop} (h : φ x) (k : HWk H' H) : ∃ r, VShift x H' r H ∧ φ r := ⟨x, vshift_drop (.refl _) k, h⟩
/-- Two ways into a loop. -/
theorem LoopK.join {C1 C2 : Prop} {P : Program} {N : Nat} {c : SCode} {Q : APost} {D : List ADef} {E1 E2 : Env} {H1 H2 : AHeap} (ψ : Env → AHeap → Prop) (key : ∀ E J, ψ E J → LoopK P N c Q E D J) (h1 : C1 → ψ E1 H1) (h2 : C2 → ψ E2 H2) :
    (C1 → LoopK P N c Q E1 D H1) ∧ (C2 → LoopK P N c Q E2 D H2) := ⟨fun h => key _ _ (h1 h), fun h => key _ _ (h2 h)⟩
theorem LoopK.join_call {C1 C2 : Prop} {P : Program} {f : FuncId} {xs : List AV} {H H2 : AHeap} {N : Nat} {c : SCode} {Q : APost} {D : List ADef} {E1 : AV → Env} {E2 : Env} (ψ : Env → AHeap → Prop) (key : ∀ E J, ψ E J → LoopK P N c Q E D J)
    (h1 : C1 → CallK P f xs H fun r J => ψ (E1 r) J) (h2 : C2 → ψ E2 H2) : (C1 → CallK P f xs H fun r J => LoopK P N c Q (E1 r) D J) ∧ (C2 → LoopK P N c Q E2 D H2) :=
  ⟨fun h => (h1 h).mono fun r J k => key _ _ k, fun h => key _ _ (h2 h)⟩
end Go.Proofs.YtjgkfgocgknjjaaDoor.Abs
