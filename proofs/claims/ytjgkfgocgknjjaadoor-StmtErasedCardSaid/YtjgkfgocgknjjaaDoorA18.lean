/- The abstract machine, part 18: what stands in the world at a law's begin. -/
import Derived.Test.YtjgkfgocgknjjaaDoorA17
import Derived.DataReads
import Derived.ChangeOld
import Derived.ChangeShapes
set_option linter.unusedVariables false
set_option linter.unusedSimpArgs false
namespace Go.Proofs.YtjgkfgocgknjjaaDoor.Abs
open Go Go.RowKit

theorem get_lt' {α : Type} {l : List α} {i : Nat} {x : α} (h : l[i]? = some x) : i < l.length := (List.getElem?_eq_some_iff.1 h).1
def FitL (φ : TypeId → List AV → Prop) : List Field → List AV → Prop
  | [], xs => xs = []
  | f :: r, xs => ∃ a b, xs = a ++ b ∧ φ f.type a ∧ FitL φ r b
def FitT (φ : TypeId → List AV → Prop) : List TypeId → List AV → Prop
  | [], xs => xs = []
  | t :: r, xs => ∃ a b, xs = a ++ b ∧ φ t a ∧ FitT φ r b
/-- Cells of a type, of values that hold no pointers. -/
def Fit (P : Program) : Nat → TypeId → List AV → Prop
  | 0, _, _ => False
  | k + 1, t, xs => match P.underlying t with
    | some .bool => ∃ b, xs = [.bool b]
    | some (.int kd) => ∃ n, xs = [.int kd n] ∧ (Lit.int kd n).wf = true
    | some .string => ∃ s, xs = [.str s] ∧ s.size ≤ maxLen
    | some (.slice e) => ∃ rows, xs = [.sl .no rows] ∧ rows.length ≤ maxLen ∧ ∀ row ∈ rows, Fit P k e row
    | some (.struct fs) => FitL (Fit P k) fs.toList xs
    | some (.array n e) => FitT (Fit P k) (List.replicate n e) xs
    | _ => False
def tiles (P : Program) : Nat → List Field → Nat → Bool
  | off, [], n => off == n
  | off, f :: r, n => f.offset == off && tiles P (off + P.cellsOf f.type) r n
/-- Types that are closed among themselves, and hold no pointers. -/
def plainS (P : Program) (S : List TypeId) : Bool := S.all fun t => match P.underlying t with
  | some .bool | some (.int _) | some .string => true
  | some (.slice e) => S.contains e
  | some (.struct fs) => fs.toList.all (fun f => S.contains f.type) && tiles P 0 fs.toList (P.cellsOf t)
  | some (.array n e) => S.contains e && P.cellsOf t == n * P.cellsOf e
  | _ => false
def ghost0 (w : World) : Gh := ⟨w.heap.size, fun k _ => k < w.heap.size, fun _ => none, 0⟩
theorem inv0 (w : World) (hg : ∀ n cells, gtab n = some cells → R (ghost0 w) w (.pointer (some ⟨n, 0, none⟩)) (.rptr cells 0)) : Inv (ghost0 w) w [] := ⟨Nat.le_refl _, fun k o h => h, fun b g l h => by simp [ghost0] at h, fun b blk h => by simp at h, fun b b' g g' l l' _ h => by simp [ghost0] at h, hg⟩

theorem RL.app {G : Gh} {w : World} {a b : List Value} {x y : List AV} (h : RL G w a x) (k : RL G w b y) : RL G w (a ++ b) (x ++ y) := by
  refine ⟨by simp [h.1, k.1], fun j v z hv hz => ?_⟩
  by_cases c : j < a.length
  · rw [List.getElem?_append_left c] at hv
    rw [List.getElem?_append_left (h.1 ▸ c)] at hz
    exact h.2 j v z hv hz
  · rw [List.getElem?_append_right (by omega)] at hv
    rw [List.getElem?_append_right (by have := h.1; omega), ← h.1] at hz
    exact k.2 _ v z hv hz
theorem RL.one {G : Gh} {w : World} {v : Value} {x : AV} (h : R G w v x) : RL G w [v] [x] := RL.cons h (RL.nil _ _)

def Opens (P : Program) (w : World) (fuel : Nat) (t : TypeId) (cs : List Value) : Prop := ∃ xs, RL (ghost0 w) w cs xs ∧ Fit P fuel t xs ∧ ∀ x ∈ xs, x.single = true

theorem open_fields {P : Program} {w : World} {fuel : Nat} {cs : List Value} : ∀ (fs : List Field) (off n : Nat), tiles P off fs n = true → n = cs.length → off ≤ n → (∀ f ∈ fs, Opens P w fuel f.type ((cs.drop f.offset).take (P.cellsOf f.type))) →
    ∃ xs, RL (ghost0 w) w (cs.drop off) xs ∧ FitL (Fit P fuel) fs xs ∧ ∀ x ∈ xs, x.single = true
  | [], off, n, ht, hn, ho, h => by
    simp [tiles] at ht
    refine ⟨[], ?_, rfl, by simp⟩
    rw [List.drop_eq_nil_of_le (by omega)]; exact RL.nil _ _
  | f :: r, off, n, ht, hn, ho, h => by
    simp only [tiles, Bool.and_eq_true, beq_iff_eq] at ht
    obtain ⟨rfl, ht⟩ := ht
    obtain ⟨a, ha, hfa, hsa⟩ := h f (by simp)
    have hle : f.offset + P.cellsOf f.type ≤ n := by
      clear ha hfa hsa h ho
      generalize f.offset + P.cellsOf f.type = o at ht
      clear hn
      induction r generalizing o with
      | nil => simp [tiles] at ht; omega
      | cons g r ih =>
        simp only [tiles, Bool.and_eq_true, beq_iff_eq] at ht
        have := ih _ ht.2; omega
    obtain ⟨b, hb, hfb, hsb⟩ := open_fields r _ n ht hn hle fun g hg => h g (List.mem_cons_of_mem _ hg)
    refine ⟨a ++ b, ?_, ⟨a, b, rfl, hfa, hfb⟩, ?_⟩
    · have := ha.app hb
      rw [← List.drop_drop, List.take_append_drop] at this
      exact this
    · intro x hx
      rw [List.mem_append] at hx
      exact hx.elim (hsa x) (hsb x)

theorem open_array {P : Program} {w : World} {fuel n c : Nat} {e : TypeId} {cs : List Value} (hlen : cs.length = n * c) (h : ∀ i, i < n → Opens P w fuel e ((cs.drop (i * c)).take c)) : ∀ (m : Nat), m ≤ n →
    ∃ xs, RL (ghost0 w) w (cs.drop ((n - m) * c)) xs ∧ FitT (Fit P fuel) (List.replicate m e) xs ∧ ∀ x ∈ xs, x.single = true
  | 0, _ => ⟨[], by rw [List.drop_eq_nil_of_le (by rw [hlen, Nat.sub_zero]; exact Nat.le_refl _)]; exact RL.nil _ _, rfl, by simp⟩
  | m + 1, hm => by
    obtain ⟨b, hb, hfb, hsb⟩ := open_array hlen h m (by omega)
    obtain ⟨a, ha, hfa, hsa⟩ := h (n - (m + 1)) (by omega)
    refine ⟨a ++ b, ?_, ⟨a, b, rfl, hfa, hfb⟩, ?_⟩
    · have e1 : n - m = n - (m + 1) + 1 := by omega
      rw [e1, Nat.add_mul, Nat.one_mul, ← List.drop_drop] at hb
      have := ha.app hb
      rwa [List.take_append_drop] at this
    · intro x hx
      rw [List.mem_append] at hx
      exact hx.elim (hsa x) (hsb x)
section
variable {H : Type} {enc : TypeId × Value → H} {P : Program} {w : World} {base : Nat} {spare : Nat → Bool} {held : Bool} {k : Nat} {t : TypeId} {cs : List Value} {d : DataW H} {ps : List MemPlace}
theorem trod_bool (ht : P.underlying t = some .bool) (h : DataW.trod enc P w base spare held (k + 1) t cs = some (d, ps)) : ∃ b, cs = [.bool b] := by
  unfold DataW.trod at h
  rw [ht] at h
  split at h <;> simp_all
theorem trod_int {kd : IntKind} (ht : P.underlying t = some (.int kd)) (h : DataW.trod enc P w base spare held (k + 1) t cs = some (d, ps)) : ∃ n, cs = [.int kd n] ∧ (Lit.int kd n).wf = true := by
  unfold DataW.trod at h
  rw [ht] at h
  split at h <;> simp_all
theorem trod_str (ht : P.underlying t = some .string) (h : DataW.trod enc P w base spare held (k + 1) t cs = some (d, ps)) : ∃ s, cs = [.string s] ∧ s.size ≤ maxLen := by
  unfold DataW.trod at h
  rw [ht] at h
  split at h <;> simp_all
theorem trod_slice {e : TypeId} (ht : P.underlying t = some (.slice e)) (h : DataW.trod enc P w base spare held (k + 1) t cs = some (d, ps)) :
    cs = [.slice none 0 0] ∨ ∃ a len cap elems, cs = [.slice (some a) len cap] ∧ len ≤ cap ∧ cap ≤ maxLen ∧
      (List.range len).mapM (fun i => (w.cells? base (a.add (i * P.cellsOf e)) (P.cellsOf e)).bind (DataW.trod enc P w base spare held k e)) = some elems := by
  unfold DataW.trod at h
  rw [ht] at h
  split at h
  all_goals first
    | (exfalso; simp_all; done)
    | skip
  · exact .inl rfl
  · rename_i e' a len cap heq
    cases heq
    simp only at h
    split at h
    · rename_i hc
      cases hm : (List.range len).mapM (fun i => (w.cells? base (a.add (i * P.cellsOf e)) (P.cellsOf e)).bind (DataW.trod enc P w base spare held k e)) with
      | none => rw [hm] at h; simp at h
      | some elems => exact .inr ⟨a, len, cap, elems, rfl, hc.2.1, hc.2.2, hm⟩
    · simp at h
theorem trod_array {n : Nat} {e : TypeId} (ht : P.underlying t = some (.array n e)) (h : DataW.trod enc P w base spare held (k + 1) t cs = some (d, ps)) :
    cs.length = P.cellsOf t ∧ ∃ xs, (List.range n).mapM (fun i => DataW.trod enc P w base spare held k e ((cs.drop (i * P.cellsOf e)).take (P.cellsOf e))) = some xs := by
  unfold DataW.trod at h
  rw [ht] at h
  split at h
  all_goals first
    | (exfalso; simp_all; done)
    | skip
  rename_i heq
  cases heq
  split at h
  · rename_i hc
    obtain ⟨xs, hx, _⟩ := Option.map_eq_some_iff.1 h
    exact ⟨hc, xs, hx⟩
  · simp at h
theorem trod_struct {fs : Array Field} (ht : P.underlying t = some (.struct fs)) (h : DataW.trod enc P w base spare held (k + 1) t cs = some (d, ps)) :
    cs.length = P.cellsOf t ∧ ∃ xs, fs.toList.mapM (fun f => DataW.trod enc P w base spare held k f.type ((cs.drop f.offset).take (P.cellsOf f.type))) = some xs := by
  unfold DataW.trod at h
  rw [ht] at h
  split at h
  all_goals first
    | (exfalso; simp_all; done)
    | skip
  rename_i heq
  cases heq
  split at h
  · rename_i hc
    obtain ⟨xs, hx, _⟩ := Option.map_eq_some_iff.1 h
    exact ⟨hc, xs, hx⟩
  · simp at h
end
theorem mapM_mem {α β : Type} {f : α → Option β} {l : List α} {r : List β} (h : l.mapM f = some r) {x : α} (hx : x ∈ l) : ∃ y, f x = some y := by
  obtain ⟨i, hi⟩ := List.getElem?_of_mem hx
  have h1 := mapM_some_get h i x hi
  have h2 := mapM_some_length h
  have : i < r.length := by rw [h2]; exact (List.getElem?_eq_some_iff.1 hi).1
  exact ⟨r[i], by rw [h1]; exact List.getElem?_eq_getElem this⟩

theorem open_trod {H : Type} {enc : TypeId × Value → H} {P : Program} {w : World} {base : Nat} {spare : Nat → Bool} {held : Bool} {S : List TypeId} (hS : plainS P S = true) :
    ∀ (fuel : Nat) (t : TypeId) (cs : List Value) (d : DataW H) (ps : List MemPlace), t ∈ S → DataW.trod enc P w base spare held fuel t cs = some (d, ps) → Opens P w fuel t cs := by
  intro fuel
  induction fuel with
  | zero => intro t cs d ps _ h; simp [DataW.trod] at h
  | succ k ih =>
    intro t cs d ps ht h
    have hp := (List.all_eq_true.1 hS) t ht
    cases hu : P.underlying t with
    | none => rw [hu] at hp; simp at hp
    | some u =>
    rw [hu] at hp
    unfold Opens
    simp only [Fit, hu]
    cases u with
    | bool =>
      obtain ⟨b, rfl⟩ := trod_bool hu h
      exact ⟨_, .one (.bool b), ⟨b, rfl⟩, by simp [AV.single]⟩
    | int kd =>
      obtain ⟨n, rfl, hw⟩ := trod_int hu h
      exact ⟨_, .one (.int kd n), ⟨n, rfl, hw⟩, by simp [AV.single]⟩
    | string =>
      obtain ⟨s, rfl, hs⟩ := trod_str hu h
      exact ⟨_, .one (.str s), ⟨s, rfl, hs⟩, by simp [AV.single]⟩
    | slice e =>
      have he : e ∈ S := by simpa using hp
      rcases trod_slice hu h with rfl | ⟨a, len, cap, elems, rfl, hle, hcap, hm⟩
      · exact ⟨_, .one (.nilsl .no (.inl rfl)), ⟨[], rfl, by simp, by simp⟩, by simp [AV.single]⟩
      · have hrow : ∀ i, i < len → ∃ cs, w.cells? base (a.add (i * P.cellsOf e)) (P.cellsOf e) = some cs ∧ Opens P w k e cs := by
          intro i hi
          obtain ⟨y, hy⟩ := mapM_mem hm (x := i) (by simpa using hi)
          rw [Option.bind_eq_some_iff] at hy
          obtain ⟨cs, h1, h2⟩ := hy
          exact ⟨cs, h1, ih e cs _ _ he h2⟩
        have hrow2 : ∀ i : Fin len, ∃ row : List AV, ∃ cs, w.cells? base (a.add (i * P.cellsOf e)) (P.cellsOf e) = some cs ∧ RL (ghost0 w) w cs row ∧ Fit P k e row ∧ ∀ x ∈ row, x.single = true := fun i => by
          obtain ⟨cs, h1, row, h2⟩ := hrow i i.2
          exact ⟨row, cs, h1, h2⟩
        obtain ⟨f, hf⟩ : ∃ f : Fin len → List AV, ∀ i : Fin len, ∃ cs, w.cells? base (a.add (i * P.cellsOf e)) (P.cellsOf e) = some cs ∧ RL (ghost0 w) w cs (f i) ∧ Fit P k e (f i) ∧ ∀ x ∈ f i, x.single = true := ⟨fun i => Classical.choose (hrow2 i), fun i => Classical.choose_spec (hrow2 i)⟩
        have hget : ∀ (i : Nat) (row : List AV), (List.ofFn f)[i]? = some row → ∃ h : i < len, row = f ⟨i, h⟩ := by
          intro i row hi
          rw [List.getElem?_ofFn] at hi
          split at hi
          · rename_i hl; exact ⟨hl, by simpa using hi.symm⟩
          · cases hi
        refine ⟨_, .one (.sl .no (List.ofFn f) a len cap (P.cellsOf e) (fun i j => (w.cell? (a.add (i * P.cellsOf e + j))).getD undef) (by simp) hle (fun c => by cases c) (fun b g c => by cases c) ?_ ?_ ?_ ?_ ?_), ⟨_, rfl, by simp; omega, ?_⟩, by simp [AV.single]⟩
        · intro row hr
          obtain ⟨i, hi⟩ := List.getElem?_of_mem hr
          obtain ⟨hl, rfl⟩ := hget i row hi
          obtain ⟨cs, h1, h2, _⟩ := hf ⟨i, hl⟩
          rw [← h2.1]; exact (World.cells?_some h1).2.1
        · intro row hr
          obtain ⟨i, hi⟩ := List.getElem?_of_mem hr
          obtain ⟨hl, rfl⟩ := hget i row hi
          obtain ⟨cs, h1, h2, h3, h4⟩ := hf ⟨i, hl⟩
          exact h4
        · intro q hq
          have hl : 0 < len := Nat.pos_of_ne_zero fun c => by subst c; simp at hq
          have hs : 0 < P.cellsOf e := Nat.pos_of_ne_zero fun c => by rw [c] at hq; simp at hq
          obtain ⟨cs, h1, _⟩ := hf ⟨0, hl⟩
          have := World.cells?_block h1 hs
          rw [add_block] at this
          exact this
        · intro i j row x hi hj
          obtain ⟨hl, rfl⟩ := hget i row hi
          obtain ⟨cs, h1, h2, h3, h4⟩ := hf ⟨i, hl⟩
          have hc := World.cells?_some h1
          have hjl : j < P.cellsOf e := by rw [← hc.2.1, h2.1]; exact get_lt' hj
          have := hc.2.2 j hjl
          rw [add_add] at this
          rw [this, List.getElem?_eq_getElem (by rw [hc.2.1]; exact hjl)]
          rfl
        · intro i j row x hi hj
          obtain ⟨hl, rfl⟩ := hget i row hi
          obtain ⟨cs, h1, h2, h3, h4⟩ := hf ⟨i, hl⟩
          have hc := World.cells?_some h1
          have hjl : j < P.cellsOf e := by rw [← hc.2.1, h2.1]; exact get_lt' hj
          have := hc.2.2 j hjl
          rw [add_add] at this
          have hjc : j < cs.length := by rw [hc.2.1]; exact hjl
          rw [List.getElem?_eq_getElem hjc] at this
          have e1 : (w.cell? (a.add (i * P.cellsOf e + j))).getD undef = cs[j] := by rw [this]; rfl
          rw [e1]
          exact h2.2 j _ x (List.getElem?_eq_getElem hjc) hj
        · intro row hr
          obtain ⟨i, hi⟩ := List.getElem?_of_mem hr
          obtain ⟨hl, rfl⟩ := hget i row hi
          obtain ⟨cs, h1, h2, h3, h4⟩ := hf ⟨i, hl⟩
          exact h3
    | struct fs =>
      simp only [Bool.and_eq_true] at hp
      obtain ⟨hlen, xs, hm⟩ := trod_struct hu h
      have hfs := List.all_eq_true.1 hp.1
      have := open_fields (w := w) (fuel := k) (cs := cs) fs.toList 0 (P.cellsOf t) hp.2 hlen.symm (Nat.zero_le _) fun f hf => by
        obtain ⟨y, hy⟩ := mapM_mem hm hf
        exact ih f.type _ _ _ (by simpa using hfs f hf) hy
      rwa [List.drop_zero] at this
    | array n e =>
      simp only [Bool.and_eq_true, beq_iff_eq] at hp
      obtain ⟨hlen, xs, hm⟩ := trod_array hu h
      rw [hp.2] at hlen
      have := open_array (w := w) (fuel := k) (e := e) hlen (fun i hi => by
        obtain ⟨y, hy⟩ := mapM_mem hm (x := i) (by simpa using hi)
        exact ih e _ _ _ (by simpa using hp.1) hy) n (Nat.le_refl _)
      rwa [Nat.sub_self, Nat.zero_mul, List.drop_zero] at this
    | _ => simp at hp

/-! Reading what fits a type. -/
def structTypes (P : Program) (t : TypeId) : Option (List TypeId) := match P.underlying t with
  | some (.struct fs) => some (fs.toList.map (·.type))
  | _ => none
theorem FitL.t {φ : TypeId → List AV → Prop} : ∀ {fs : List Field} {xs : List AV}, FitL φ fs xs → FitT φ (fs.map (·.type)) xs
  | [], xs, h => h
  | f :: r, xs, ⟨a, b, e, h, k⟩ => ⟨a, b, e, h, FitL.t k⟩
theorem fit_struct {P : Program} {k : Nat} {t : TypeId} {xs : List AV} {ts : List TypeId} (hs : structTypes P t = some ts) (h : Fit P k t xs) : ∃ k', k' < k ∧ FitT (Fit P k') ts xs := by
  cases k with
  | zero => exact h.elim
  | succ k =>
    unfold structTypes at hs
    split at hs
    · rename_i fs hu
      cases hs
      simp only [Fit, hu] at h
      exact ⟨k, Nat.lt_succ_self _, h.t⟩
    · cases hs
theorem fit_array {P : Program} {k : Nat} {t e : TypeId} {n : Nat} {xs : List AV} (hu : P.underlying t = some (.array n e)) (h : Fit P k t xs) : ∃ k', k' < k ∧ FitT (Fit P k') (List.replicate n e) xs := by
  cases k with
  | zero => exact h.elim
  | succ k => simp only [Fit, hu] at h; exact ⟨k, Nat.lt_succ_self _, h⟩
theorem fit_int {P : Program} {k : Nat} {t : TypeId} {xs : List AV} {kd : IntKind} (hu : P.underlying t = some (.int kd)) (h : Fit P k t xs) : ∃ n, xs = [.int kd n] ∧ (Lit.int kd n).wf = true := by
  cases k with
  | zero => exact h.elim
  | succ k => simp only [Fit, hu] at h; exact h
theorem fit_bool {P : Program} {k : Nat} {t : TypeId} {xs : List AV} (hu : P.underlying t = some .bool) (h : Fit P k t xs) : ∃ b, xs = [.bool b] := by
  cases k with
  | zero => exact h.elim
  | succ k => simp only [Fit, hu] at h; exact h
theorem fit_str {P : Program} {k : Nat} {t : TypeId} {xs : List AV} (hu : P.underlying t = some .string) (h : Fit P k t xs) : ∃ s, xs = [.str s] ∧ s.size ≤ maxLen := by
  cases k with
  | zero => exact h.elim
  | succ k => simp only [Fit, hu] at h; exact h
theorem fit_rows {P : Program} {k : Nat} {t e : TypeId} {xs : List AV} {α : Type} {φ : α → List AV} (hu : P.underlying t = some (.slice e)) (hφ : ∀ k', k' < k → ∀ ys, Fit P k' e ys → ∃ x, ys = φ x) (h : Fit P k t xs) : ∃ l : List α, xs = [.sl .no (l.map φ)] ∧ l.length ≤ maxLen := by
  cases k with
  | zero => exact h.elim
  | succ k =>
    simp only [Fit, hu] at h
    obtain ⟨rows, rfl, hm, hr⟩ := h
    have : ∃ l : List α, rows = l.map φ := by
      clear hm
      induction rows with
      | nil => exact ⟨[], rfl⟩
      | cons a r ih =>
        obtain ⟨x, rfl⟩ := hφ k (Nat.lt_succ_self _) a (hr a (by simp))
        obtain ⟨l, rfl⟩ := ih fun row h => hr row (List.mem_cons_of_mem _ h)
        exact ⟨x :: l, rfl⟩
    obtain ⟨l, rfl⟩ := this
    exact ⟨l, rfl, by simpa using hm⟩
end Go.Proofs.YtjgkfgocgknjjaaDoor.Abs
