/- The abstract machine, part 19: what the program's variables read as. -/
import Derived.Test.YtjgkfgocgknjjaaDoorA18
import Derived.OpenShut
import Derived.FnData
set_option linter.unusedVariables false
set_option linter.unusedSimpArgs false
namespace Go.Proofs.YtjgkfgocgknjjaaDoor.Abs
open Go Go.RowKit

mutual
def flatA {H : Type} : DataW H → List AV
  | .lit (.int k n) => [.int k n]
  | .lit (.bool b) => [.bool b]
  | .lit (.string l) => [.str ⟨l.toArray⟩]
  | .agg l => flatAs l
  | _ => []
def flatAs {H : Type} : List (DataW H) → List AV
  | [] => []
  | d :: r => flatA d ++ flatAs r
end
def flatS (P : Program) (S : List TypeId) : Bool := S.all fun t => match P.underlying t with
  | some .bool | some (.int _) | some .string => true
  | some (.struct fs) => fs.toList.all (fun f => S.contains f.type) && tiles P 0 fs.toList (P.cellsOf t)
  | some (.array n e) => S.contains e && P.cellsOf t == n * P.cellsOf e
  | _ => false
def Flat {H : Type} (G : Gh) (w : World) (cs : List Value) (d : DataW H) : Prop := RL G w cs (flatA d) ∧ ∀ x ∈ flatA d, x.single = true
theorem flat_fields {H : Type} {P : Program} {G : Gh} {w : World} {cs : List Value} : ∀ (fs : List Field) (xs : List (DataW H × List MemPlace)) (off n : Nat), tiles P off fs n = true → n = cs.length → off ≤ n → xs.length = fs.length →
    (∀ (i : Nat) (f : Field) (x : DataW H × List MemPlace), fs[i]? = some f → xs[i]? = some x → Flat G w ((cs.drop f.offset).take (P.cellsOf f.type)) x.1) → RL G w (cs.drop off) (flatAs (xs.map (·.1))) ∧ ∀ x ∈ flatAs (xs.map (·.1)), x.single = true
  | [], [], off, n, ht, hn, ho, _, h => by
    simp [tiles] at ht; subst ht; subst hn
    simp only [List.map_nil, flatAs]
    rw [List.drop_eq_nil_of_le (Nat.le_refl _)]
    exact ⟨RL.nil _ _, by simp⟩
  | f :: r, x :: xs, off, n, ht, hn, ho, hl, h => by
    simp only [tiles, Bool.and_eq_true, beq_iff_eq] at ht
    obtain ⟨rfl, ht⟩ := ht
    obtain ⟨ha, hsa⟩ := h 0 f x rfl rfl
    have hle : f.offset + P.cellsOf f.type ≤ n := by
      clear ha hsa h ho hl
      generalize f.offset + P.cellsOf f.type = o at ht
      clear hn
      induction r generalizing o with
      | nil => simp [tiles] at ht; omega
      | cons g r ih =>
        simp only [tiles, Bool.and_eq_true, beq_iff_eq] at ht
        have := ih _ ht.2; omega
    obtain ⟨hb, hsb⟩ := flat_fields r xs _ n ht hn hle (by simpa using hl) fun i g y hg hy => h (i + 1) g y (by simpa using hg) (by simpa using hy)
    simp only [List.map_cons, flatAs]
    refine ⟨?_, ?_⟩
    · have := ha.app hb
      rw [← List.drop_drop, List.take_append_drop] at this
      exact this
    · intro y hy
      rw [List.mem_append] at hy
      exact hy.elim (hsa y) (hsb y)
  | [], _ :: _, _, _, _, _, _, hl, _ => by simp at hl
  | _ :: _, [], _, _, _, _, _, hl, _ => by simp at hl
theorem flat_array {H : Type} {G : Gh} {w : World} {n c : Nat} {cs : List Value} {xs : List (DataW H × List MemPlace)} (hlen : cs.length = n * c) (hx : xs.length = n) (h : ∀ (i : Nat) (x : DataW H × List MemPlace), i < n → xs[i]? = some x → Flat G w ((cs.drop (i * c)).take c) x.1) : ∀ (m : Nat), m ≤ n →
    RL G w (cs.drop ((n - m) * c)) (flatAs ((xs.drop (n - m)).map (·.1))) ∧ ∀ x ∈ flatAs ((xs.drop (n - m)).map (·.1)), x.single = true
  | 0, _ => by
    rw [List.drop_eq_nil_of_le (by rw [hlen, Nat.sub_zero]; exact Nat.le_refl _), List.drop_eq_nil_of_le (by omega)]
    exact ⟨RL.nil _ _, by simp [flatAs]⟩
  | m + 1, hm => by
    obtain ⟨hb, hsb⟩ := flat_array hlen hx h m (by omega)
    have hi : n - (m + 1) < xs.length := by omega
    obtain ⟨ha, hsa⟩ := h (n - (m + 1)) _ (by omega) (List.getElem?_eq_getElem hi)
    have e1 : n - m = n - (m + 1) + 1 := by omega
    rw [List.drop_eq_getElem_cons hi]
    simp only [List.map_cons, flatAs]
    rw [e1] at hb hsb
    refine ⟨?_, ?_⟩
    · rw [Nat.add_mul, Nat.one_mul, ← List.drop_drop] at hb
      have := ha.app hb
      rwa [List.take_append_drop] at this
    · intro x hx
      rw [List.mem_append] at hx
      exact hx.elim (hsa x) (hsb x)
theorem flat_trod {H : Type} {enc : TypeId × Value → H} {P : Program} {G : Gh} {w : World} {base : Nat} {spare : Nat → Bool} {held : Bool} {S : List TypeId} (hS : flatS P S = true) :
    ∀ (fuel : Nat) (t : TypeId) (cs : List Value) (d : DataW H) (ps : List MemPlace), t ∈ S → DataW.trod enc P w base spare held fuel t cs = some (d, ps) → Flat G w cs d := by
  intro fuel
  induction fuel with
  | zero => intro t cs d ps _ h; simp [DataW.trod] at h
  | succ k ih =>
    intro t cs d ps ht h
    have hp := (List.all_eq_true.1 hS) t ht
    cases hu : P.underlying t with
    | none => rw [hu] at hp; simp at hp
    | some u =>
    rw [hu] at hp
    cases u with
    | bool =>
      obtain ⟨b, rfl, e⟩ := DataW.trod_bool hu h
      cases e
      exact ⟨.one (.bool b), by simp [flatA, AV.single]⟩
    | int kd =>
      obtain ⟨n, rfl, e, _⟩ := DataW.trod_int hu h
      cases e
      exact ⟨.one (.int kd n), by simp [flatA, AV.single]⟩
    | string =>
      obtain ⟨s, rfl, e, _⟩ := DataW.trod_string hu h
      cases e
      exact ⟨.one (.str s), by simp [flatA, AV.single]⟩
    | struct fs =>
      simp only [Bool.and_eq_true] at hp
      obtain ⟨xs, n, e1, e2, hlen, hxl, hget⟩ := DataW.trod_struct hu h
      obtain rfl : k = n := by simpa using e1
      cases e2
      have hfs := List.all_eq_true.1 hp.1
      have := flat_fields (G := G) (w := w) (cs := cs) fs.toList xs 0 (P.cellsOf t) hp.2 hlen.symm (Nat.zero_le _) (by simpa using hxl) fun i f x hf hx => by
        have h2 := hget i f (by simpa using hf)
        rw [hx] at h2
        exact ih f.type _ _ _ (by simpa using hfs f (List.mem_of_getElem? hf)) h2
      rw [List.drop_zero] at this
      exact ⟨by simpa only [flatA] using this.1, by simpa only [flatA] using this.2⟩
    | array n e =>
      simp only [Bool.and_eq_true, beq_iff_eq] at hp
      obtain ⟨xs, m, e1, e2, hlen, hxl, hget⟩ := DataW.trod_array hu h
      obtain rfl : k = m := by simpa using e1
      cases e2
      rw [hp.2] at hlen
      have := flat_array (G := G) (w := w) hlen hxl (fun i x hi hx => by
        have h2 := hget i hi
        rw [hx] at h2
        exact ih e _ _ _ (by simpa using hp.1) h2) n (Nat.le_refl _)
      rw [Nat.sub_self, Nat.zero_mul, List.drop_zero, List.drop_zero] at this
      exact ⟨by simpa only [flatA] using this.1, by simpa only [flatA] using this.2⟩
    | _ => simp at hp
theorem cell_lt {w : World} {a : Addr} {v : Value} (h : w.cell? a = some v) : a.block < w.heap.size := by
  unfold World.cell? at h
  split at h
  · rename_i hh; exact (Array.getElem?_eq_some_iff.1 hh).1
  · cases h
/-- A variable that reads as a datum, as frozen cells. -/
theorem laid_ptr {H : Type} {enc : TypeId × Value → H} {P : Program} {w : World} {base : Nat} {spare : Nat → Bool} {held : Bool} {S : List TypeId} (hS : flatS P S = true) {fuel g : Nat} {t : TypeId} {nm : String} {cs : Array Value} {d : DataW H} {ps : List MemPlace}
    (hg : P.globalNamed nm = some g) (hv : w.var? P nm = some cs) (ht : t ∈ S) (h : DataW.trod enc P w base spare held fuel t cs.toList = some (d, ps)) : R (ghost0 w) w (.pointer (some ⟨g, 0, none⟩)) (.rptr (flatA d) 0) := by
  obtain ⟨h1, h2⟩ := flat_trod (G := ghost0 w) hS fuel t _ _ _ ht h
  have hc := World.var?_cell hg hv
  have hsz : cs.size = (flatA d).length := by simpa using h1.1
  have hcell : ∀ (j : Nat) (x : AV), (flatA d)[j]? = some x → w.cell? ((⟨g, 0, none⟩ : Addr).add j) = some (cs.getD j undef) := by
    intro j x hx
    have hj := get_lt' hx
    rw [add_none, Nat.zero_add, hc, Array.getElem?_eq_getElem (by omega), Array.getD_eq_getD_getElem?, Array.getElem?_eq_getElem (by omega)]
    rfl
  have e : (⟨g, 0, none⟩ : Addr) = (⟨g, 0, none⟩ : Addr).add 0 := by rw [add_none]
  rw [e]
  refine .rptr (flatA d) 0 ⟨g, 0, none⟩ (fun j => cs.getD j undef) h2 ?_ hcell ?_
  · intro k hk
    have := cell_lt (hcell k _ (List.getElem?_eq_getElem hk))
    rw [add_block] at this
    exact this
  · intro j x hx
    have hj := get_lt' hx
    refine h1.2 j _ x ?_ hx
    rw [Array.getD_eq_getD_getElem?, Array.getElem?_eq_getElem (by omega)]
    simp
end Go.Proofs.YtjgkfgocgknjjaaDoor.Abs
