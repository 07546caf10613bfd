/- The abstract machine, part 1: abstract values, what stands for what, and how it lasts. -/
import Derived.WalkKit
import Derived.ProofKit
import Derived.Below
import Derived.Orders
import Derived.Laws.AppendOwn
import Derived.Laws.MakeOwn
set_option linter.unusedVariables false
set_option linter.unusedSimpArgs false
namespace Go.Proofs.YtjgkfgocgknjjaaDoor.Abs
open Go Go.RowKit

/-- Who may append to a slice: nobody; anybody (its capacity is its length); who holds a tail. -/
inductive Own where
  | no
  | full
  | tk (b g : Nat)

inductive AV where
  | int (k : IntKind) (n : Int)
  | bool (b : Bool)
  | str (s : ByteArray)
  | nilp
  | nilfn
  | sl (own : Own) (rows : List (List AV))
  | osl (b g r n sz : Nat)
  | ptr (b g r o : Nat)
  | rptr (cells : List AV) (o : Nat)
  | agg (cells : List AV)
  | tup (vs : List AV)
  | fn (f : Fn) (first caps : List AV)
  deriving Inhabited

def AV.single : AV → Bool
  | .agg _ => false
  | .tup _ => false
  | _ => true
def AV.cells : AV → List AV
  | .agg cs => cs
  | x => [x]

/-- Where an entry of the abstract heap lies. -/
structure Loc where
  blk : Nat
  base : Nat
  size : Nat
  csize : Nat

/-- What the program's variables read as, as frozen cells: a seat's own table. -/
def gcells0 : List AV := [.str ⟨#[]⟩, .int .i64 0, .str ⟨#[]⟩, .int .i64 0, .str ⟨#[]⟩, .int .i64 0, .str ⟨#[]⟩, .int .i64 0, .str ⟨#[]⟩, .int .i64 0, .str ⟨#[]⟩, .int .i64 0, .str ⟨#[]⟩, .int .i64 0, .str ⟨#[]⟩, .int .i64 0, .str ⟨#[]⟩, .int .i64 0, .str ⟨#[84, 79, 78]⟩, .int .i64 2, .str ⟨#[73, 78]⟩, .int .i64 1, .str ⟨#[80, 84]⟩, .int .i64 6, .str ⟨#[81]⟩, .int .i64 1, .str ⟨#[69, 84]⟩, .int .i64 6, .str ⟨#[]⟩, .int .i64 0, .str ⟨#[]⟩, .int .i64 0, .str ⟨#[]⟩, .int .i64 0, .str ⟨#[]⟩, .int .i64 0, .str ⟨#[84, 79, 70]⟩, .int .i64 2, .str ⟨#[73, 78]⟩, .int .i64 1, .str ⟨#[80, 84]⟩, .int .i64 6, .str ⟨#[81]⟩, .int .i64 1, .str ⟨#[69, 84]⟩, .int .i64 6, .str ⟨#[]⟩, .int .i64 0, .str ⟨#[]⟩, .int .i64 0, .str ⟨#[]⟩, .int .i64 0, .str ⟨#[]⟩, .int .i64 0, .str ⟨#[84, 80]⟩, .int .i64 2, .str ⟨#[73, 78]⟩, .int .i64 1, .str ⟨#[80, 84]⟩, .int .i64 6, .str ⟨#[81]⟩, .int .i64 1, .str ⟨#[69, 84]⟩, .int .i64 6, .str ⟨#[]⟩, .int .i64 0, .str ⟨#[]⟩, .int .i64 0, .str ⟨#[]⟩, .int .i64 0, .str ⟨#[]⟩, .int .i64 0, .str ⟨#[67, 84, 85]⟩, .int .i64 3, .str ⟨#[67, 85]⟩, .int .i64 1, .str ⟨#[82]⟩, .int .i64 1, .str ⟨#[80, 86]⟩, .int .i64 2, .str ⟨#[81]⟩, .int .i64 1, .str ⟨#[67, 86]⟩, .int .i64 2, .str ⟨#[]⟩, .int .i64 0, .str ⟨#[]⟩, .int .i64 0, .str ⟨#[]⟩, .int .i64 0, .str ⟨#[67, 84, 68]⟩, .int .i64 3, .str ⟨#[67, 68]⟩, .int .i64 1, .str ⟨#[76, 68]⟩, .int .i64 1, .str ⟨#[80, 86]⟩, .int .i64 2, .str ⟨#[81]⟩, .int .i64 1, .str ⟨#[67, 86]⟩, .int .i64 2, .str ⟨#[]⟩, .int .i64 0, .str ⟨#[]⟩, .int .i64 0, .str ⟨#[]⟩, .int .i64 0, .str ⟨#[67, 84, 85, 68]⟩, .int .i64 5, .str ⟨#[67, 85]⟩, .int .i64 1, .str ⟨#[67, 68]⟩, .int .i64 1, .str ⟨#[82]⟩, .int .i64 1, .str ⟨#[76, 68]⟩, .int .i64 1, .str ⟨#[80, 86]⟩, .int .i64 2, .str ⟨#[81, 85]⟩, .int .i64 1, .str ⟨#[81, 68]⟩, .int .i64 1, .str ⟨#[67, 86]⟩, .int .i64 2, .str ⟨#[82, 95, 84, 82, 73, 71]⟩, .int .i64 1, .str ⟨#[67, 76, 75]⟩, .int .i64 1, .str ⟨#[81]⟩, .int .i64 1, .str ⟨#[]⟩, .int .i64 0, .str ⟨#[]⟩, .int .i64 0, .str ⟨#[]⟩, .int .i64 0, .str ⟨#[]⟩, .int .i64 0, .str ⟨#[]⟩, .int .i64 0, .str ⟨#[]⟩, .int .i64 0, .str ⟨#[70, 95, 84, 82, 73, 71]⟩, .int .i64 1, .str ⟨#[67, 76, 75]⟩, .int .i64 1, .str ⟨#[81]⟩, .int .i64 1, .str ⟨#[]⟩, .int .i64 0, .str ⟨#[]⟩, .int .i64 0, .str ⟨#[]⟩, .int .i64 0, .str ⟨#[]⟩, .int .i64 0, .str ⟨#[]⟩, .int .i64 0, .str ⟨#[]⟩, .int .i64 0]
def gcells1 : List AV := [.int .i64 76, .int .i64 76, .int .i64 12, .int .i64 12, .int .i64 12, .int .i64 76, .int .i64 50, .int .i64 50, .int .i64 50, .int .i64 50, .int .i64 48, .int .i64 48, .int .i64 126, .int .i64 126, .int .i64 124, .int .i64 124, .int .i64 124, .int .i64 124]
def gtab : Nat → Option (List AV) := fun n => match n with
  | 0 => some gcells0
  | 1 => some gcells1
  | _ => none

structure Gh where
  B : Nat
  fz : Nat → Nat → Prop
  at_ : Nat → Option (Nat × Loc)
  clock : Nat

inductive R (G : Gh) (w : World) : Value → AV → Prop
  | int (k : IntKind) (n : Int) : R G w (.int k n) (.int k n)
  | bool (b : Bool) : R G w (.bool b) (.bool b)
  | str (s : ByteArray) : R G w (.string s) (.str s)
  | nilp : R G w (.pointer none) .nilp
  | nilfn : R G w .nilFunc .nilfn
  | nilsl (own : Own) (ho : own = .no ∨ own = .full) : R G w (.slice none 0 0) (.sl own [])
  | sl (own : Own) (rows : List (List AV)) (ad : Addr) (n c s : Nat) (vs : Nat → Nat → Value)
      (hn : n = rows.length) (hc : n ≤ c) (hfull : own = .full → c = n)
      (htk : ∀ b g, own = .tk b g → g < G.clock ∧ ∀ l, G.at_ b = some (g, l) → ad.spot = none ∧ l.blk = ad.block ∧ l.size = s ∧ l.base = ad.off + n * s ∧ ad.off + c * s ≤ l.csize)
      (hlen : ∀ row ∈ rows, row.length = s)
      (hsing : ∀ row ∈ rows, ∀ x ∈ row, x.single = true)
      (hfz : ∀ k, k < n * s → G.fz ad.block (ad.off + k))
      (hcell : ∀ (i j : Nat) (row : List AV) (x : AV), rows[i]? = some row → row[j]? = some x → w.cell? (ad.add (i * s + j)) = some (vs i j))
      (hR : ∀ (i j : Nat) (row : List AV) (x : AV), rows[i]? = some row → row[j]? = some x → R G w (vs i j) x) :
      R G w (.slice (some ad) n c) (.sl own rows)
  | osl (b g r n sz : Nat) (ad : Addr) (c : Nat) (hg : g < G.clock) (hc : n ≤ c)
      (hl : ∀ l, G.at_ b = some (g, l) → ad = ⟨l.blk, l.base + r * l.size, none⟩ ∧ l.size = sz ∧ l.base + (r + c) * l.size ≤ l.csize) :
      R G w (.slice (some ad) n c) (.osl b g r n sz)
  | ptr (b g r o : Nat) (ad : Addr) (hg : g < G.clock)
      (hl : ∀ l, G.at_ b = some (g, l) → ad = ⟨l.blk, l.base + r * l.size + o, none⟩) :
      R G w (.pointer (some ad)) (.ptr b g r o)
  | rptr (cells : List AV) (o : Nat) (ad : Addr) (vs : Nat → Value)
      (hsing : ∀ x ∈ cells, x.single = true)
      (hfz : ∀ k, k < cells.length → G.fz ad.block (ad.off + k))
      (hcell : ∀ (j : Nat) (x : AV), cells[j]? = some x → w.cell? (ad.add j) = some (vs j))
      (hR : ∀ (j : Nat) (x : AV), cells[j]? = some x → R G w (vs j) x) :
      R G w (.pointer (some (ad.add o))) (.rptr cells o)
  | agg (cs : Array Value) (cells : List AV) (hs : cs.size = cells.length)
      (hsing : ∀ x ∈ cells, x.single = true)
      (hR : ∀ (j : Nat) (v : Value) (x : AV), cs[j]? = some v → cells[j]? = some x → R G w v x) :
      R G w (.agg cs) (.agg cells)
  | tup (cs : Array Value) (cells : List AV) (hs : cs.size = cells.length)
      (hR : ∀ (j : Nat) (v : Value) (x : AV), cs[j]? = some v → cells[j]? = some x → R G w v x) :
      R G w (.tuple cs) (.tup cells)
  | fn (f : Fn) (fs cs : Array Value) (first caps : List AV) (hf : fs.size = first.length) (hs : cs.size = caps.length)
      (hRf : ∀ (j : Nat) (v : Value) (x : AV), fs[j]? = some v → first[j]? = some x → R G w v x)
      (hR : ∀ (j : Nat) (v : Value) (x : AV), cs[j]? = some v → caps[j]? = some x → R G w v x) :
      R G w (.func f fs cs) (.fn f first caps)

/-- How the world and the ghost may have gone on. -/
structure Ext (G : Gh) (w : World) (G' : Gh) (w' : World) : Prop where
  B : G'.B = G.B
  below : Below G.B w w'
  clock : G.clock ≤ G'.clock
  fz : ∀ k o, G.fz k o → G'.fz k o
  keep : ∀ a : Addr, G.fz a.block a.off → a.spot = none → w'.cell? a = w.cell? a
  old : ∀ b g l, G'.at_ b = some (g, l) → g < G.clock → G.at_ b = some (g, l)

theorem Ext.refl (G : Gh) (w : World) : Ext G w G w :=
  ⟨rfl, Below.refl _ _, Nat.le_refl _, fun _ _ h => h, fun _ _ _ => rfl, fun _ _ _ h _ => h⟩
theorem Ext.trans {G1 G2 G3 : Gh} {w1 w2 w3 : World} (h : Ext G1 w1 G2 w2) (k : Ext G2 w2 G3 w3) : Ext G1 w1 G3 w3 :=
  ⟨k.B.trans h.B, h.below.trans (h.B ▸ k.below), Nat.le_trans h.clock k.clock, fun a o x => k.fz a o (h.fz a o x),
    fun a x y => (k.keep a (h.fz _ _ x) y).trans (h.keep a x y),
    fun b g l x y => h.old b g l (k.old b g l x (Nat.lt_of_lt_of_le y h.clock)) y⟩

theorem cell_spot {w : World} {a : Addr} {v : Value} (h : w.cell? a = some v) : a.spot = none := by
  unfold World.cell? at h
  split at h
  · split at h
    · cases h
    · rename_i hs; simpa using hs
  · cases h
theorem add_block (a : Addr) (n : Nat) : (a.add n).block = a.block := by unfold Addr.add; split <;> rfl
theorem add_off (a : Addr) (n : Nat) : (a.add n).off = a.off + n := by unfold Addr.add; split <;> simp_all
theorem add_add (a : Addr) (n m : Nat) : (a.add n).add m = a.add (n + m) := by
  unfold Addr.add
  by_cases h : n = 0
  · subst h; simp
  · by_cases k : m = 0
    · subst k; simp [h]
    · simp [h, k, Nat.add_assoc]
theorem add_none (b o n : Nat) : (⟨b, o, none⟩ : Addr).add n = ⟨b, o + n, none⟩ := by unfold Addr.add; split <;> simp_all
theorem add_zero (a : Addr) : a.add 0 = a := by simp [Addr.add]

theorem R.ext {G G' : Gh} {w w' : World} (he : Ext G w G' w') {v : Value} {x : AV} (h : R G w v x) : R G' w' v x := by
  have keep : ∀ (ad : Addr) (k : Nat) (u : Value), G.fz ad.block (ad.off + k) → w.cell? (ad.add k) = some u → w'.cell? (ad.add k) = some u := by
    intro ad k u hf hc
    rw [he.keep (ad.add k) (by rw [add_block, add_off]; exact hf) (cell_spot hc)]
    exact hc
  induction h with
  | int k n => exact .int k n
  | bool b => exact .bool b
  | str s => exact .str s
  | nilp => exact .nilp
  | nilfn => exact .nilfn
  | nilsl own ho => exact .nilsl own ho
  | sl own rows ad n c s vs hn hc hfull htk hlen hsing hfz hcell hR ih =>
    refine .sl own rows ad n c s vs hn hc hfull ?_ hlen hsing (fun k hk => he.fz _ _ (hfz k hk)) ?_ ih
    · intro b g ho
      obtain ⟨h1, h2⟩ := htk b g ho
      exact ⟨Nat.lt_of_lt_of_le h1 he.clock, fun l hl => h2 l (he.old b g l hl h1)⟩
    · intro i j row x hi hj
      refine keep ad _ _ (hfz _ ?_) (hcell i j row x hi hj)
      have h1 : i < rows.length := (List.getElem?_eq_some_iff.1 hi).1
      have h2 : j < row.length := (List.getElem?_eq_some_iff.1 hj).1
      have h3 : row.length = s := hlen row (List.mem_of_getElem? hi)
      rw [hn]
      have : (i + 1) * s ≤ rows.length * s := Nat.mul_le_mul_right _ h1
      rw [Nat.add_mul] at this
      omega
  | osl b g r n sz ad c hg hc hl => exact .osl b g r n sz ad c (Nat.lt_of_lt_of_le hg he.clock) hc (fun l h => hl l (he.old b g l h hg))
  | ptr b g r o ad hg hl => exact .ptr b g r o ad (Nat.lt_of_lt_of_le hg he.clock) (fun l h => hl l (he.old b g l h hg))
  | rptr cells o ad vs hsing hfz hcell hR ih =>
    refine .rptr cells o ad vs hsing (fun k hk => he.fz _ _ (hfz k hk)) ?_ ih
    intro j x hj
    exact keep ad _ _ (hfz _ (List.getElem?_eq_some_iff.1 hj).1) (hcell j x hj)
  | agg cs cells hs hsing hR ih => exact .agg cs cells hs hsing ih
  | tup cs cells hs hR ih => exact .tup cs cells hs ih
  | fn f fs cs first caps hf hs hRf hR ihf ih => exact .fn f fs cs first caps hf hs ihf ih

/-- A value may be told with less: nobody may append to it. -/
inductive Wkn : AV → AV → Prop
  | refl (x : AV) : Wkn x x
  | sl (own own' : Own) (rows rows' : List (List AV)) (ho : own' = .no ∨ own' = own) (hl : rows.length = rows'.length)
      (hr : ∀ (i : Nat) (row row' : List AV), rows[i]? = some row → rows'[i]? = some row' → row.length = row'.length)
      (h : ∀ (i j : Nat) (row row' : List AV) (x x' : AV), rows[i]? = some row → rows'[i]? = some row' → row[j]? = some x → row'[j]? = some x' → Wkn x x') :
      Wkn (.sl own rows) (.sl own' rows')
  | agg (cs cs' : List AV) (hl : cs.length = cs'.length) (h : ∀ (j : Nat) (x x' : AV), cs[j]? = some x → cs'[j]? = some x' → Wkn x x') : Wkn (.agg cs) (.agg cs')

theorem Wkn.single {x y : AV} (h : Wkn x y) : y.single = x.single := by cases h <;> rfl
theorem Wkn.no (own : Own) (rows : List (List AV)) : Wkn (.sl own rows) (.sl .no rows) :=
  .sl own .no rows rows (.inl rfl) rfl (fun i r r' h h' => by rw [h] at h'; cases h'; rfl)
    (fun i j r r' x x' h h' k k' => by rw [h] at h'; cases h'; rw [k] at k'; cases k'; exact .refl _)

theorem mem_get {α : Type} {l : List α} {x : α} (h : x ∈ l) : ∃ i : Nat, l[i]? = some x := List.getElem?_of_mem h
theorem get_ex {α β : Type} {l : List α} {m : List β} (h : l.length = m.length) {i : Nat} {y : β} (k : m[i]? = some y) : ∃ x, l[i]? = some x := by
  have : i < m.length := (List.getElem?_eq_some_iff.1 k).1
  exact ⟨l[i]'(by omega), List.getElem?_eq_getElem _⟩

theorem R.wkn {G : Gh} {w : World} {v : Value} {x y : AV} (h : R G w v x) (k : Wkn x y) : R G w v y := by
  induction h generalizing y with
  | int | bool | str | nilp | nilfn | osl | ptr | rptr | tup | fn =>
    cases k
    first
      | exact .int _ _ | exact .bool _ | exact .str _ | exact .nilp | exact .nilfn
      | (apply R.osl <;> assumption) | (apply R.ptr <;> assumption) | (apply R.rptr <;> assumption) | (apply R.tup <;> assumption) | (apply R.fn <;> assumption)
  | nilsl own ho =>
    cases k with
    | refl => exact .nilsl own ho
    | sl _ own' _ rows' h1 h2 h3 h4 =>
      have : rows' = [] := List.eq_nil_of_length_eq_zero (by simpa using h2.symm)
      subst this
      rcases h1 with rfl | rfl
      · exact .nilsl _ (.inl rfl)
      · exact .nilsl _ ho
  | sl own rows ad n c s vs hn hc hfull htk hlen hsing hfz hcell hR ih =>
    cases k with
    | refl => exact .sl own rows ad n c s vs hn hc hfull htk hlen hsing hfz hcell hR
    | sl _ own' _ rows' h1 h2 h3 h4 =>
      refine .sl own' rows' ad n c s vs (by omega) hc ?_ ?_ ?_ ?_ hfz ?_ ?_
      · intro e; rcases h1 with rfl | rfl
        · cases e
        · exact hfull e
      · intro b g e; rcases h1 with rfl | rfl
        · cases e
        · exact htk b g e
      · intro row hrow
        obtain ⟨i, hi⟩ := mem_get hrow
        obtain ⟨r0, hr0⟩ := get_ex h2 hi
        rw [← h3 i _ _ hr0 hi]
        exact hlen r0 (List.mem_of_getElem? hr0)
      · intro row hrow x hx
        obtain ⟨i, hi⟩ := mem_get hrow
        obtain ⟨j, hj⟩ := mem_get hx
        obtain ⟨r0, hr0⟩ := get_ex h2 hi
        obtain ⟨x0, hx0⟩ := get_ex (h3 i _ _ hr0 hi) hj
        rw [(h4 i j _ _ _ _ hr0 hi hx0 hj).single]
        exact hsing r0 (List.mem_of_getElem? hr0) x0 (List.mem_of_getElem? hx0)
      · intro i j row x hi hj
        obtain ⟨r0, hr0⟩ := get_ex h2 hi
        obtain ⟨x0, hx0⟩ := get_ex (h3 i _ _ hr0 hi) hj
        exact hcell i j r0 x0 hr0 hx0
      · intro i j row x hi hj
        obtain ⟨r0, hr0⟩ := get_ex h2 hi
        obtain ⟨x0, hx0⟩ := get_ex (h3 i _ _ hr0 hi) hj
        exact ih i j r0 x0 hr0 hx0 (h4 i j _ _ _ _ hr0 hi hx0 hj)
  | agg cs cells hs hsing hR ih =>
    cases k with
    | refl => exact .agg cs cells hs hsing hR
    | agg _ cs' h2 h4 =>
      refine .agg cs cs' (by omega) ?_ ?_
      · intro x hx
        obtain ⟨j, hj⟩ := mem_get hx
        obtain ⟨x0, hx0⟩ := get_ex h2 hj
        rw [(h4 j _ _ hx0 hj).single]
        exact hsing x0 (List.mem_of_getElem? hx0)
      · intro j v x hv hx
        obtain ⟨x0, hx0⟩ := get_ex h2 hx
        exact ih j v x0 hv hx0 (h4 j _ _ hx0 hx)

theorem R.oneCell {G : Gh} {w : World} {v : Value} {x : AV} (h : R G w v x) (hs : x.single = true) : v.oneCell' = true := by
  cases h <;> simp_all [AV.single, Value.oneCell']
end Go.Proofs.YtjgkfgocgknjjaaDoor.Abs
