/- The abstract machine, part 7: the other operations, on values. -/
import Derived.Test.YtjgkfgocgknjjaaDoorA6
set_option linter.unusedVariables false
set_option linter.unusedSimpArgs false
namespace Go.Proofs.YtjgkfgocgknjjaaDoor.Abs
open Go Go.RowKit

/-! Constants. -/
def constOk : Value → AV → Bool
  | .int k n, .int k' n' => decide (k = k') && decide (n = n')
  | .bool b, .bool b' => b == b'
  | .string s, .str s' => decide (s = s')
  | .slice none 0 0, .sl .full [] => true
  | .slice none 0 0, .sl .no [] => true
  | .pointer none, .nilp => true
  | .nilFunc, .nilfn => true
  | _, _ => false
theorem const_R {G : Gh} {w : World} {v : Value} {x : AV} (h : constOk v x = true) : R G w v x := by
  unfold constOk at h
  split at h
  · simp at h; obtain ⟨rfl, rfl⟩ := h; exact .int _ _
  · simp at h; subst h; exact .bool _
  · simp at h; subst h; exact .str _
  · exact .nilsl _ (.inr rfl)
  · exact .nilsl _ (.inl rfl)
  · exact .nilp
  · exact .nilfn
  · cases h
theorem const_single {v : Value} {x : AV} (h : constOk v x = true) : x.single = true := by
  unfold constOk at h
  split at h <;> first | rfl | cases h
def constsOk : List Value → List AV → Bool
  | [], [] => true
  | v :: vs, x :: xs => constOk v x && constsOk vs xs
  | _, _ => false
theorem consts_R {G : Gh} {w : World} : ∀ {vs : List Value} {xs : List AV}, constsOk vs xs = true → RL G w vs xs ∧ ∀ x ∈ xs, x.single = true
  | [], [], _ => ⟨RL.nil _ _, by simp⟩
  | v :: vs, x :: xs, h => by
    simp only [constsOk, Bool.and_eq_true] at h
    obtain ⟨a, b⟩ := consts_R (G := G) (w := w) h.2
    exact ⟨RL.cons (const_R h.1) a, by simpa using ⟨const_single h.1, b⟩⟩
/-- The zero value of a type, cell by cell. -/
def zeroOk (P : Program) (t : TypeId) (zero : List AV) : Bool :=
  match P.info? t with
  | some i => match i.zero with
    | some z => constsOk z.cells.toList zero
    | none => false
  | none => false
theorem zero_ok {P : Program} {t : TypeId} {zero : List AV} (h : zeroOk P t zero = true) : ∃ i z, P.info? t = some i ∧ i.zero = some z ∧ constsOk z.cells.toList zero = true := by
  unfold zeroOk at h
  split at h
  · rename_i i hi
    split at h
    · rename_i z hz; exact ⟨i, z, hi, hz, h⟩
    · cases h
  · cases h

theorem ok_alloc {P : Program} {w : World} {G : Gh} {H : AHeap} (hi : Inv G w H) {t : TypeId} {zero : List AV} (h : zeroOk P t zero = true) :
    OkV G w ((Instr.alloc t true (.tuple #[])).run P w) (.ptr H.length G.clock 0 0) (H ++ [some (.rows G.clock [zero])]) := by
  obtain ⟨i, z, h1, h2, h3⟩ := zero_ok h
  obtain ⟨hRL, hsing⟩ := consts_R (G := G) (w := w) h3
  have hz : R G w (.agg z.cells) (.agg zero) := .agg _ _ (by simpa using hRL.1) hsing (fun j v x a b => hRL.2 j v x (by simpa using a) b)
  have := ok_newVar (P := P) hi t hz rfl
  have hrun : (Instr.alloc t true (.tuple #[])).run P w = .ok (.pointer (some ⟨w.heap.size, 0, none⟩)) (w.alloc (.cells z.cells t)) := by
    simp [Instr.alloc, zeroValue, typeInfo, h1, h2, newVar, newRow]
  rw [hrun]
  simpa [Value.cells, AV.cells] using this
theorem ok_box {P : Program} {w : World} {G : Gh} {H : AHeap} (hi : Inv G w H) (t : TypeId) {v : Value} {x : AV} (hv : R G w v x) (hx : x.okst = true) :
    OkV G w ((Instr.box t v).run P w) (.ptr H.length G.clock 0 0) (H ++ [some (.rows G.clock [x.cells])]) := by
  have := ok_newVar (P := P) hi t hv hx
  have hrun : (Instr.box t v).run P w = .ok (.pointer (some ⟨w.heap.size, 0, none⟩)) (w.alloc (.cells v.cells t)) := by simp [Instr.box, newVar, newRow]
  rw [hrun]; exact this

/-! Structs and arrays as values. -/
def fieldPlaces (P : Program) : List Field → Option (List (Nat × Nat))
  | [] => some []
  | f :: r => match P.info? f.type, fieldPlaces P r with
    | some i, some l => some ((f.offset, i.size) :: l)
    | _, _ => none
theorem run_places {P : Program} {w : World} : ∀ {fs : List Field} {l : List (Nat × Nat)}, fieldPlaces P fs = some l → (fs.mapM (fun f => (do pure (f.offset, ← sizeOf f.type) : Sem (Nat × Nat)))).run P w = .ok l w
  | [], l, h => by simp [fieldPlaces] at h; subst h; simp
  | f :: r, l, h => by
    simp only [fieldPlaces] at h
    split at h
    · rename_i i l' hi hl
      cases h
      have ih := run_places (w := w) hl
      have hsz : (sizeOf f.type).run P w = .ok i.size w := by simp [sizeOf, typeInfo, hi]
      simp only [List.mapM_cons, Sem.run_bind, hsz, Result.andThen_ok, Sem.run_pure, ih]
    · cases h

theorem ok_build {P : Program} {w : World} {G : Gh} {H : AHeap} (hi : Inv G w H) {t : TypeId} {zero cells' : List AV} (h : zeroOk P t zero = true) {fields : Array Field} (hu : P.underlying t = some (.struct fields)) {places : List (Nat × Nat)} (hp : fieldPlaces P fields.toList = some places)
    {parts : List (Nat × Value)} {aparts : List (Nat × Nat × AV)} (hparts : RParts G w (fun i => places[i]?) parts aparts) (hf : fillA zero aparts = some cells') :
    OkV G w ((Instr.build t parts.toArray).run P w) (.agg cells') H := by
  obtain ⟨i, z, h1, h2, h3⟩ := zero_ok h
  obtain ⟨hRL, hsing⟩ := consts_R (G := G) (w := w) h3
  obtain ⟨cs, k1, k2, k3⟩ := fill_ok hparts hRL hsing hf
  refine .same hi (v := .agg cs) ?_ (.agg _ _ (by simpa using k2.1) k3 (fun j v x a b => k2.2 j v x (by simpa using a) b))
  have hrp := run_places (P := P) (w := w) hp
  have hm : (fields.mapM (fun f => (do pure (f.offset, ← sizeOf f.type) : Sem (Nat × Nat)))) = List.toArray <$> (fields.toList.mapM (fun f => (do pure (f.offset, ← sizeOf f.type) : Sem (Nat × Nat)))) := by
    rw [Array.mapM_eq_mapM_toList]
  simp only [Instr.build, zeroValue, typeInfo, Sem.run_bind, run_program, Result.andThen_ok, h1, h2, Sem.run_pure, run_underlying hu, hm, Sem.run_map, hrp]
  simp [k1]

def fldA (agg : Bool) (n off : Nat) (x : AV) : Option AV :=
  match x with
  | .agg cells => ldRow agg n cells off
  | _ => none
theorem ok_field {P : Program} {w : World} {G : Gh} {t : TypeId} {fields : Array Field} (hu : P.underlying t = some (.struct fields)) {k : Nat} {f : Field} (hf : fields[k]? = some f) {agg : Bool} {n : Nat} (ht : tyOk P f.type agg n = true)
    {v : Value} {x y : AV} (hv : R G w v x) (hy : fldA agg n f.offset x = some y) : ∃ u, (Instr.field t v k).run P w = .ok u w ∧ R G w u y := by
  unfold fldA at hy
  split at hy
  case h_2 => cases hy
  rename_i cells
  cases hv with
  | agg cs _ hs hsing hR =>
  cases agg with
  | false =>
    simp only [ldRow, if_false, Bool.false_eq_true] at hy
    obtain ⟨u, hu'⟩ := get_ex (l := cs.toList) (by simpa using hs) hy
    have hu'' : cs[f.offset]? = some u := by simpa using hu'
    exact ⟨u, by simp [Instr.field, run_underlying hu, hf, part, tyOk_agg ht, asAgg, hu''], hR _ u y hu'' hy⟩
  | true =>
    simp only [ldRow, if_true] at hy
    have fin : ∀ part : List AV, f.offset + n ≤ cells.length → part = (cells.drop f.offset).take n → ∃ u, (Instr.field t (.agg cs) k).run P w = .ok u w ∧ R G w u (.agg part) := by
      intro part' hle hp
      refine ⟨.agg (cs.extract f.offset (f.offset + n)), by simp [Instr.field, run_underlying hu, hf, part, tyOk_agg ht, tyOk_size ht, asAgg], ?_⟩
      subst hp
      refine .agg _ _ (by simp; omega) (fun y h => hsing y (List.mem_of_mem_drop (List.mem_of_mem_take h))) ?_
      intro j v x hv hx
      rw [getElem?_sub] at hx
      split at hx
      case isFalse => cases hx
      rename_i hj
      rw [Array.getElem?_extract] at hv
      split at hv
      · exact hR _ v x hv hx
      · cases hv
    split at hy
    · rename_i h0
      cases hy
      exact fin cells (by omega) (by rw [h0.1, h0.2]; simp)
    · split at hy
      · rename_i hle
        cases hy
        exact fin _ hle rfl
      · cases hy

theorem part_ok {P : Program} {w : World} {G : Gh} {e : TypeId} {agg : Bool} {n : Nat} (ht : tyOk P e agg n = true) {cs : Array Value} {cells : List AV} (hv : R G w (.agg cs) (.agg cells)) {off : Nat} {y : AV} (hy : ldRow agg n cells off = some y) :
    ∃ u, (part e cs off).run P w = .ok u w ∧ R G w u y := by
  cases hv with
  | agg cs _ hs hsing hR =>
  cases agg with
  | false =>
    simp only [ldRow, if_false, Bool.false_eq_true] at hy
    obtain ⟨u, hu'⟩ := get_ex (l := cs.toList) (by simpa using hs) hy
    have hu'' : cs[off]? = some u := by simpa using hu'
    exact ⟨u, by simp [part, tyOk_agg ht, hu''], hR _ u y hu'' hy⟩
  | true =>
    simp only [ldRow, if_true] at hy
    have fin : ∀ q : List AV, off + n ≤ cells.length → q = (cells.drop off).take n → ∃ u, (part e cs off).run P w = .ok u w ∧ R G w u (.agg q) := by
      intro q hle hp
      refine ⟨.agg (cs.extract off (off + n)), by simp [part, tyOk_agg ht, tyOk_size ht], ?_⟩
      subst hp
      refine .agg _ _ (by simp; omega) (fun y h => hsing y (List.mem_of_mem_drop (List.mem_of_mem_take h))) ?_
      intro j v x hv hx
      rw [getElem?_sub] at hx
      split at hx
      case isFalse => cases hx
      rw [Array.getElem?_extract] at hv
      split at hv
      · exact hR _ v x hv hx
      · cases hv
    split at hy
    · rename_i h0
      cases hy
      exact fin cells (by omega) (by rw [h0.1, h0.2]; simp)
    · split at hy
      · rename_i hle
        cases hy
        exact fin _ hle rfl
      · cases hy
def aidxA (agg : Bool) (n sz len : Nat) (x i : AV) : Option AV :=
  match x, i with
  | .agg cells, .int _ k => if 0 ≤ k ∧ k < len then ldRow agg n cells (k.toNat * sz) else none
  | _, _ => none
theorem ok_aidx {P : Program} {w : World} {G : Gh} {t e : TypeId} {len : Nat} (hu : P.underlying t = some (.array len e)) {agg : Bool} {n : Nat} (ht : tyOk P e agg n = true) {v u : Value} {x i z : AV} (hv : R G w v x) (hi : R G w u i) (h : aidxA agg n n len x i = some z) :
    ∃ r, (Instr.index t v u).run P w = .ok r w ∧ R G w r z := by
  unfold aidxA at h
  split at h
  case h_2 => cases h
  rename_i cells k m
  split at h
  case isFalse => cases h
  rename_i hk
  have hv' := hv
  cases hv; cases hi
  obtain ⟨r, hr, hR⟩ := part_ok ht hv' h
  exact ⟨r, by simp [Instr.index, asIntOf, run_underlying hu, hk, tyOk_size ht, hr], hR⟩

/-! Addresses. -/
def faA (off : Nat) (x : AV) : Option AV :=
  match x with
  | .ptr b g r o => some (.ptr b g r (o + off))
  | .rptr cells o => some (.rptr cells (o + off))
  | _ => none
theorem ok_fieldAddr {P : Program} {w : World} {G : Gh} {t : TypeId} {fields : Array Field} (hu : P.underlying t = some (.struct fields)) {k : Nat} {f : Field} (hf : fields[k]? = some f) {i : TypeInfo} (hi : P.info? f.type = some i) (h0 : i.size ≠ 0)
    {v : Value} {x y : AV} (hv : R G w v x) (hy : faA f.offset x = some y) : ∃ u, (Instr.fieldAt t v k).run P w = .ok u w ∧ R G w u y := by
  have hrun : ∀ a : Addr, (Instr.fieldAt t (.pointer (some a)) k).run P w = .ok (.pointer (some (a.add f.offset))) w := by
    intro a
    simp [Instr.fieldAt, run_underlying hu, hf, Instr.sureAddr, fieldPlace, sizeOf, typeInfo, hi, h0]
  unfold faA at hy
  split at hy
  · cases hy
    cases hv with
    | ptr b g r o ad hg hl =>
      refine ⟨_, hrun ad, .ptr _ _ _ _ _ hg fun l h => ?_⟩
      rw [hl l h, add_none, Nat.add_assoc]
  · rename_i cells o
    cases hy
    cases hv with
    | rptr _ _ ad vs hsing hfz hcell hR =>
      exact ⟨_, hrun _, by rw [add_add]; exact .rptr cells _ ad vs hsing hfz hcell hR⟩
  · cases hy

def iaA (sz : Nat) (x i : AV) : Option AV :=
  match i with
  | .int _ n =>
    if 0 ≤ n then
      match x with
      | .sl _ rows => match rows[n.toNat]? with
        | some row => if row.length = sz then some (.rptr row 0) else none
        | none => none
      | .osl b g r m sz' => if n < m ∧ sz' = sz then some (.ptr b g (r + n.toNat) 0) else none
      | _ => none
    else none
  | _ => none
theorem ok_indexAddr {P : Program} {w : World} {G : Gh} {t e : TypeId} (hu : P.underlying t = some (.slice e)) {i : TypeInfo} (hi : P.info? e = some i) {v vi : Value} {x xi y : AV} (hv : R G w v x) (hvi : R G w vi xi) (hy : iaA i.size x xi = some y) :
    ∃ u, (Instr.indexAt t v vi).run P w = .ok u w ∧ R G w u y := by
  unfold iaA at hy
  split at hy
  case h_2 => cases hy
  rename_i k n
  split at hy
  case isFalse => cases hy
  rename_i hn
  cases hvi
  have hrun : ∀ (a : Addr) (len c : Nat), n < (len : Int) → (Instr.indexAt t (.slice (some a) len c) (.int k n)).run P w = .ok (.pointer (some (a.add (n.toNat * i.size)))) w := by
    intro a len c hlt
    simp [Instr.indexAt, asIntOf, run_underlying hu, hn, hlt, sizeOf, typeInfo, hi]
  split at hy
  · rename_i own rows
    split at hy
    case h_2 => cases hy
    rename_i row hrow
    split at hy
    case isFalse => cases hy
    rename_i hsz
    cases hy
    have hlt : n.toNat < rows.length := (List.getElem?_eq_some_iff.1 hrow).1
    rcases sl_inv hv with ⟨_, h, _⟩ | ⟨ad, c, s, vs, rfl, hc, hfull, htk, hlen, hsing, hfz, hcell, hR⟩
    · subst h; simp at hlt
    · have hs : s = i.size := by rw [← hlen row (List.mem_of_getElem? hrow)]; exact hsz
      subst hs
      refine ⟨_, hrun ad _ c (by omega), ?_⟩
      have := R.rptr (G := G) (w := w) row 0 (ad.add (n.toNat * i.size)) (fun j => vs n.toNat j) (hsing row (List.mem_of_getElem? hrow)) ?_ ?_ ?_
      · rwa [add_zero] at this
      · intro k hk
        rw [add_block, add_off, Nat.add_assoc]
        refine hfz _ ?_
        have : (n.toNat + 1) * i.size ≤ rows.length * i.size := Nat.mul_le_mul_right _ hlt
        rw [Nat.add_mul] at this
        omega
      · intro j x hj
        rw [add_add]
        exact hcell _ j row x hrow hj
      · intro j x hj
        exact hR _ j row x hrow hj
  · rename_i b g r m sz'
    split at hy
    case isFalse => cases hy
    rename_i hh
    obtain ⟨hlt, rfl⟩ := hh
    cases hy
    obtain ⟨ad, c, rfl, hg, hc, hl⟩ := osl_inv hv
    refine ⟨_, hrun ad m c hlt, .ptr _ _ _ _ _ hg fun l h => ?_⟩
    obtain ⟨h1, h2, h3⟩ := hl l h
    rw [h1, add_none, ← h2, Nat.add_mul, Nat.add_zero, Nat.add_assoc]
  · cases hy

def iaArr (sz len : Nat) (x i : AV) : Option AV :=
  match i with
  | .int _ n =>
    if 0 ≤ n ∧ n < len then faA (n.toNat * sz) x else none
  | _ => none
theorem ok_indexAddrArr {P : Program} {w : World} {G : Gh} {t e : TypeId} {len : Nat} (hu : P.underlying t = some (.array len e)) {i : TypeInfo} (hi : P.info? e = some i) {v vi : Value} {x xi y : AV} (hv : R G w v x) (hvi : R G w vi xi) (hy : iaArr i.size len x xi = some y) :
    ∃ u, (Instr.indexAt t v vi).run P w = .ok u w ∧ R G w u y := by
  unfold iaArr at hy
  split at hy
  case h_2 => cases hy
  rename_i k n
  split at hy
  case isFalse => cases hy
  rename_i hn
  cases hvi
  have hrun : ∀ (a : Addr), (Instr.indexAt t (.pointer (some a)) (.int k n)).run P w = .ok (.pointer (some (a.add (n.toNat * i.size)))) w := by
    intro a
    simp [Instr.indexAt, asIntOf, run_underlying hu, hn, sizeOf, typeInfo, hi, Instr.sureAddr]
  unfold faA at hy
  split at hy
  · cases hy
    cases hv with
    | ptr b g r o ad hg hl =>
      refine ⟨_, hrun ad, .ptr _ _ _ _ _ hg fun l h => ?_⟩
      rw [hl l h, add_none, Nat.add_assoc]
  · rename_i cells o
    cases hy
    cases hv with
    | rptr _ _ ad vs hsing hfz hcell hR =>
      exact ⟨_, hrun _, by rw [add_add]; exact .rptr cells _ ad vs hsing hfz hcell hR⟩
  · cases hy

/-! Pieces of slices and strings. -/
def bnd (x : Option AV) (d : Nat) : Option Nat :=
  match x with
  | none => some d
  | some (.int _ n) => if 0 ≤ n then some n.toNat else none
  | _ => none
def slcA (sz : Nat) (x : AV) (lo hi : Option AV) : Option AV :=
  match x with
  | .sl own rows =>
    match bnd lo 0, bnd hi rows.length with
    | some l, some h =>
      if l ≤ h ∧ h ≤ rows.length then
        if l = 0 ∧ h = rows.length then some x
        else if rows.all (fun row => row.length == sz) = true then some (.sl (match own with | .full => if h = rows.length then .full else .no | _ => .no) ((rows.drop l).take (h - l))) else none
      else none
    | _, _ => none
  | .osl b g r n sz' =>
    match bnd lo 0, bnd hi n with
    | some l, some h =>
      if l ≤ h ∧ h ≤ n ∧ sz' = sz then
        if l = 0 ∨ l < h then some (.osl b g (r + l) (h - l) sz) else some (.sl .no [])
      else none
    | _, _ => none
  | .str s =>
    match bnd lo 0, bnd hi s.size with
    | some l, some h => if l ≤ h ∧ h ≤ s.size then some (.str (s.extract l h)) else none
    | _, _ => none
  | _ => none
def ROpt (G : Gh) (w : World) : Option Value → Option AV → Prop
  | none, none => True
  | some v, some x => R G w v x
  | _, _ => False
theorem run_bound {P : Program} {w : World} (v : Value := undef) {k : IntKind} {n : Int} (h0 : 0 ≤ n) (y : Nat) (h : n.toNat ≤ y) (c : BoundsCode) : (Instr.sliceBound (.int k n) y c).run P w = .ok n.toNat w := by
  have : n ≤ y := by omega
  simp [Instr.sliceBound, asIntOf, h0, this]
theorem bnd_spec {G : Gh} {w : World} {lo : Option Value} {alo : Option AV} {d l : Nat} (h : ROpt G w lo alo) (e : bnd alo d = some l) : (lo = none ∧ l = d) ∨ ∃ k n, lo = some (.int k n) ∧ 0 ≤ n ∧ l = n.toNat := by
  cases lo with
  | none =>
    cases alo with
    | some _ => exact h.elim
    | none => simp [bnd] at e; exact .inl ⟨rfl, e.symm⟩
  | some v =>
    cases alo with
    | none => exact h.elim
    | some x =>
      simp only [ROpt] at h
      cases x <;> simp only [bnd] at e <;> try (cases e)
      rename_i k n
      cases h
      split at e
      · rename_i h0; exact .inr ⟨k, n, rfl, h0, (Option.some.inj e).symm⟩
      · cases e
theorem run_bounds {P : Program} {w : World} {G : Gh} (isSlice : Bool) {len cap : Nat} {lo hi : Option Value} {alo ahi : Option AV} (hlo : ROpt G w lo alo) (hhi : ROpt G w hi ahi) {l h : Nat} (el : bnd alo 0 = some l) (eh : bnd ahi len = some h) (hlh : l ≤ h) (hlen : h ≤ len) (hcap : len ≤ cap) :
    (Instr.sliceBounds isSlice len cap lo hi none).run P w = .ok (l, h, cap) w := by
  rcases bnd_spec hlo el with ⟨rfl, rfl⟩ | ⟨k, n, rfl, h0, rfl⟩ <;> rcases bnd_spec hhi eh with ⟨rfl, rfl⟩ | ⟨k', n', rfl, h0', rfl⟩
  · simp [Instr.sliceBounds]
  · have a := run_bound (P := P) (w := w) (v := undef) (k := k') h0' cap (by omega)
    cases isSlice <;> simp [Instr.sliceBounds, a]
  · have b := run_bound (P := P) (w := w) (v := undef) (k := k) h0 h hlh
    cases isSlice <;> simp [Instr.sliceBounds, b]
  · have a := run_bound (P := P) (w := w) (v := undef) (k := k') h0' cap (by omega)
    have b := run_bound (P := P) (w := w) (v := undef) (k := k) h0 n'.toNat hlh
    cases isSlice <;> simp [Instr.sliceBounds, a, b]

theorem ok_slice {P : Program} {w : World} {G : Gh} {t : TypeId} {sz : Nat} (ht : (P.underlying t = some .string) ∨ ∃ e i, P.underlying t = some (.slice e) ∧ P.info? e = some i ∧ i.size = sz) {v : Value} {x y : AV} {lo hi : Option Value} {alo ahi : Option AV}
    (hv : R G w v x) (hlo : ROpt G w lo alo) (hhi : ROpt G w hi ahi) (hstr : P.underlying t = some .string ↔ ∃ s, x = .str s) (hy : slcA sz x alo ahi = some y) : ∃ u, (Instr.sliceAt t v lo hi none).run P w = .ok u w ∧ R G w u y := by
  unfold slcA at hy
  split at hy
  · rename_i own rows
    have htt : ∃ e i, P.underlying t = some (.slice e) ∧ P.info? e = some i ∧ i.size = sz := by
      rcases ht with h | h
      · obtain ⟨s, hs⟩ := hstr.1 h; cases hs
      · exact h
    obtain ⟨e, i, hu, hi', hsz⟩ := htt
    split at hy
    case h_2 => cases hy
    rename_i l h el eh
    split at hy
    case isFalse => cases hy
    rename_i hlh
    have hrun : ∀ (a : Option Addr) (c : Nat), rows.length ≤ c → (Instr.sliceAt t (.slice a rows.length c) lo hi none).run P w = .ok (.slice (if c = l then a else a.map (·.add (l * sz))) (h - l) (c - l)) w := by
      intro a c hc
      simp [Instr.sliceAt, run_underlying hu, Instr.slice, run_bounds true hlo hhi el eh hlh.1 hlh.2 hc, sizeOf, typeInfo, hi', hsz]
    have hx := hv
    rcases sl_inv hv with ⟨rfl, hr, ho⟩ | ⟨ad, c, s, vs, rfl, hc, hfull, htk, hlen, hsing, hfz, hcell, hR⟩
    · subst hr
      simp only [List.length_nil] at hlh hy hrun
      have : h = 0 := by omega
      subst this
      have : l = 0 := by omega
      subst this
      simp at hy
      subst hy
      refine ⟨_, hrun none 0 (Nat.le_refl _), ?_⟩
      simpa using hx
    · split at hy
      · rename_i h0
        obtain ⟨rfl, rfl⟩ := h0
        cases hy
        refine ⟨_, hrun (some ad) c hc, ?_⟩
        have : (if c = 0 then some ad else (some ad).map (·.add (0 * sz))) = some ad := by split <;> simp [add_zero]
        rw [this]
        simpa using hx
      · split at hy
        case isFalse => cases hy
        rename_i hall
        have hall' : ∀ row ∈ rows, row.length = sz := by simpa [List.all_eq_true] using hall
        cases hy
        refine ⟨_, hrun (some ad) c hc, ?_⟩
        by_cases hcl : c = l
        · have hhl : h = l := by omega
          subst hhl
          rw [if_pos hcl]
          subst hcl
          simp only [Nat.sub_self]
          refine .sl _ _ ad 0 0 0 (fun _ _ => undef) (by simp) (Nat.le_refl _) (fun _ => rfl) ?_ (by simp) (by simp) (fun k hk => by omega) (fun i j row x h => by simp at h) (fun i j row x h => by simp at h)
          intro b g e
          split at e
          · split at e <;> cases e
          · cases e
        · rw [if_neg hcl]
          simp only [Option.map_some]
          have hlen' : ((rows.drop l).take (h - l)).length = h - l := by rw [List.length_take, List.length_drop]; omega
          have hmem : ∀ row ∈ (rows.drop l).take (h - l), row ∈ rows := fun row h => List.mem_of_mem_drop (List.mem_of_mem_take h)
          by_cases hne : rows = []
          · subst hne
            simp only [List.length_nil] at hlh
            have : l = 0 := by omega
            subst this
            have : h = 0 := by omega
            subst this
            refine .sl _ _ _ 0 (c - 0) 0 (fun _ _ => undef) (by simp) (Nat.zero_le _) ?_ ?_ (by simp) (by simp) (fun k hk => by omega) (fun i j row x h => by simp at h) (fun i j row x h => by simp at h)
            · intro e
              split at e
              · have := hfull rfl; simp at this; omega
              · cases e
            · intro b g e
              split at e
              · split at e <;> cases e
              · cases e
          have hs : s = sz := by
            obtain ⟨row, hrow⟩ : ∃ row, row ∈ rows := List.exists_mem_of_ne_nil _ hne
            rw [← hall' row hrow, hlen row hrow]
          subst hs
          refine .sl _ _ _ _ _ s (fun i j => vs (l + i) j) hlen'.symm (by omega) ?_ ?_ (fun row h => hlen row (hmem row h)) (fun row h => hsing row (hmem row h)) ?_ ?_ ?_
          · intro e
            split at e
            · split at e
              · rename_i h1; have := hfull rfl; omega
              · cases e
            · cases e
          · intro b g e
            split at e
            · split at e <;> cases e
            · cases e
          · intro k hk
            rw [add_block, add_off, Nat.add_assoc]
            refine hfz _ ?_
            have : (l + (h - l)) * s ≤ rows.length * s := Nat.mul_le_mul_right _ (by omega)
            rw [Nat.add_mul] at this
            omega
          · intro i j row x h1 h2
            rw [getElem?_sub] at h1
            split at h1
            · rw [add_add, ← Nat.add_assoc, ← Nat.add_mul]; exact hcell (l + i) j row x h1 h2
            · cases h1
          · intro i j row x h1 h2
            rw [getElem?_sub] at h1
            split at h1
            · exact hR (l + i) j row x h1 h2
            · cases h1
  · rename_i b g r n sz'
    have htt : ∃ e i, P.underlying t = some (.slice e) ∧ P.info? e = some i ∧ i.size = sz := by
      rcases ht with h | h
      · obtain ⟨s, hs⟩ := hstr.1 h; cases hs
      · exact h
    obtain ⟨e, i, hu, hi', hsz⟩ := htt
    split at hy
    case h_2 => cases hy
    rename_i l h el eh
    split at hy
    case isFalse => cases hy
    rename_i hlh
    obtain ⟨hlh1, hlh2, rfl⟩ := hlh
    obtain ⟨ad, c, rfl, hg, hc, hl⟩ := osl_inv hv
    have hrun : (Instr.sliceAt t (.slice (some ad) n c) lo hi none).run P w = .ok (.slice (if c = l then some ad else (some ad).map (·.add (l * sz'))) (h - l) (c - l)) w := by
      simp [Instr.sliceAt, run_underlying hu, Instr.slice, run_bounds true hlo hhi el eh hlh1 hlh2 hc, sizeOf, typeInfo, hi', hsz]
    refine ⟨_, hrun, ?_⟩
    split at hy
    · rename_i h0
      cases hy
      have hadd : (if c = l then some ad else (some ad).map (·.add (l * sz'))) = some (ad.add (l * sz')) := by
        split
        · have : l = 0 := by omega
          subst this; simp [add_zero]
        · rfl
      rw [hadd]
      refine .osl _ _ _ _ _ _ _ hg (by omega) fun l' hl' => ?_
      obtain ⟨h1, h2, h3⟩ := hl l' hl'
      refine ⟨by rw [h1, add_none, ← h2, Nat.add_mul, Nat.add_assoc], h2, ?_⟩
      rw [show r + l + (c - l) = r + c by omega]; exact h3
    · rename_i h0
      cases hy
      have h1 : h = l := by omega
      subst h1
      simp only [Nat.sub_self]
      have hgen : ∀ ad' : Addr, R G w (.slice (some ad') 0 (c - h)) (.sl .no []) := fun ad' =>
        .sl _ _ ad' 0 _ 0 (fun _ _ => undef) (by simp) (Nat.zero_le _) (fun e => by cases e) (fun _ _ e => by cases e) (by simp) (by simp) (fun k hk => by omega) (fun i j row x h => by simp at h) (fun i j row x h => by simp at h)
      split
      · exact hgen ad
      · exact hgen _
  · rename_i s
    have hu : P.underlying t = some .string := hstr.2 ⟨s, rfl⟩
    split at hy
    case h_2 => cases hy
    rename_i l h el eh
    split at hy
    case isFalse => cases hy
    rename_i hlh
    cases hy
    cases hv
    refine ⟨.string (s.extract l h), ?_, .str _⟩
    simp [Instr.sliceAt, run_underlying hu, Instr.slice, run_bounds false hlo hhi el eh hlh.1 hlh.2 (Nat.le_refl _)]
  · cases hy
end Go.Proofs.YtjgkfgocgknjjaaDoor.Abs
