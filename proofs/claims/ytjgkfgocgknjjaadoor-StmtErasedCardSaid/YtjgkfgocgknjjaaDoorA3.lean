/- The abstract machine, part 3: forgetting, freezing, loads. -/
import Derived.Test.YtjgkfgocgknjjaaDoorA2
set_option linter.unusedVariables false
set_option linter.unusedSimpArgs false
namespace Go.Proofs.YtjgkfgocgknjjaaDoor.Abs
open Go Go.RowKit

/-! Forgetting. -/
inductive BW : Blk → Blk → Prop
  | refl (b : Blk) : BW b b
  | rows (g : Nat) (rs rs' : List (List AV)) (hl : rs.length = rs'.length)
      (hr : ∀ (i : Nat) (row row' : List AV), rs[i]? = some row → rs'[i]? = some row' → row.length = row'.length)
      (h : ∀ (i j : Nat) (row row' : List AV) (x x' : AV), rs[i]? = some row → rs'[i]? = some row' → row[j]? = some x → row'[j]? = some x' → Wkn x x') :
      BW (.rows g rs) (.rows g rs')
theorem BW.g {x y : Blk} (h : BW x y) : y.g = x.g := by cases h <;> rfl
theorem BW.ok {G : Gh} {w : World} {l : Loc} {x y : Blk} (h : BW x y) (k : BlkOk G w l x) : BlkOk G w l y := by
  cases h with
  | refl => exact k
  | rows g rs rs' hl hr h =>
    obtain ⟨k1, k2, k3, k4⟩ := k
    refine ⟨?_, by rw [← hl]; exact k2, ?_, ?_⟩
    · intro row hrow
      obtain ⟨i, hi⟩ := mem_get hrow
      obtain ⟨r0, hr0⟩ := get_ex hl hi
      rw [← hr i _ _ hr0 hi]; exact k1 r0 (List.mem_of_getElem? hr0)
    · intro row hrow x hx
      obtain ⟨i, hi⟩ := mem_get hrow
      obtain ⟨j, hj⟩ := mem_get hx
      obtain ⟨r0, hr0⟩ := get_ex hl hi
      obtain ⟨x0, hx0⟩ := get_ex (hr i _ _ hr0 hi) hj
      rw [(h i j _ _ _ _ hr0 hi hx0 hj).single]
      exact k3 r0 (List.mem_of_getElem? hr0) x0 (List.mem_of_getElem? hx0)
    · intro i j row x hi hj
      obtain ⟨r0, hr0⟩ := get_ex hl hi
      obtain ⟨x0, hx0⟩ := get_ex (hr i _ _ hr0 hi) hj
      obtain ⟨v, hv, hR⟩ := k4 i j r0 x0 hr0 hx0
      exact ⟨v, hv, hR.wkn (h i j _ _ _ _ hr0 hi hx0 hj)⟩

def HWk (H H' : AHeap) : Prop := ∀ (b : Nat) (blk' : Blk), H'[b]? = some (some blk') → ∃ blk, H[b]? = some (some blk) ∧ BW blk blk'
theorem HWk.refl (H : AHeap) : HWk H H := fun b blk h => ⟨blk, h, .refl _⟩
theorem HWk.front (H J : AHeap) : HWk (H ++ J) H := fun b blk h => ⟨blk, by rw [List.getElem?_append_left (List.getElem?_eq_some_iff.1 h).1]; exact h, .refl _⟩
def Gh.drop (G : Gh) (H' : AHeap) : Gh := { G with at_ := fun b => match H'[b]? with | some (some _) => G.at_ b | _ => none }
theorem drop_at {G : Gh} {H' : AHeap} {b g : Nat} {l : Loc} (h : (G.drop H').at_ b = some (g, l)) : G.at_ b = some (g, l) ∧ ∃ blk, H'[b]? = some (some blk) := by
  simp only [Gh.drop] at h
  split at h
  · rename_i blk hb; exact ⟨h, blk, hb⟩
  · cases h
theorem ext_drop (G : Gh) (w : World) (H' : AHeap) : Ext G w (G.drop H') w :=
  ⟨rfl, Below.refl _ _, Nat.le_refl _, fun _ _ h => h, fun _ _ _ => rfl, fun b g l h _ => (drop_at h).1⟩
theorem Holds.same {G G' : Gh} {w : World} {l : Loc} (h : Holds G w l) (hB : G'.B = G.B) (hf : ∀ o, G'.fz l.blk o → G.fz l.blk o) : Holds G' w l :=
  ⟨hB ▸ h.B, h.heap, fun o a b c => h.free o a b (hf o c)⟩
theorem BlkOk.ext {G G' : Gh} {w : World} {l : Loc} {x : Blk} (he : Ext G w G' w) (h : BlkOk G w l x) : BlkOk G' w l x := by
  cases x with
  | tail => exact h
  | rows g rs => exact ⟨h.1, h.2.1, h.2.2.1, fun i j row x a b => let ⟨v, hv, hR⟩ := h.2.2.2 i j row x a b; ⟨v, hv, hR.ext he⟩⟩

theorem Inv.drop {G : Gh} {w : World} {H H' : AHeap} (hi : Inv G w H) (hw : HWk H H') : Inv (G.drop H') w H' := by
  refine ⟨hi.B, hi.fzlt, ?_, ?_, ?_, fun n c h => (hi.gl n c h).ext (ext_drop G w H')⟩
  · intro b g l h
    obtain ⟨h1, blk, hb⟩ := drop_at h
    obtain ⟨a1, a2, a3⟩ := hi.ok b g l h1
    exact ⟨a1, (List.getElem?_eq_some_iff.1 hb).1, a3.same rfl fun o h => h⟩
  · intro b blk' hb
    obtain ⟨blk, h1, h2⟩ := hw b blk' hb
    obtain ⟨l, hl, hok⟩ := hi.ent b blk h1
    refine ⟨l, by simp only [Gh.drop, hb]; rw [h2.g]; exact hl, (h2.ok hok).ext (ext_drop G w H')⟩
  · intro b b' g g' l l' hne h h'
    exact hi.dist b b' g g' l l' hne (drop_at h).1 (drop_at h').1

def EWk (E E' : Env) : Prop := ∀ (t : Nat) (x' : AV), E'.get t = some x' → ∃ x, E.get t = some x ∧ Wkn x x'
theorem EWk.nil (E : Env) : EWk E [] := fun t x h => by simp [Env.get] at h
theorem EWk.cons {E E' : Env} {t : Nat} {x x' : AV} (h : E.get t = some x) (hw : Wkn x x') (k : EWk E E') : EWk E ((t, x') :: E') := by
  intro u y hy
  simp only [Env.get] at hy
  split at hy
  · rename_i e; subst e; cases hy; exact ⟨x, h, hw⟩
  · exact k u y hy
theorem EWk.cons' {E E' : Env} {t : Nat} {x : AV} (h : E.get t = some x) (k : EWk E E') : EWk E ((t, x) :: E') := EWk.cons h (.refl _) k

theorem shift_wk {E E' : Env} {D : List ADef} {H H' : AHeap} (he : EWk E E') (hh : HWk H H') : Shift E D H E' D H' := by
  intro N G a w r
  refine ⟨G.drop H', ⟨r.inv.drop hh, r.size, r.defs.ext (ext_drop G w H'), ?_⟩, ext_drop G w H'⟩
  intro t x hx
  obtain ⟨x0, h0, hw⟩ := he t x hx
  exact ((r.env t x0 h0).wkn hw).ext (ext_drop G w H')
theorem vshift_wk {x x' : AV} {H H' : AHeap} (hx : Wkn x x') (hh : HWk H H') : VShift x H x' H' :=
  fun G w v hi hr => ⟨G.drop H', hi.drop hh, (hr.wkn hx).ext (ext_drop G w H'), ext_drop G w H'⟩

/-! Freezing: an owned slice becomes one that nobody writes to. -/
def Gh.freeze (G : Gh) (b : Nat) (l : Loc) : Gh :=
  { G with fz := fun k o => G.fz k o ∨ (k = l.blk ∧ l.base ≤ o ∧ o < l.csize), at_ := fun b' => if b' = b then none else G.at_ b' }
theorem freeze_at {G : Gh} {b b' g : Nat} {l l' : Loc} (h : (G.freeze b l).at_ b' = some (g, l')) : b' ≠ b ∧ G.at_ b' = some (g, l') := by
  simp only [Gh.freeze] at h
  split at h
  · cases h
  · exact ⟨by assumption, h⟩
theorem ext_freeze (G : Gh) (w : World) (b : Nat) (l : Loc) : Ext G w (G.freeze b l) w :=
  ⟨rfl, Below.refl _ _, Nat.le_refl _, fun _ _ h => .inl h, fun _ _ _ => rfl, fun b' g l' h _ => (freeze_at h).2⟩

theorem block_lt {w : World} {l : Loc} {G : Gh} (h : Holds G w l) : l.blk < w.heap.size := by
  obtain ⟨cs, e, h1, _⟩ := h.heap
  exact (Array.getElem?_eq_some_iff.1 h1).1

theorem Inv.freeze {G : Gh} {w : World} {H : AHeap} (hi : Inv G w H) {b g : Nat} {l : Loc} (hl : G.at_ b = some (g, l)) : Inv (G.freeze b l) w (H.set b none) := by
  have hh := hi.ok b g l hl
  refine ⟨hi.B, ?_, ?_, ?_, ?_, fun n c h => (hi.gl n c h).ext (ext_freeze G w b l)⟩
  · rintro k o (h | ⟨rfl, _, _⟩)
    · exact hi.fzlt k o h
    · exact block_lt hh.2.2
  · intro b' g' l' h
    obtain ⟨hne, h⟩ := freeze_at h
    obtain ⟨a1, a2, a3⟩ := hi.ok b' g' l' h
    refine ⟨a1, by simpa using a2, a3.same rfl ?_⟩
    rintro o (h1 | ⟨h1, _, _⟩)
    · exact h1
    · exact absurd h1 (hi.dist b' b g' g l' l hne h hl)
  · intro b' blk hb
    rw [List.getElem?_set] at hb
    split at hb
    · split at hb <;> cases hb
    · rename_i hne
      obtain ⟨l', hl', hok⟩ := hi.ent b' blk hb
      exact ⟨l', by simp only [Gh.freeze]; rw [if_neg (fun e => hne e.symm)]; exact hl', hok.ext (ext_freeze G w b l)⟩
  · intro b1 b2 g1 g2 l1 l2 hne h1 h2
    exact hi.dist b1 b2 g1 g2 l1 l2 hne (freeze_at h1).2 (freeze_at h2).2

theorem getElem?_sub {α : Type} (l : List α) (r n i : Nat) : ((l.drop r).take n)[i]? = if i < n then l[r + i]? else none := by
  rw [List.getElem?_take, List.getElem?_drop]

theorem R.frozen {G : Gh} {w : World} {H : AHeap} (hi : Inv G w H) {b g r n sz : Nat} {rs : List (List AV)} (hb : H[b]? = some (some (.rows g rs))) (hrn : r + n ≤ rs.length)
    {l : Loc} (hl : G.at_ b = some (g, l)) {v : Value} (hv : R G w v (.osl b g r n sz)) : R (G.freeze b l) w v (.sl .no ((rs.drop r).take n)) := by
  obtain ⟨l0, hl0, h1, h2, h3, h4⟩ := hi.ent b _ hb
  have e : l0 = l := by have := hl0.symm.trans hl; simp [Blk.g] at this; exact this
  subst e
  cases hv with
  | osl _ _ _ _ _ ad c hg hnc hl' =>
    obtain ⟨rfl, hsz, hroom⟩ := hl' _ hl
    have hlen : ((rs.drop r).take n).length = n := by rw [List.length_take, List.length_drop]; omega
    have hmem : ∀ row ∈ (rs.drop r).take n, row ∈ rs := fun row h => List.mem_of_mem_drop (List.mem_of_mem_take h)
    have hget : ∀ (i : Nat) (row : List AV), ((rs.drop r).take n)[i]? = some row → i < n ∧ rs[r + i]? = some row := by
      intro i row h
      rw [getElem?_sub] at h
      split at h
      · exact ⟨by assumption, h⟩
      · cases h
    have bound : (r + n) * l0.size ≤ rs.length * l0.size := Nat.mul_le_mul_right _ hrn
    refine .sl .no _ _ n c l0.size (fun i j => (w.cell? ⟨l0.blk, l0.base + ((r + i) * l0.size + j), none⟩).getD undef) hlen.symm hnc (fun e => by cases e) (fun _ _ e => by cases e)
      (fun row h => h1 row (hmem row h)) (fun row h => h3 row (hmem row h)) ?_ ?_ ?_
    · intro k hk
      refine .inr ⟨rfl, ?_, ?_⟩
      · show l0.base ≤ l0.base + r * l0.size + k; omega
      · show l0.base + r * l0.size + k < l0.csize
        rw [Nat.add_mul] at bound
        omega
    · intro i j row x hri hj
      obtain ⟨hin, hri⟩ := hget i row hri
      obtain ⟨u, hu, _⟩ := h4 (r + i) j row x hri hj
      rw [add_none]
      have : l0.base + r * l0.size + (i * l0.size + j) = l0.base + ((r + i) * l0.size + j) := by rw [Nat.add_mul]; omega
      rw [this, hu]; rfl
    · intro i j row x hri hj
      obtain ⟨hin, hri⟩ := hget i row hri
      obtain ⟨u, hu, hR⟩ := h4 (r + i) j row x hri hj
      rw [hu]
      exact hR.ext (ext_freeze G w b l0)

theorem vshift_freeze {H : AHeap} {b g r n sz : Nat} {rs : List (List AV)} (hb : H[b]? = some (some (.rows g rs))) (hrn : r + n ≤ rs.length) :
    VShift (.osl b g r n sz) H (.sl .no ((rs.drop r).take n)) (H.set b none) := by
  intro G w v hi hv
  obtain ⟨l, hl, _⟩ := hi.ent b _ hb
  exact ⟨G.freeze b l, hi.freeze hl, hv.frozen hi hb hrn hl, ext_freeze G w b l⟩
theorem vshift_freeze_all {H : AHeap} {b g n sz : Nat} {rs : List (List AV)} (hb : H[b]? = some (some (.rows g rs))) (hn : n = rs.length) :
    VShift (.osl b g 0 n sz) H (.sl .no rs) (H.set b none) := by
  have := vshift_freeze (sz := sz) hb (r := 0) (n := n) (by omega)
  rwa [List.drop_zero, hn, List.take_length, ← hn] at this
theorem vshift_tup {xs : List AV} {x x' : AV} {i : Nat} {H H' : AHeap} (hi : xs[i]? = some x) (h : VShift x H x' H') : VShift (.tup xs) H (.tup (xs.set i x')) H' := by
  intro G w v hinv hr
  cases hr with
  | tup cs _ hs hR =>
    obtain ⟨v0, hv0⟩ := get_ex (l := cs.toList) (by simpa using hs) hi
    obtain ⟨G', i', r', e'⟩ := h G w v0 hinv (hR i v0 x (by simpa using hv0) hi)
    refine ⟨G', i', .tup cs _ (by simpa using hs) ?_, e'⟩
    intro j u y hu hy
    rw [List.getElem?_set] at hy
    split at hy
    · rename_i e; subst e
      split at hy
      · cases hy
        have : u = v0 := by simp at hv0; rw [hu] at hv0; exact Option.some.inj hv0
        subst this; exact r'
      · cases hy
    · exact (hR j u y hu hy).ext e'

/-! Loads. -/
def ldRow (agg : Bool) (n : Nat) (row : List AV) (o : Nat) : Option AV :=
  if agg then
    if o = 0 ∧ n = row.length then some (.agg row)
    else if o + n ≤ row.length then some (.agg ((row.drop o).take n)) else none
  else row[o]?
def ldA (agg : Bool) (n : Nat) (x : AV) (H : AHeap) : Option AV :=
  match x with
  | .rptr cells o => ldRow agg n cells o
  | .ptr b g r o =>
    match H[b]? with
    | some (some (.rows g' rs)) => if g' = g then (match rs[r]? with | some row => ldRow agg n row o | none => none) else none
    | _ => none
  | _ => none

/-- What is known of a type: is it a struct or an array, and how many cells has it? -/
def tyOk (P : Program) (t : TypeId) (agg : Bool) (n : Nat) : Bool :=
  (match P.info? t with | some i => i.size == n | none => false) &&
  (match P.underlying t with | some (.struct _) => agg | some (.array _ _) => agg | some _ => !agg | none => false)
theorem tyOk_size {P : Program} {t : TypeId} {agg : Bool} {n : Nat} (h : tyOk P t agg n = true) (w : World) : (sizeOf t).run P w = .ok n w := by
  simp only [tyOk, Bool.and_eq_true] at h
  cases hi : P.info? t with
  | none => simp [hi] at h
  | some i => simp [hi] at h; simp [sizeOf, typeInfo, hi, h.1]
theorem tyOk_agg {P : Program} {t : TypeId} {agg : Bool} {n : Nat} (h : tyOk P t agg n = true) (w : World) : (isAgg t).run P w = .ok agg w := by
  simp only [tyOk, Bool.and_eq_true] at h
  have h2 := h.2
  cases hu : P.underlying t with
  | none => simp [hu] at h2
  | some d => cases d <;> simp [hu] at h2 <;> simp [isAgg, underlying, hu, h2]

theorem run_loadVar' {P : Program} {w : World} {t : TypeId} {agg : Bool} {n : Nat} (ht : tyOk P t agg n = true) {G : Gh} (ad : Addr) (row : List AV) (o : Nat) {x : AV}
    (hsing : ∀ y ∈ row, y.single = true)
    (hc : ∀ (j : Nat) (y : AV), row[j]? = some y → ∃ v, w.cell? (ad.add j) = some v ∧ R G w v y) (hx : ldRow agg n row o = some x) :
    ∃ v, (loadVar t (ad.add o)).run P w = .ok v w ∧ R G w v x := by
  have aggcase : ∀ (part : List AV), part.length = n → (∀ y ∈ part, y.single = true) → (∀ j y, part[j]? = some y → row[o + j]? = some y) → ∃ cs : Array Value, (loadCells (ad.add o) n).run P w = .ok cs w ∧ R G w (.agg cs) (.agg part) := by
    intro part hp hps hpj
    have hex : ∀ j, ∃ v, ∀ y, part[j]? = some y → w.cell? ((ad.add o).add j) = some v ∧ R G w v y := by
      intro j
      cases hj : part[j]? with
      | none => exact ⟨undef, fun y h => by cases h⟩
      | some y =>
        obtain ⟨v, hv, hR⟩ := hc (o + j) y (hpj j y hj)
        exact ⟨v, fun y' h => by cases h; rw [add_add]; exact ⟨hv, hR⟩⟩
    let f : Nat → Value := fun j => Classical.choose (hex j)
    have hf : ∀ j y, part[j]? = some y → w.cell? ((ad.add o).add j) = some (f j) ∧ R G w (f j) y := fun j => Classical.choose_spec (hex j)
    refine ⟨_, run_loadCells w (ad.add o) n f fun j hj => ?_, ?_⟩
    · have : part[j]? = some (part[j]'(by omega)) := List.getElem?_eq_getElem _
      exact (hf j _ this).1
    · refine .agg _ _ (by simp [hp]) hps fun j v y hv hy => ?_
      have hj : j < n := by rw [← hp]; exact (List.getElem?_eq_some_iff.1 hy).1
      simp [hj] at hv
      subst hv
      exact (hf j y hy).2
  cases agg with
  | false =>
    simp only [ldRow, if_false, Bool.false_eq_true] at hx
    obtain ⟨v, hv, hR⟩ := hc o x hx
    exact ⟨v, by simp [loadVar, tyOk_agg ht, hv], hR⟩
  | true =>
    simp only [ldRow, if_true] at hx
    split at hx
    · rename_i h0
      obtain ⟨rfl, rfl⟩ := h0
      cases hx
      obtain ⟨cs, h1, h2⟩ := aggcase row rfl hsing (fun j y h => by simpa using h)
      exact ⟨.agg cs, by simp [loadVar, tyOk_agg ht, tyOk_size ht, h1], h2⟩
    · split at hx
      · rename_i hle
        cases hx
        obtain ⟨cs, h1, h2⟩ := aggcase ((row.drop o).take n) (by rw [List.length_take, List.length_drop]; omega)
          (fun y h => hsing y (List.mem_of_mem_drop (List.mem_of_mem_take h)))
          (fun j y h => by rw [getElem?_sub] at h; split at h; exact h; cases h)
        exact ⟨.agg cs, by simp [loadVar, tyOk_agg ht, tyOk_size ht, h1], h2⟩
      · cases hx

/-- A load. -/
theorem run_load {P : Program} {w : World} {t : TypeId} {agg : Bool} {n : Nat} (ht : tyOk P t agg n = true) {G : Gh} {H : AHeap} (hi : Inv G w H) {u : Value} {p x : AV} (hu : R G w u p) (hx : ldA agg n p H = some x) :
    ∃ ad v, u = .pointer (some ad) ∧ (loadVar t ad).run P w = .ok v w ∧ R G w v x := by
  cases hu with
  | rptr cells o ad vs hsing hfz hcell hR =>
    obtain ⟨v, h1, h2⟩ := run_loadVar' ht ad cells o hsing (fun j y h => ⟨vs j, hcell j y h, hR j y h⟩) hx
    exact ⟨_, v, rfl, h1, h2⟩
  | ptr b g r o ad hg hl =>
    simp only [ldA] at hx
    split at hx
    · rename_i g' rs hb
      split at hx
      · rename_i e
        subst e
        split at hx
        · rename_i row hr
          obtain ⟨l, hl0, h1, h2, h3, h4⟩ := hi.ent b _ hb
          obtain rfl := hl l hl0
          have e : (⟨l.blk, l.base + r * l.size + o, none⟩ : Addr) = (⟨l.blk, l.base + r * l.size, none⟩ : Addr).add o := by rw [add_none]
          rw [e]
          obtain ⟨v, k1, k2⟩ := run_loadVar' (G := G) ht (⟨l.blk, l.base + r * l.size, none⟩ : Addr) row o (h3 row (List.mem_of_getElem? hr))
            (fun j y h => by
              obtain ⟨v, hv, hR⟩ := h4 r j row y hr h
              exact ⟨v, by rw [add_none]; rw [show l.base + r * l.size + j = l.base + (r * l.size + j) by omega]; exact hv, hR⟩) hx
          exact ⟨_, v, rfl, k1, k2⟩
        · cases hx
      · cases hx
    · cases hx
  | _ => simp [ldA] at hx
end Go.Proofs.YtjgkfgocgknjjaaDoor.Abs
