/- The abstract machine, part 6: append, make, literals of slices. -/
import Derived.Test.YtjgkfgocgknjjaaDoorA5
set_option linter.unusedVariables false
set_option linter.unusedSimpArgs false
namespace Go.Proofs.YtjgkfgocgknjjaaDoor.Abs
open Go Go.RowKit

def subRows (rs : List (List AV)) (r n : Nat) : List (List AV) := if r = 0 ∧ n = rs.length then rs else (rs.drop r).take n
theorem subRows_eq (rs : List (List AV)) (r n : Nat) : subRows rs r n = (rs.drop r).take n := by
  unfold subRows
  split
  · rename_i h; simp [h.1, h.2]
  · rfl
def contA (x : AV) (sz : Nat) (H : AHeap) : Option (List (List AV)) :=
  match x with
  | .sl _ rows => if rows.all (fun row => row.length == sz) = true then some rows else none
  | .osl b g r n sz' =>
    match H[b]? with
    | some (some (.rows g' rs)) => if g' = g ∧ sz' = sz ∧ r + n ≤ rs.length then some (subRows rs r n) else none
    | _ => none
  | _ => none

def SrcOk (G : Gh) (w : World) (ad : Addr) (sz : Nat) (ys : List (List AV)) : Prop :=
  ∀ (i j : Nat) (row : List AV) (x : AV), ys[i]? = some row → row[j]? = some x → ∃ v, w.cell? (ad.add (i * sz + j)) = some v ∧ R G w v x

theorem cont_ok {G : Gh} {w : World} {H : AHeap} (hi : Inv G w H) {v : Value} {x : AV} {sz : Nat} {ys : List (List AV)} (hv : R G w v x) (h : contA x sz H = some ys) :
    ∃ ad c, v = .slice ad ys.length c ∧ ys.length ≤ c ∧ (∀ row ∈ ys, row.length = sz) ∧ (∀ row ∈ ys, ∀ x ∈ row, x.single = true) ∧ (ad = none → ys.length = 0 ∧ c = 0) ∧ ∀ a, ad = some a → SrcOk G w a sz ys := by
  cases hv with
  | nilsl own ho =>
    simp only [contA, List.all_nil, if_true] at h
    cases h
    exact ⟨none, 0, rfl, by simp, by simp, by simp, by simp, fun a e => (by cases e)⟩
  | sl own rows ad n c s vs hn hc hfull htk hlen hsing hfz hcell hR =>
    simp only [contA] at h
    split at h
    case isFalse => cases h
    rename_i hall
    have hry : rows = ys := by simpa using h
    subst hry
    have hl : ∀ row ∈ rows, row.length = sz := by simpa [List.all_eq_true] using hall
    refine ⟨some ad, c, by rw [hn], by omega, hl, hsing, fun e => (by cases e), fun a e i j row x h1 h2 => ?_⟩
    cases e
    have e1 : s = sz := by rw [← hl row (List.mem_of_getElem? h1), hlen row (List.mem_of_getElem? h1)]
    subst e1
    exact ⟨_, hcell i j row x h1 h2, hR i j row x h1 h2⟩
  | osl b g r n sz' ad c hg hc hl =>
    simp only [contA] at h
    split at h
    case h_2 => cases h
    rename_i g' rs hb
    split at h
    case isFalse => cases h
    rename_i hh
    obtain ⟨rfl, rfl, hrn⟩ := hh
    cases h
    obtain ⟨l, hl0, h1, h2, h3, h4⟩ := hi.ent b _ hb
    simp only [Blk.g] at hl0
    obtain ⟨rfl, hsz, hroom⟩ := hl l hl0
    rw [subRows_eq]
    have hlen : ((rs.drop r).take n).length = n := by rw [List.length_take, List.length_drop]; omega
    have hmem : ∀ row ∈ (rs.drop r).take n, row ∈ rs := fun row h => List.mem_of_mem_drop (List.mem_of_mem_take h)
    refine ⟨some ⟨l.blk, l.base + r * l.size, none⟩, c, by rw [hlen], by omega, ?_, ?_, ?_, ?_⟩
    · intro row h; rw [← hsz]; exact h1 row (hmem row h)
    · intro row h; exact h3 row (hmem row h)
    · intro e; cases e
    intro a e i j row x hr hx
    cases e
    rw [getElem?_sub] at hr
    split at hr
    case isFalse => cases hr
    obtain ⟨u, hu, hR⟩ := h4 (r + i) j row x hr hx
    refine ⟨u, ?_, hR⟩
    rw [add_none, ← hsz, show l.base + r * l.size + (i * l.size + j) = l.base + ((r + i) * l.size + j) by rw [Nat.add_mul]; omega]
    exact hu
  | _ => simp [contA] at h

theorem cells_list {G : Gh} {w : World} {ad : Addr} {sz : Nat} (h0 : 0 < sz) {ys : List (List AV)} (hl : ∀ row ∈ ys, row.length = sz) (hsing : ∀ row ∈ ys, ∀ x ∈ row, x.single = true) (h : SrcOk G w ad sz ys) :
    ∃ news : List Value, news.length = ys.length * sz ∧ (∀ k v, news[k]? = some v → w.cell? (ad.add k) = some v) ∧
      (∀ (i j : Nat) (row : List AV) (x : AV), ys[i]? = some row → row[j]? = some x → ∃ v, news[i * sz + j]? = some v ∧ R G w v x) ∧ ∀ u ∈ news, u.oneCell' = true := by
  have look : ∀ k, k < ys.length * sz → ∃ v x, w.cell? (ad.add k) = some v ∧ R G w v x ∧ x.single = true := by
    intro k hk
    have h1 : k / sz < ys.length := Nat.div_lt_of_lt_mul (by rw [Nat.mul_comm]; exact hk)
    have hr : ys[k / sz]? = some (ys[k / sz]'h1) := List.getElem?_eq_getElem _
    have h2 : k % sz < (ys[k / sz]'h1).length := by rw [hl _ (List.getElem_mem _)]; exact Nat.mod_lt _ h0
    have hx : (ys[k / sz]'h1)[k % sz]? = some ((ys[k / sz]'h1)[k % sz]'h2) := List.getElem?_eq_getElem _
    obtain ⟨v, hv, hR⟩ := h _ _ _ _ hr hx
    rw [Nat.mul_comm, Nat.div_add_mod] at hv
    exact ⟨v, _, hv, hR, hsing _ (List.getElem_mem _) _ (List.getElem_mem _)⟩
  refine ⟨(List.range (ys.length * sz)).map fun k => (w.cell? (ad.add k)).getD undef, by simp, ?_, ?_, ?_⟩
  · intro k v hk
    rw [List.getElem?_map] at hk
    have hlt : k < ys.length * sz := by
      by_cases c : k < ys.length * sz
      · exact c
      · rw [List.getElem?_eq_none (by simpa using c)] at hk; cases hk
    rw [List.getElem?_range hlt] at hk
    obtain ⟨u, _, hu, _⟩ := look k hlt
    simp [hu] at hk
    rw [hu, hk]
  · intro i j row x hr hx
    obtain ⟨v, hv, hR⟩ := h i j row x hr hx
    have h1 : i < ys.length := (List.getElem?_eq_some_iff.1 hr).1
    have h2 : j < sz := by rw [← hl row (List.mem_of_getElem? hr)]; exact (List.getElem?_eq_some_iff.1 hx).1
    have h3 : (i + 1) * sz ≤ ys.length * sz := Nat.mul_le_mul_right _ h1
    rw [Nat.add_mul] at h3
    refine ⟨v, ?_, hR⟩
    rw [List.getElem?_map, List.getElem?_range (by omega)]
    simp [hv]
  · intro u hu
    rw [List.mem_map] at hu
    obtain ⟨k, hk, rfl⟩ := hu
    obtain ⟨v, x, hv, hR, hs⟩ := look k (List.mem_range.1 hk)
    rw [hv]
    exact hR.oneCell hs

def apA (g : Nat) (mu : Bool) (sz bytes : Nat) (s x : AV) (H : AHeap) : Option (AV × AHeap) :=
  match contA s sz H, contA x sz H with
  | some xs, some ys =>
    match ys with
    | [] => some (s, H)
    | y :: ys' =>
      if (xs.length + (y :: ys').length) * bytes ≤ 140737488355328 then
        match s with
        | .sl .full _ =>
          if mu then some (.osl H.length g 0 (xs.length + (y :: ys').length) sz, H ++ [some (.rows g (xs ++ y :: ys'))])
          else some (.sl (.tk H.length g) (xs ++ y :: ys'), H ++ [some (.tail g sz)])
        | .sl (.tk b g0) _ =>
          match H[b]? with
          | some (some (.tail g1 sz1)) => if g1 = g0 ∧ sz1 = sz then some (.sl (.tk b g) (xs ++ y :: ys'), H.set b (some (.tail g sz))) else none
          | _ => none
        | .osl b _ _ _ _ => some (.osl b g 0 (xs.length + (y :: ys').length) sz, H.set b (some (.rows g (xs ++ y :: ys'))))
        | _ => none
      else none
  | _, _ => none

section
variable {P : Program} {w : World}

theorem run_append_zero (t ty e : TypeId) (i : TypeInfo) (ht : P.underlying t = some (.slice e)) (hi : P.info? e = some i) (base : Option Addr) (sLen sCap : Nat) (hle : sLen ≤ sCap) (src : Option Addr) (c : Nat) :
    (Builtin.append_ #[t, t] ty #[.slice base sLen sCap, .slice src 0 c]).run P w = .ok (.slice base sLen sCap) w := by
  cases base <;> cases src <;> simp [Builtin.append_, run_underlying ht, sizeOf, typeInfo, hi, Builtin.lenOf, hle, Builtin.firstCells, loadCells, loadCellsFrom, storeCells]

theorem run_append_inplace (t ty e : TypeId) (i : TypeInfo) (ht : P.underlying t = some (.slice e)) (hi : P.info? e = some i)
    (g o sLen sCap : Nat) (cur : Array Value) (e' : TypeId) (hg : w.heap[g]? = some (.cells cur e' (0, 0)))
    (a : Addr) (m c : Nat) (news : List Value) (hl : news.length = m * i.size) (hnews : ∀ j u, news[j]? = some u → w.cell? (a.add j) = some u) (h1 : ∀ u ∈ news, u.oneCell' = true)
    (hroom : sLen + m ≤ sCap) (hfit : o + sLen * i.size + news.length ≤ cur.size) :
    (Builtin.append_ #[t, t] ty #[.slice (some ⟨g, o, none⟩) sLen sCap, .slice (some a) m c]).run P w =
      .ok (.slice (some ⟨g, o, none⟩) (sLen + m) sCap) (w.setRow g (cur.toList.take (o + sLen * i.size) ++ news ++ cur.toList.drop (o + sLen * i.size + news.length)).toArray) := by
  have hf := run_firstCells_some (P := P) w i.size m a m c news hl hnews
  have hst := run_storeCells_at P g (o + sLen * i.size) e' news 0 cur w hg (by simpa using hfit) h1
  simp only [Nat.add_zero] at hst
  simp [Builtin.append_, run_underlying ht, sizeOf, typeInfo, hi, Builtin.lenOf, hroom, hf, add_none, hst]
end

/-- What lies in a list of cells, row by row. -/
def InCells (G : Gh) (w : World) (cs : List Value) (sz : Nat) (rows : List (List AV)) : Prop :=
  ∀ (i j : Nat) (row : List AV) (x : AV), rows[i]? = some row → row[j]? = some x → ∃ v, cs[i * sz + j]? = some v ∧ R G w v x
theorem InCells.append {G : Gh} {w : World} {cs ds : List Value} {sz : Nat} {xs ys : List (List AV)} (hx : InCells G w cs sz xs) (hy : InCells G w ds sz ys) (hl : cs.length = xs.length * sz) (hlx : ∀ row ∈ xs, row.length = sz) :
    InCells G w (cs ++ ds) sz (xs ++ ys) := by
  intro i j row x hr hj
  by_cases c : i < xs.length
  · rw [List.getElem?_append_left c] at hr
    obtain ⟨v, hv, hR⟩ := hx i j row x hr hj
    exact ⟨v, by rw [List.getElem?_append_left (List.getElem?_eq_some_iff.1 hv).1]; exact hv, hR⟩
  · rw [List.getElem?_append_right (by omega)] at hr
    obtain ⟨v, hv, hR⟩ := hy _ j row x hr hj
    have h2 : xs.length * sz + (i - xs.length) * sz = i * sz := by rw [← Nat.add_mul]; congr 1; omega
    refine ⟨v, ?_, hR⟩
    rw [List.getElem?_append_right (by rw [hl]; omega), hl, show i * sz + j - xs.length * sz = (i - xs.length) * sz + j by omega]
    exact hv
theorem InCells.more {G : Gh} {w : World} {cs ds : List Value} {sz : Nat} {xs : List (List AV)} (hx : InCells G w cs sz xs) : InCells G w (cs ++ ds) sz xs := by
  intro i j row x hr hj
  obtain ⟨v, hv, hR⟩ := hx i j row x hr hj
  exact ⟨v, by rw [List.getElem?_append_left (List.getElem?_eq_some_iff.1 hv).1]; exact hv, hR⟩

/-- A new array: as an owned row. -/
theorem ok_newMut {G : Gh} {w : World} {H : AHeap} (hi : Inv G w H) (cs : Array Value) (elem : TypeId) (sz : Nat) (rows : List (List AV)) (hlen : ∀ row ∈ rows, row.length = sz) (hsing : ∀ row ∈ rows, ∀ x ∈ row, x.single = true)
    (hc : InCells G w cs.toList sz rows) (c : Nat) (hle : rows.length ≤ c) (hcap : c * sz ≤ cs.size) {b : Nat} (hb : b ≤ H.length) :
    OkV G w (.ok (.slice (some ⟨w.heap.size, 0, none⟩) rows.length c) (w.alloc (.cells cs elem))) (.osl b G.clock 0 rows.length sz) (Hput H b (.rows G.clock rows)) := by
  obtain ⟨i1, e1⟩ := inv_newRows hi cs elem sz rows hlen hsing (Nat.le_trans (Nat.mul_le_mul_right _ hle) hcap) (fun i j row x h1 h2 => by simpa using hc i j row x h1 h2) hb
  refine ⟨_, _, _, rfl, i1, e1, .osl _ _ _ _ _ _ _ (Nat.lt_succ_self _) hle fun l hl => ?_⟩
  simp [Gh.own] at hl
  subst hl
  simpa using hcap

/-- A new array: frozen, but for its tail. -/
theorem ok_newTail {G : Gh} {w : World} {H : AHeap} (hi : Inv G w H) (cs : Array Value) (elem : TypeId) (sz : Nat) (rows : List (List AV)) (hlen : ∀ row ∈ rows, row.length = sz) (hsing : ∀ row ∈ rows, ∀ x ∈ row, x.single = true)
    (hc : InCells G w cs.toList sz rows) (c : Nat) (hle : rows.length ≤ c) (hcap : c * sz ≤ cs.size) {b : Nat} (hb : b ≤ H.length) :
    OkV G w (.ok (.slice (some ⟨w.heap.size, 0, none⟩) rows.length c) (w.alloc (.cells cs elem))) (.sl (.tk b G.clock) rows) (Hput H b (.tail G.clock sz)) := by
  obtain ⟨i1, e1, f1, hnew⟩ := inv_alloc hi cs elem sz
  have hfit : rows.length * sz ≤ cs.size := Nat.le_trans (Nat.mul_le_mul_right _ hle) hcap
  obtain ⟨i2, e2, f2⟩ := inv_more i1 f1 (k := rows.length * sz) (Nat.zero_le _)
  have i3 := inv_own i2 f2 hb (x := .tail G.clock sz) rfl rfl
  have e3 := (e1.trans e2).trans (ext_own (b := b) (l := ⟨w.heap.size, rows.length * sz, sz, cs.size⟩))
  refine ⟨_, _, _, rfl, i3, e3, ?_⟩
  refine .sl _ _ _ _ c sz (fun i j => (cs[i * sz + j]?).getD undef) rfl hle (fun e => by cases e) ?_ hlen hsing ?_ ?_ ?_
  · intro b' g' e
    cases e
    refine ⟨Nat.lt_succ_self _, fun l hl => ?_⟩
    simp [Gh.own, Gh.more] at hl
    subst hl
    exact ⟨rfl, rfl, rfl, by simp, by simpa using hcap⟩
  · intro k hk
    exact .inr ⟨rfl, Nat.zero_le _, by simpa using hk⟩
  · intro i j row x h1 h2
    obtain ⟨v, hv, hR⟩ := hc i j row x h1 h2
    rw [add_none, cell_row hnew]
    have : cs[i * sz + j]? = some v := by simpa using hv
    simp [this]
  · intro i j row x h1 h2
    obtain ⟨v, hv, hR⟩ := hc i j row x h1 h2
    have : cs[i * sz + j]? = some v := by simpa using hv
    rw [this]
    exact hR.ext e3

/-- A new array: frozen. -/
theorem ok_newFz {G : Gh} {w : World} {H : AHeap} (hi : Inv G w H) (cs : Array Value) (elem : TypeId) (sz : Nat) (rows : List (List AV)) (hlen : ∀ row ∈ rows, row.length = sz) (hsing : ∀ row ∈ rows, ∀ x ∈ row, x.single = true)
    (hc : InCells G w cs.toList sz rows) (hcap : rows.length * sz ≤ cs.size) :
    OkV G w (.ok (.slice (some ⟨w.heap.size, 0, none⟩) rows.length rows.length) (w.alloc (.cells cs elem))) (.sl .full rows) H := by
  obtain ⟨i1, e1, f1, hnew⟩ := inv_alloc hi cs elem sz
  obtain ⟨i2, e2, f2⟩ := inv_more i1 f1 (k := rows.length * sz) (Nat.zero_le _)
  have e3 := e1.trans e2
  refine ⟨_, _, _, rfl, i2, e3, ?_⟩
  refine .sl _ _ _ _ _ sz (fun i j => (cs[i * sz + j]?).getD undef) rfl (Nat.le_refl _) (fun _ => rfl) (fun _ _ e => by cases e) hlen hsing ?_ ?_ ?_
  · intro k hk
    exact .inr ⟨rfl, Nat.zero_le _, by simpa using hk⟩
  · intro i j row x h1 h2
    obtain ⟨v, hv, hR⟩ := hc i j row x h1 h2
    rw [add_none, cell_row hnew]
    have : cs[i * sz + j]? = some v := by simpa using hv
    simp [this]
  · intro i j row x h1 h2
    obtain ⟨v, hv, hR⟩ := hc i j row x h1 h2
    have : cs[i * sz + j]? = some v := by simpa using hv
    rw [this]
    exact hR.ext e3

theorem InCells.ext {G G' : Gh} {w w' : World} (he : Ext G w G' w') {cs : List Value} {sz : Nat} {xs : List (List AV)} (h : InCells G w cs sz xs) : InCells G' w' cs sz xs :=
  fun i j row x a b => let ⟨v, hv, hR⟩ := h i j row x a b; ⟨v, hv, hR.ext he⟩
theorem OkV.after {G G1 : Gh} {w w1 : World} (he : Ext G w G1 w1) {r : Result Value} {x : AV} {H : AHeap} (h : OkV G1 w1 r x H) : OkV G w r x H :=
  let ⟨v, w', G', a, b, c, d⟩ := h; ⟨v, w', G', a, b, he.trans c, d⟩

theorem free_from {G : Gh} {w : World} {l : Loc} (h : Free G w l) {k : Nat} (hk : l.base ≤ k) : Free G w { l with base := k } :=
  ⟨⟨h.holds.B, h.holds.heap, fun o a b => h.holds.free o (Nat.le_trans hk a) b⟩, h.lone⟩

theorem grown_lt (w : World) (need old : Nat) (e : TypeId) : need ≤ grownCap w need old e := grownCap_ge w need old e

theorem sl_inv {G : Gh} {w : World} {v : Value} {own : Own} {rows : List (List AV)} (h : R G w v (.sl own rows)) :
    (v = .slice none 0 0 ∧ rows = [] ∧ (own = .no ∨ own = .full)) ∨
    ∃ (ad : Addr) (c s : Nat) (vs : Nat → Nat → Value), v = .slice (some ad) rows.length c ∧ rows.length ≤ c ∧ (own = .full → c = rows.length) ∧
      (∀ b g, own = .tk b g → g < G.clock ∧ ∀ l, G.at_ b = some (g, l) → ad.spot = none ∧ l.blk = ad.block ∧ l.size = s ∧ l.base = ad.off + rows.length * s ∧ ad.off + c * s ≤ l.csize) ∧
      (∀ row ∈ rows, row.length = s) ∧ (∀ row ∈ rows, ∀ x ∈ row, x.single = true) ∧ (∀ k, k < rows.length * s → G.fz ad.block (ad.off + k)) ∧
      (∀ (i j : Nat) (row : List AV) (x : AV), rows[i]? = some row → row[j]? = some x → w.cell? (ad.add (i * s + j)) = some (vs i j)) ∧
      (∀ (i j : Nat) (row : List AV) (x : AV), rows[i]? = some row → row[j]? = some x → R G w (vs i j) x) := by
  cases h with
  | nilsl _ ho => exact .inl ⟨rfl, rfl, ho⟩
  | sl _ _ ad n c s vs hn hc hfull htk hlen hsing hfz hcell hR =>
    subst hn
    exact .inr ⟨ad, c, s, vs, rfl, hc, hfull, htk, hlen, hsing, hfz, hcell, hR⟩
theorem osl_inv {G : Gh} {w : World} {v : Value} {b g r n sz : Nat} (h : R G w v (.osl b g r n sz)) :
    ∃ (ad : Addr) (c : Nat), v = .slice (some ad) n c ∧ g < G.clock ∧ n ≤ c ∧ ∀ l, G.at_ b = some (g, l) → ad = ⟨l.blk, l.base + r * l.size, none⟩ ∧ l.size = sz ∧ l.base + (r + c) * l.size ≤ l.csize := by
  cases h with
  | osl _ _ _ _ _ ad c hg hc hl => exact ⟨ad, c, rfl, hg, hc, hl⟩

/-- An append to a literal, told by its result alone. -/
def azA (sz bytes : Nat) (s x : AV) : Option AV :=
  match s, x with
  | .sl .full xs, .sl _ ys => if (xs.all (fun row => row.length == sz) && ys.all (fun row => row.length == sz) && decide ((xs.length + ys.length) * bytes ≤ 140737488355328)) = true then some (.sl .no (xs ++ ys)) else none
  | _, _ => none

theorem ok_newNo {G : Gh} {w : World} {H : AHeap} (hi : Inv G w H) (cs : Array Value) (elem : TypeId) (sz : Nat) (rows : List (List AV)) (hlen : ∀ row ∈ rows, row.length = sz) (hsing : ∀ row ∈ rows, ∀ x ∈ row, x.single = true)
    (hc : InCells G w cs.toList sz rows) (c : Nat) (hle : rows.length ≤ c) (hcap : c * sz ≤ cs.size) :
    OkV G w (.ok (.slice (some ⟨w.heap.size, 0, none⟩) rows.length c) (w.alloc (.cells cs elem))) (.sl .no rows) H := by
  obtain ⟨i1, e1, f1, hnew⟩ := inv_alloc hi cs elem sz
  obtain ⟨i2, e2, f2⟩ := inv_more i1 f1 (k := rows.length * sz) (Nat.zero_le _)
  have e3 := e1.trans e2
  refine ⟨_, _, _, rfl, i2, e3, ?_⟩
  refine .sl _ _ _ _ _ sz (fun i j => (cs[i * sz + j]?).getD undef) rfl hle (fun e => by cases e) (fun _ _ e => by cases e) hlen hsing ?_ ?_ ?_
  · intro k hk
    exact .inr ⟨rfl, Nat.zero_le _, by simpa using hk⟩
  · intro i j row x h1 h2
    obtain ⟨v, hv, hR⟩ := hc i j row x h1 h2
    rw [add_none, cell_row hnew]
    have : cs[i * sz + j]? = some v := by simpa using hv
    simp [this]
  · intro i j row x h1 h2
    obtain ⟨v, hv, hR⟩ := hc i j row x h1 h2
    have : cs[i * sz + j]? = some v := by simpa using hv
    rw [this]
    exact hR.ext e3

theorem run_az {P : Program} {w : World} {G : Gh} {H : AHeap} (hi : Inv G w H) (t ty e : TypeId) (i : TypeInfo) (z : Value) (sz bytes : Nat) (ht : P.underlying t = some (.slice e)) (hinfo : P.info? e = some i) (hz : i.zero = some z)
    (hsize : i.size = sz) (hby : i.bytes = bytes) (hzs : z.cells.size = sz) (h0 : 0 < sz) (hb0 : 0 < bytes) {vs vx : Value} {s x r : AV} (hs : R G w vs s) (hx : R G w vx x) (h : azA sz bytes s x = some r) :
    OkV G w ((Builtin.append_ #[t, t] ty #[vs, vx]).run P w) r H := by
  unfold azA at h
  split at h
  case h_2 => cases h
  rename_i xs ox zs
  split at h
  case isFalse => cases h
  rename_i hall
  simp only [Bool.and_eq_true, decide_eq_true_eq] at hall
  obtain ⟨⟨ha, hb⟩, hbound⟩ := hall
  cases h
  have hxs : contA (.sl .full xs) sz H = some xs := by simp only [contA]; rw [if_pos ha]
  have hys : contA (.sl ox zs) sz H = some zs := by simp only [contA]; rw [if_pos hb]
  have hinv := sl_inv hs
  obtain ⟨ads, cS, rfl, hleS, hlS, hsS, hnilS, hsrcS⟩ := cont_ok hi hs hxs
  obtain ⟨adx, cX, rfl, hleX, hlX, hsX, hnilX, hsrcX⟩ := cont_ok hi hx hys
  cases zs with
  | nil =>
    rw [List.append_nil]
    refine .same hi (run_append_zero t ty e i ht hinfo ads xs.length cS hleS adx cX) ?_
    rcases hinv with ⟨h1, rfl, _⟩ | ⟨ad, c, s, vs, h1, h2, h3, h4, h5, h6, h7, h8, h9⟩
    · rw [h1]; exact .nilsl _ (.inl rfl)
    · rw [h1]; exact .sl _ _ ad _ c s vs rfl h2 (fun e => by cases e) (fun _ _ e => by cases e) h5 h6 h7 h8 h9
  | cons y ys' =>
  have hax : ∃ a, adx = some a := by
    cases adx with
    | none => have := (hnilX rfl).1; simp at this
    | some a => exact ⟨a, rfl⟩
  obtain ⟨ax, rfl⟩ := hax
  obtain ⟨news, hnl, hncell, hnin, hn1⟩ := cells_list h0 hlX hsX (hsrcX ax rfl)
  have hnin : InCells G w news sz (y :: ys') := hnin
  have hpos : 0 < (y :: ys').length := by simp
  have hm : xs.length + (y :: ys').length ≤ 140737488355328 := Nat.le_trans (Nat.le_mul_of_pos_right _ hb0) hbound
  have hlens : ∀ row ∈ xs ++ y :: ys', row.length = sz := fun row hr => by rcases List.mem_append.1 hr with h | h; exact hlS row h; exact hlX row h
  have hsings : ∀ row ∈ xs ++ y :: ys', ∀ x ∈ row, x.single = true := fun row hr => by rcases List.mem_append.1 hr with h | h; exact hsS row h; exact hsX row h
  have hlenapp : (xs ++ y :: ys').length = xs.length + (y :: ys').length := List.length_append
  -- what a new array holds
  have fresh : cS < xs.length + (y :: ys').length → ∃ cs : Array Value, (Builtin.append_ #[t, t] ty #[.slice ads xs.length cS, .slice (some ax) (y :: ys').length cX]).run P w =
      .ok (.slice (some ⟨w.drew.heap.size, 0, none⟩) (xs.length + (y :: ys').length) (grownCap w (xs.length + (y :: ys').length) cS e)) (w.drew.alloc (.cells cs e)) ∧
      InCells G w cs.toList sz (xs ++ y :: ys') ∧ (grownCap w (xs.length + (y :: ys').length) cS e) * sz ≤ cs.size := by
    intro hgrow
    have hge := grownCap_ge w (xs.length + (y :: ys').length) cS e
    have hnl' : news.length = (y :: ys').length * i.size := by rw [hsize]; exact hnl
    cases ads with
    | none =>
      obtain ⟨hx0, hc0⟩ := hnilS rfl
      have hxs0 : xs = [] := List.eq_nil_of_length_eq_zero hx0
      subst hxs0
      subst hc0
      have hr := run_append_nil (P := P) w t ty e i z ht hinfo hz ax (y :: ys').length cX news hnl' hncell hpos (by simp only [List.length_nil, Nat.zero_add] at hm; omega) (by rw [hby]; simp only [List.length_nil, Nat.zero_add] at hbound; omega)
      refine ⟨_, by simpa using hr, ?_, ?_⟩
      · simpa using hnin.more
      · simp only [List.length_nil, List.length_cons, Nat.zero_add, List.nil_append] at hge hnl ⊢
        simp only [Array.size_append, List.size_toArray, size_zeroCells, hzs, hnl, ← Nat.add_mul]
        exact Nat.mul_le_mul_right _ (by omega)
    | some aS =>
      obtain ⟨olds, hol, hocell, hoin, ho1⟩ := cells_list h0 hlS hsS (hsrcS aS rfl)
      have hol' : olds.length = xs.length * i.size := by rw [hsize]; exact hol
      have hr := run_append_grow (P := P) w t ty e i z ht hinfo hz aS xs.length cS olds hol' hocell ax (y :: ys').length cX news hnl' hncell hgrow (by omega) (growslice_fits (by omega) (by rw [hby]; exact hbound))
      refine ⟨_, hr, ?_, ?_⟩
      · have h1 : InCells G w olds sz xs := hoin
        have h2 := h1.append hnin hol hlS
        simpa using h2.more
      · simp only [Array.size_append, List.size_toArray, size_zeroCells, hzs, hnl, hol, ← Nat.add_mul]
        exact Nat.mul_le_mul_right _ (by omega)
  obtain ⟨idr, edr⟩ := inv_drew hi
  have hcap : cS = xs.length := by
    rcases hinv with ⟨h1, _, _⟩ | ⟨ad, c, s, vs, h1, h2, h3, _⟩
    · injection h1 with h1 h2 h3; omega
    · injection h1 with h1 h4 h5; have := h3 rfl; omega
  obtain ⟨cs, hrun, hin, hcap2⟩ := fresh (by simp only [List.length_cons]; omega)
  have hge : (xs ++ y :: ys').length ≤ grownCap w (xs.length + (y :: ys').length) cS e := by rw [hlenapp]; exact grownCap_ge w _ cS e
  rw [hrun]
  have := ok_newNo idr cs e sz (xs ++ y :: ys') hlens hsings (hin.ext edr) _ hge hcap2
  rw [hlenapp] at this
  exact this.after edr

theorem run_ap {P : Program} {w : World} {G : Gh} {H H' : AHeap} (hi : Inv G w H) (t ty e : TypeId) (i : TypeInfo) (z : Value) (sz bytes : Nat) (ht : P.underlying t = some (.slice e)) (hinfo : P.info? e = some i) (hz : i.zero = some z)
    (hsize : i.size = sz) (hby : i.bytes = bytes) (hzs : z.cells.size = sz) (h0 : 0 < sz) (hb0 : 0 < bytes) {mu : Bool} {vs vx : Value} {s x r : AV} (hs : R G w vs s) (hx : R G w vx x) (h : apA G.clock mu sz bytes s x H = some (r, H')) :
    OkV G w ((Builtin.append_ #[t, t] ty #[vs, vx]).run P w) r H' := by
  unfold apA at h
  split at h
  case h_2 => cases h
  rename_i xs ys hxs hys
  have hinv : (∀ own rows, s = .sl own rows → _) ∧ (∀ b g r n sz', s = .osl b g r n sz' → _) := ⟨fun own rows e => sl_inv (e ▸ hs), fun b g r n sz' e => osl_inv (e ▸ hs)⟩
  obtain ⟨ads, cS, rfl, hleS, hlS, hsS, hnilS, hsrcS⟩ := cont_ok hi hs hxs
  obtain ⟨adx, cX, rfl, hleX, hlX, hsX, hnilX, hsrcX⟩ := cont_ok hi hx hys
  split at h
  · cases h
    exact .same hi (run_append_zero t ty e i ht hinfo ads xs.length cS hleS adx cX) hs
  rename_i y ys'
  split at h
  case isFalse => cases h
  rename_i hbound
  have hax : ∃ a, adx = some a := by
    cases adx with
    | none => have := (hnilX rfl).1; simp at this
    | some a => exact ⟨a, rfl⟩
  obtain ⟨ax, rfl⟩ := hax
  obtain ⟨news, hnl, hncell, hnin, hn1⟩ := cells_list h0 hlX hsX (hsrcX ax rfl)
  have hnin : InCells G w news sz (y :: ys') := hnin
  have hpos : 0 < (y :: ys').length := by simp
  have hm : xs.length + (y :: ys').length ≤ 140737488355328 := Nat.le_trans (Nat.le_mul_of_pos_right _ hb0) hbound
  have hlens : ∀ row ∈ xs ++ y :: ys', row.length = sz := fun row hr => by rcases List.mem_append.1 hr with h | h; exact hlS row h; exact hlX row h
  have hsings : ∀ row ∈ xs ++ y :: ys', ∀ x ∈ row, x.single = true := fun row hr => by rcases List.mem_append.1 hr with h | h; exact hsS row h; exact hsX row h
  have hlenapp : (xs ++ y :: ys').length = xs.length + (y :: ys').length := List.length_append
  -- what a new array holds
  have fresh : cS < xs.length + (y :: ys').length → ∃ cs : Array Value, (Builtin.append_ #[t, t] ty #[.slice ads xs.length cS, .slice (some ax) (y :: ys').length cX]).run P w =
      .ok (.slice (some ⟨w.drew.heap.size, 0, none⟩) (xs.length + (y :: ys').length) (grownCap w (xs.length + (y :: ys').length) cS e)) (w.drew.alloc (.cells cs e)) ∧
      InCells G w cs.toList sz (xs ++ y :: ys') ∧ (grownCap w (xs.length + (y :: ys').length) cS e) * sz ≤ cs.size := by
    intro hgrow
    have hge := grownCap_ge w (xs.length + (y :: ys').length) cS e
    have hnl' : news.length = (y :: ys').length * i.size := by rw [hsize]; exact hnl
    cases ads with
    | none =>
      obtain ⟨hx0, hc0⟩ := hnilS rfl
      have hxs0 : xs = [] := List.eq_nil_of_length_eq_zero hx0
      subst hxs0
      subst hc0
      have hr := run_append_nil (P := P) w t ty e i z ht hinfo hz ax (y :: ys').length cX news hnl' hncell hpos (by simp only [List.length_nil, Nat.zero_add] at hm; omega) (by rw [hby]; simp only [List.length_nil, Nat.zero_add] at hbound; omega)
      refine ⟨_, by simpa using hr, ?_, ?_⟩
      · simpa using hnin.more
      · simp only [List.length_nil, List.length_cons, Nat.zero_add, List.nil_append] at hge hnl ⊢
        simp only [Array.size_append, List.size_toArray, size_zeroCells, hzs, hnl, ← Nat.add_mul]
        exact Nat.mul_le_mul_right _ (by omega)
    | some aS =>
      obtain ⟨olds, hol, hocell, hoin, ho1⟩ := cells_list h0 hlS hsS (hsrcS aS rfl)
      have hol' : olds.length = xs.length * i.size := by rw [hsize]; exact hol
      have hr := run_append_grow (P := P) w t ty e i z ht hinfo hz aS xs.length cS olds hol' hocell ax (y :: ys').length cX news hnl' hncell hgrow (by omega) (growslice_fits (by omega) (by rw [hby]; exact hbound))
      refine ⟨_, hr, ?_, ?_⟩
      · have h1 : InCells G w olds sz xs := hoin
        have h2 := h1.append hnin hol hlS
        simpa using h2.more
      · simp only [Array.size_append, List.size_toArray, size_zeroCells, hzs, hnl, hol, ← Nat.add_mul]
        exact Nat.mul_le_mul_right _ (by omega)
  obtain ⟨idr, edr⟩ := inv_drew hi
  split at h
  -- full
  · rename_i rows
    have hcap : cS = xs.length := by
      rcases hinv.1 _ _ rfl with ⟨h1, _, _⟩ | ⟨ad, c, s, vs, h1, h2, h3, _⟩
      · injection h1 with h1 h2 h3; omega
      · injection h1 with h1 h4 h5; have := h3 rfl; omega
    obtain ⟨cs, hrun, hin, hcap2⟩ := fresh (by omega)
    have hge : (xs ++ y :: ys').length ≤ grownCap w (xs.length + (y :: ys').length) cS e := by rw [hlenapp]; exact grownCap_ge w _ cS e
    rw [hrun]
    split at h
    · cases h
      have := ok_newMut idr cs e sz (xs ++ y :: ys') hlens hsings (hin.ext edr) _ hge hcap2 (b := H.length) (Nat.le_refl _)
      rw [Hput_new, hlenapp] at this
      exact this.after edr
    · cases h
      have := ok_newTail idr cs e sz (xs ++ y :: ys') hlens hsings (hin.ext edr) _ hge hcap2 (b := H.length) (Nat.le_refl _)
      rw [Hput_new, hlenapp] at this
      exact this.after edr
  -- with a tail
  · rename_i b g0 rows
    split at h
    case h_2 => cases h
    rename_i g1 sz1 hbt
    split at h
    case isFalse => cases h
    rename_i eg
    obtain ⟨rfl, rfl⟩ := eg
    cases h
    obtain ⟨l, hl0, hlsz⟩ := hi.ent b _ hbt
    simp only [Blk.g] at hl0
    simp only [BlkOk] at hlsz
    have hblt : b < H.length := (List.getElem?_eq_some_iff.1 hbt).1
    obtain ⟨i1, e1, f1⟩ := inv_rm hi hl0
    have hxsr : rows = xs := by simp only [contA] at hxs; split at hxs; simpa using hxs; cases hxs
    subst hxsr
    by_cases hroom : rows.length + (y :: ys').length ≤ cS
    · rcases hinv.1 _ _ rfl with ⟨_, _, ho⟩ | ⟨ad, c, s, vs, h1, hc, hfull, htk, hlen, hsing, hfz, hcell, hR⟩
      · rcases ho with h | h <;> cases h
      injection h1 with h1 _ h3
      subst h1
      subst h3
      obtain ⟨hg0, htk'⟩ := htk b g1 rfl
      obtain ⟨hspot, hblk, hlsz', hbase, hcsz⟩ := htk' l hl0
      have hss : s = l.size := hlsz'.symm
      subst hss
      subst hlsz
      obtain ⟨cs, elem, hcs, hcsz2⟩ := f1.holds.heap
      have had : ad = ⟨l.blk, ad.off, none⟩ := by cases ad; simp at hspot hblk ⊢; exact ⟨hblk.symm, hspot⟩
      have hroom2 := Nat.mul_le_mul_right l.size hroom
      rw [Nat.add_mul] at hroom2
      have hfit : ad.off + rows.length * l.size + news.length ≤ cs.size := by rw [hnl]; omega
      have hrun := run_append_inplace (P := P) (w := w) t ty e i ht hinfo l.blk ad.off rows.length cS cs elem hcs ax (y :: ys').length cX news (by rw [hsize]; exact hnl) hncell hn1 hroom (by rw [hsize]; exact hfit)
      rw [← had, hsize] at hrun
      have hfit' : ad.off + rows.length * l.size + news.length ≤ cs.toList.length := by simpa using hfit
      have hget : ∀ j, (cs.toList.take (ad.off + rows.length * l.size) ++ news ++ cs.toList.drop (ad.off + rows.length * l.size + news.length)).toArray[j]? =
          if j < ad.off + rows.length * l.size then cs[j]? else if j < ad.off + rows.length * l.size + news.length then news[j - (ad.off + rows.length * l.size)]? else cs[j]? := by
        intro j
        rw [List.getElem?_toArray, seg_get _ _ _ _ hfit']
        simp
      obtain ⟨i2, e2, f2, hnew⟩ := inv_wr i1 f1 hcs (cs' := (cs.toList.take (ad.off + rows.length * l.size) ++ news ++ cs.toList.drop (ad.off + rows.length * l.size + news.length)).toArray)
        (by rw [List.size_toArray, seg_length _ _ _ hfit']; simp) (by
          intro j hj
          rw [hget]
          split
          · rfl
          · split
            · exfalso; apply hj; omega
            · rfl)
      obtain ⟨i3, e3, f3⟩ := inv_more i2 f2 (k := l.base + (y :: ys').length * l.size) (by omega)
      have i4 := inv_own i3 f3 (b := b) (by simp; omega) (x := .tail G.clock l.size) rfl rfl
      rw [Hput_set hblt] at i4
      have e23 := (e1.trans e2).trans e3
      have e4 := e23.trans (ext_own (b := b) (l := { l with base := l.base + (y :: ys').length * l.size }))
      refine ⟨_, _, _, hrun, i4, e4, ?_⟩
      have hcellnew : ∀ o, (w.setRow l.blk (cs.toList.take (ad.off + rows.length * l.size) ++ news ++ cs.toList.drop (ad.off + rows.length * l.size + news.length)).toArray).cell? ⟨l.blk, o, none⟩ =
          if o < ad.off + rows.length * l.size then cs[o]? else if o < ad.off + rows.length * l.size + news.length then news[o - (ad.off + rows.length * l.size)]? else cs[o]? := fun o => by rw [cell_row hnew, hget]
      have both : ∀ (i j : Nat) (row : List AV) (x : AV), (rows ++ y :: ys')[i]? = some row → row[j]? = some x →
          ∃ v, (w.setRow l.blk (cs.toList.take (ad.off + rows.length * l.size) ++ news ++ cs.toList.drop (ad.off + rows.length * l.size + news.length)).toArray).cell? (ad.add (i * l.size + j)) = some v ∧ R G w v x := by
        intro i j row x hri hxj
        have hj : j < l.size := by rw [← hlens row (List.mem_of_getElem? hri)]; exact (List.getElem?_eq_some_iff.1 hxj).1
        have hadd : ad.add (i * l.size + j) = ⟨l.blk, ad.off + (i * l.size + j), none⟩ := by rw [had, add_none]
        rw [hadd, hcellnew]
        by_cases ci : i < rows.length
        · rw [List.getElem?_append_left ci] at hri
          have hm : (i + 1) * l.size ≤ rows.length * l.size := Nat.mul_le_mul_right _ ci
          rw [Nat.add_mul] at hm
          have := hcell i j row x hri hxj
          rw [hadd, cell_row hcs] at this
          exact ⟨_, by rw [if_pos (by omega)]; exact this, hR i j row x hri hxj⟩
        · rw [List.getElem?_append_right (by omega)] at hri
          obtain ⟨v, hv, hRv⟩ := hnin _ j row x hri hxj
          have h2 : rows.length * l.size + (i - rows.length) * l.size = i * l.size := by rw [← Nat.add_mul]; congr 1; omega
          have hlt := (List.getElem?_eq_some_iff.1 hv).1
          refine ⟨v, ?_, hRv⟩
          rw [if_neg (by omega), if_pos (by omega), show ad.off + (i * l.size + j) - (ad.off + rows.length * l.size) = (i - rows.length) * l.size + j by omega]
          exact hv
      refine .sl _ _ ad _ cS l.size (fun i j => ((w.setRow l.blk (cs.toList.take (ad.off + rows.length * l.size) ++ news ++ cs.toList.drop (ad.off + rows.length * l.size + news.length)).toArray).cell? (ad.add (i * l.size + j))).getD undef)
        (by rw [hlenapp]) hroom (fun e => by cases e) ?_ hlens hsings ?_ ?_ ?_
      · intro b' g' e
        cases e
        refine ⟨Nat.lt_succ_self _, fun l' hl' => ?_⟩
        have hl'' : l' = { l with base := l.base + (y :: ys').length * l.size } := by
          simp only [Gh.own, if_true, Option.some.injEq, Prod.mk.injEq] at hl'
          exact hl'.2.symm
        subst hl''
        refine ⟨hspot, hblk, rfl, ?_, hcsz⟩
        show l.base + (y :: ys').length * l.size = ad.off + (rows.length + (y :: ys').length) * l.size
        rw [Nat.add_mul]; omega
      · intro k hk
        by_cases ck : k < rows.length * l.size
        · exact .inl (hfz k ck)
        · refine .inr ⟨hblk.symm, ?_, ?_⟩
          · show l.base ≤ ad.off + k; omega
          · rw [Nat.add_mul] at hk; omega
      · intro i j row x hri hxj
        obtain ⟨v, hv, _⟩ := both i j row x hri hxj
        rw [hv]; rfl
      · intro i j row x hri hxj
        obtain ⟨v, hv, hRv⟩ := both i j row x hri hxj
        rw [hv]
        exact hRv.ext e4
    · obtain ⟨cs, hrun, hin, hcap2⟩ := fresh (by omega)
      have hge : (rows ++ y :: ys').length ≤ grownCap w (rows.length + (y :: ys').length) cS e := by rw [hlenapp]; exact grownCap_ge w _ cS e
      rw [hrun]
      obtain ⟨i2, e2⟩ := inv_drew i1
      have := ok_newTail i2 cs e sz1 (rows ++ y :: ys') hlens hsings (hin.ext (e1.trans e2)) _ hge hcap2 (b := b) (by simp; omega)
      rw [Hput_set hblt, hlenapp] at this
      exact this.after (e1.trans e2)
  -- owned
  · rename_i b g r n sz'
    cases h
    simp only [contA] at hxs
    split at hxs
    case h_2 => cases hxs
    rename_i g' rs hbr
    split at hxs
    case isFalse => cases hxs
    rename_i hh
    obtain ⟨rfl, rfl, hrn⟩ := hh
    have hxe : subRows rs r n = xs := by simpa using hxs
    obtain ⟨l, hl0, hl1, hl2, hl3, hl4⟩ := hi.ent b _ hbr
    simp only [Blk.g] at hl0
    have hblt : b < H.length := (List.getElem?_eq_some_iff.1 hbr).1
    obtain ⟨i1, e1, f1⟩ := inv_rm hi hl0
    by_cases hroom : xs.length + (y :: ys').length ≤ cS
    · obtain ⟨ad, c, h1, hg, hc, hl⟩ := hinv.2 _ _ _ _ _ rfl
      injection h1 with h1 h2 h3
      subst h1
      subst h3
      obtain ⟨had, hlsz, hlroom⟩ := hl l hl0
      subst hlsz
      obtain ⟨cs, elem, hcs, hcsz2⟩ := f1.holds.heap
      have hroom2 := Nat.mul_le_mul_right l.size hroom
      rw [Nat.add_mul] at hroom2
      rw [Nat.add_mul] at hlroom
      have hfit : l.base + r * l.size + xs.length * l.size + news.length ≤ cs.size := by rw [hnl]; omega
      have hrun := run_append_inplace (P := P) (w := w) t ty e i ht hinfo l.blk (l.base + r * l.size) xs.length cS cs elem hcs ax (y :: ys').length cX news (by rw [hsize]; exact hnl) hncell hn1 hroom (by rw [hsize]; exact hfit)
      rw [← had, hsize] at hrun
      have hfit' : l.base + r * l.size + xs.length * l.size + news.length ≤ cs.toList.length := by simpa using hfit
      have hget : ∀ j, (cs.toList.take (l.base + r * l.size + xs.length * l.size) ++ news ++ cs.toList.drop (l.base + r * l.size + xs.length * l.size + news.length)).toArray[j]? =
          if j < l.base + r * l.size + xs.length * l.size then cs[j]? else if j < l.base + r * l.size + xs.length * l.size + news.length then news[j - (l.base + r * l.size + xs.length * l.size)]? else cs[j]? := by
        intro j
        rw [List.getElem?_toArray, seg_get _ _ _ _ hfit']
        simp
      obtain ⟨i2, e2, f2, hnew⟩ := inv_wr i1 f1 hcs (cs' := (cs.toList.take (l.base + r * l.size + xs.length * l.size) ++ news ++ cs.toList.drop (l.base + r * l.size + xs.length * l.size + news.length)).toArray)
        (by rw [List.size_toArray, seg_length _ _ _ hfit']; simp) (by
          intro j hj
          rw [hget]
          split
          · rfl
          · split
            · exfalso; apply hj; omega
            · rfl)
      have f3 := free_from f2 (k := l.base + r * l.size) (by omega)
      have e12 := e1.trans e2
      have i4 := inv_own i2 f3 (b := b) (by simp; omega) (x := .rows G.clock (xs ++ y :: ys')) rfl ⟨hlens, by rw [hlenapp]; show l.base + r * l.size + (xs.length + (y :: ys').length) * l.size ≤ l.csize; rw [Nat.add_mul]; omega, hsings, by
        intro i j row x hri hxj
        show ∃ v, World.cell? _ ⟨l.blk, l.base + r * l.size + (i * l.size + j), none⟩ = some v ∧ _
        rw [cell_row hnew, hget]
        have hj : j < l.size := by rw [← hlens row (List.mem_of_getElem? hri)]; exact (List.getElem?_eq_some_iff.1 hxj).1
        by_cases ci : i < xs.length
        · rw [List.getElem?_append_left ci] at hri
          have hm : (i + 1) * l.size ≤ xs.length * l.size := Nat.mul_le_mul_right _ ci
          rw [Nat.add_mul] at hm
          obtain ⟨v, hv, hRv⟩ := hsrcS ad rfl i j row x hri hxj
          rw [had, add_none, cell_row hcs] at hv
          exact ⟨v, by rw [if_pos (by omega)]; exact hv, hRv.ext e12⟩
        · rw [List.getElem?_append_right (by omega)] at hri
          obtain ⟨v, hv, hRv⟩ := hnin _ j row x hri hxj
          have h2 : xs.length * l.size + (i - xs.length) * l.size = i * l.size := by rw [← Nat.add_mul]; congr 1; omega
          have hlt := (List.getElem?_eq_some_iff.1 hv).1
          refine ⟨v, ?_, hRv.ext e12⟩
          rw [if_neg (by omega), if_pos (by omega), show l.base + r * l.size + (i * l.size + j) - (l.base + r * l.size + xs.length * l.size) = (i - xs.length) * l.size + j by omega]
          exact hv⟩
      rw [Hput_set hblt] at i4
      have e4 := e12.trans (ext_own (b := b) (l := { l with base := l.base + r * l.size }))
      refine ⟨_, _, _, hrun, i4, e4, .osl _ _ _ _ _ _ _ (Nat.lt_succ_self _) hroom fun l' hl' => ?_⟩
      simp [Gh.own, Gh.rm] at hl'
      subst hl'
      refine ⟨by rw [had]; simp, rfl, ?_⟩
      show l.base + r * l.size + (0 + cS) * l.size ≤ l.csize
      rw [Nat.zero_add]; omega
    · obtain ⟨cs, hrun, hin, hcap2⟩ := fresh (by omega)
      have hge : (xs ++ y :: ys').length ≤ grownCap w (xs.length + (y :: ys').length) cS e := by rw [hlenapp]; exact grownCap_ge w _ cS e
      rw [hrun]
      obtain ⟨i2, e2⟩ := inv_drew i1
      have := ok_newMut i2 cs e sz' (xs ++ y :: ys') hlens hsings (hin.ext (e1.trans e2)) _ hge hcap2 (b := b) (by simp; omega)
      rw [Hput_set hblt, hlenapp] at this
      exact this.after (e1.trans e2)
  · cases h
end Go.Proofs.YtjgkfgocgknjjaaDoor.Abs
