/- The abstract machine, part 5: stores, new variables, literals. -/
import Derived.Test.YtjgkfgocgknjjaaDoorA4
set_option linter.unusedVariables false
set_option linter.unusedSimpArgs false
namespace Go.Proofs.YtjgkfgocgknjjaaDoor.Abs
open Go Go.RowKit

def OkV (G : Gh) (w : World) (r : Result Value) (x : AV) (H' : AHeap) : Prop :=
  ∃ v w' G', r = .ok v w' ∧ Inv G' w' H' ∧ Ext G w G' w' ∧ R G' w' v x
theorem OkV.same {G : Gh} {w : World} {H : AHeap} (hi : Inv G w H) {r : Result Value} {v : Value} {x : AV} (hr : r = .ok v w) (hx : R G w v x) : OkV G w r x H :=
  ⟨v, w, G, hr, hi, Ext.refl _ _, hx⟩

def AV.okst : AV → Bool
  | .tup _ => false
  | _ => true
theorem R.cells {G : Gh} {w : World} {v : Value} {x : AV} (h : R G w v x) (hx : x.okst = true) : RL G w v.cells.toList x.cells ∧ ∀ y ∈ x.cells, y.single = true := by
  cases h with
  | agg cs cells hs hsing hR => exact ⟨⟨by simpa [Value.cells, AV.cells] using hs, fun j v x a b => hR j v x (by simpa [Value.cells] using a) b⟩, hsing⟩
  | tup => simp [AV.okst] at hx
  | _ => exact ⟨RL.cons (by constructor <;> assumption) (RL.nil _ _), by simp [AV.cells, AV.single]⟩

def wrRow (row : List AV) (o : Nat) (cs : List AV) : List AV :=
  if o = 0 ∧ cs.length = row.length then cs else row.take o ++ cs ++ row.drop (o + cs.length)
theorem wrRow_eq (row : List AV) (o : Nat) (cs : List AV) : wrRow row o cs = row.take o ++ cs ++ row.drop (o + cs.length) := by
  unfold wrRow
  split
  · rename_i h; simp [h.1, h.2]
  · rfl
theorem seg_get {α : Type} (L vs : List α) (a j : Nat) (h : a + vs.length ≤ L.length) :
    (L.take a ++ vs ++ L.drop (a + vs.length))[j]? = if j < a then L[j]? else if j < a + vs.length then vs[j - a]? else L[j]? := by
  have h1 : (L.take a).length = a := by rw [List.length_take]; omega
  by_cases c1 : j < a
  · rw [if_pos c1, List.append_assoc, List.getElem?_append_left (by omega), List.getElem?_take, if_pos c1]
  · rw [if_neg c1, List.append_assoc, List.getElem?_append_right (by omega), h1]
    by_cases c2 : j < a + vs.length
    · rw [if_pos c2, List.getElem?_append_left (by omega)]
    · rw [if_neg c2, List.getElem?_append_right (by omega), List.getElem?_drop]
      congr 1; omega
theorem seg_length {α : Type} (L vs : List α) (a : Nat) (h : a + vs.length ≤ L.length) : (L.take a ++ vs ++ L.drop (a + vs.length)).length = L.length := by
  simp only [List.length_append, List.length_take, List.length_drop]; omega
theorem wrRow_length {row : List AV} {o : Nat} {cs : List AV} (h : o + cs.length ≤ row.length) : (wrRow row o cs).length = row.length := by
  rw [wrRow_eq]; exact seg_length row cs o h
theorem wrRow_get {row : List AV} {o : Nat} {cs : List AV} (h : o + cs.length ≤ row.length) (j : Nat) :
    (wrRow row o cs)[j]? = if j < o then row[j]? else if j < o + cs.length then cs[j - o]? else row[j]? := by
  rw [wrRow_eq]; exact seg_get row cs o j h
theorem wrRow_mem {row : List AV} {o : Nat} {cs : List AV} {x : AV} (h : x ∈ wrRow row o cs) : x ∈ row ∨ x ∈ cs := by
  rw [wrRow_eq, List.mem_append, List.mem_append] at h
  rcases h with (h | h) | h
  · exact .inl (List.mem_of_mem_take h)
  · exact .inr h
  · exact .inl (List.mem_of_mem_drop h)

def stA (n : Nat) (p x : AV) (H : AHeap) : Option AHeap :=
  match p with
  | .ptr b g r o =>
    match H[b]? with
    | some (some (.rows g' rs)) =>
      if g' = g then
        match rs[r]? with
        | some row => if x.cells.length = n ∧ o + n ≤ row.length ∧ x.okst = true then some (H.set b (some (.rows g' (rs.set r (wrRow row o x.cells))))) else none
        | none => none
      else none
    | _ => none
  | _ => none

theorem cell_row {w : World} {k : Nat} {cs : Array Value} {e : TypeId} {fr : Nat × Nat} (h : w.heap[k]? = some (.cells cs e fr)) (o : Nat) : w.cell? ⟨k, o, none⟩ = cs[o]? := cell_of_row w k o cs e fr h

theorem apart_rows {i r s j : Nat} (h : i ≠ r) (hj : j < s) : i * s + j < r * s ∨ r * s + s ≤ i * s + j := by
  rcases Nat.lt_or_gt_of_ne h with h | h
  · have : (i + 1) * s ≤ r * s := Nat.mul_le_mul_right _ h
    rw [Nat.add_mul] at this; omega
  · have : (r + 1) * s ≤ i * s := Nat.mul_le_mul_right _ h
    rw [Nat.add_mul] at this; omega

theorem run_st {P : Program} {w : World} {G : Gh} {H H' : AHeap} (hi : Inv G w H) {t : TypeId} {n : Nat} (ht : (P.info? t).map (·.size) = some n) {u v : Value} {p x : AV} (hu : R G w u p) (hv : R G w v x) (hs : stA n p x H = some H') :
    ∃ w', (Instr.storeAt t u v).run P w = .ok () w' ∧ Inv G w' H' ∧ Ext G w G w' := by
  unfold stA at hs
  split at hs
  case h_2 => cases hs
  rename_i b g r o
  split at hs
  case h_2 => cases hs
  rename_i g' rs hb
  split at hs
  case isFalse => cases hs
  rename_i e
  subst e
  split at hs
  case h_2 => cases hs
  rename_i row hr
  split at hs
  case isFalse => cases hs
  rename_i hh
  obtain ⟨hn, hle, hok⟩ := hh
  cases hs
  cases hu with
  | ptr _ _ _ _ ad hg hl =>
  obtain ⟨l, hl0, h1, h2, h3, h4⟩ := hi.ent b _ hb
  simp only [Blk.g] at hl0
  obtain rfl := hl l hl0
  obtain ⟨⟨hlen, hRL⟩, hsing⟩ := hv.cells hok
  obtain ⟨cs, elem, hcs, hcsz⟩ := (hi.ok b _ l hl0).2.2.heap
  have hrlt : r < rs.length := (List.getElem?_eq_some_iff.1 hr).1
  have hrow : row.length = l.size := h1 row (List.mem_of_getElem? hr)
  have hin : (r + 1) * l.size ≤ rs.length * l.size := Nat.mul_le_mul_right _ hrlt
  rw [Nat.add_mul] at hin
  have hvlen : v.cells.toList.length = n := by rw [hlen, hn]
  have hone : ∀ u ∈ v.cells.toList, u.oneCell' = true := by
    intro u hu
    obtain ⟨j, hj⟩ := mem_get hu
    obtain ⟨y, hy⟩ := get_ex hlen.symm hj
    exact (hRL j u y hj hy).oneCell (hsing y (List.mem_of_getElem? hy))
  have hst := run_storeCells_at P l.blk (l.base + r * l.size + o) elem v.cells.toList 0 cs w hcs (by rw [hvlen]; omega) hone
  simp only [Nat.add_zero] at hst
  have hrun : (Instr.storeAt t (.pointer (some ⟨l.blk, l.base + r * l.size + o, none⟩)) v).run P w = .ok () (w.setRow l.blk (cs.toList.take (l.base + r * l.size + o) ++ v.cells.toList ++ cs.toList.drop (l.base + r * l.size + o + v.cells.toList.length)).toArray) := by
    cases hinfo : P.info? t with
    | none => simp [hinfo] at ht
    | some i =>
      have hsz : i.size = n := by simpa [hinfo] using ht
      have hvs : v.cells.size = n := by simpa using hvlen
      simp [Instr.storeAt, Instr.sureAddr, storeVar, sizeOf, typeInfo, hinfo, hsz, hvs]
      simpa [hvs] using hst
  have hfit : l.base + r * l.size + o + v.cells.toList.length ≤ cs.toList.length := by rw [hvlen]; simp; omega
  have hget : ∀ j, (cs.toList.take (l.base + r * l.size + o) ++ v.cells.toList ++ cs.toList.drop (l.base + r * l.size + o + v.cells.toList.length)).toArray[j]? =
      if j < l.base + r * l.size + o then cs[j]? else if j < l.base + r * l.size + o + n then v.cells.toList[j - (l.base + r * l.size + o)]? else cs[j]? := by
    intro j
    rw [List.getElem?_toArray, seg_get _ _ _ _ hfit, hvlen]
    simp
  obtain ⟨he, hnew, hput⟩ := inv_store hi hl0 hcs (cs' := (cs.toList.take (l.base + r * l.size + o) ++ v.cells.toList ++ cs.toList.drop (l.base + r * l.size + o + v.cells.toList.length)).toArray)
    (by rw [List.size_toArray, seg_length _ _ _ hfit]; simp) (by
      intro j hj
      rw [hget]
      split
      · rfl
      · split
        · exfalso; apply hj; omega
        · rfl)
  refine ⟨_, hrun, hput _ ⟨?_, ?_, ?_, ?_⟩, he⟩
  · intro row' hr'
    rcases List.mem_or_eq_of_mem_set hr' with h | rfl
    · exact h1 row' h
    · rw [wrRow_length (by omega)]; exact hrow
  · rw [List.length_set]; exact h2
  · intro row' hr' y hy
    rcases List.mem_or_eq_of_mem_set hr' with h | rfl
    · exact h3 row' h y hy
    · rcases wrRow_mem hy with h | h
      · exact h3 row (List.mem_of_getElem? hr) y h
      · exact hsing y h
  · intro i j row' y hri hyj
    rw [cell_row hnew, hget]
    rw [List.getElem?_set] at hri
    by_cases e : r = i
    · subst e
      rw [if_pos rfl, if_pos hrlt] at hri
      cases hri
      rw [wrRow_get (by omega)] at hyj
      by_cases c1 : j < o
      · rw [if_pos c1] at hyj
        obtain ⟨u, hu, hR⟩ := h4 r j row y hr hyj
        rw [cell_row hcs] at hu
        exact ⟨u, by rw [if_pos (by omega)]; exact hu, hR.ext he⟩
      · rw [if_neg c1] at hyj
        by_cases c2 : j < o + x.cells.length
        · rw [if_pos c2] at hyj
          obtain ⟨u, hu⟩ := get_ex (l := v.cells.toList) hlen hyj
          refine ⟨u, ?_, (hRL _ u y hu hyj).ext he⟩
          rw [if_neg (by omega), if_pos (by omega)]
          rw [show l.base + (r * l.size + j) - (l.base + r * l.size + o) = j - o by omega]
          exact hu
        · rw [if_neg c2] at hyj
          obtain ⟨u, hu, hR⟩ := h4 r j row y hr hyj
          rw [cell_row hcs] at hu
          exact ⟨u, by rw [if_neg (by omega), if_neg (by omega)]; exact hu, hR.ext he⟩
    · rw [if_neg e] at hri
      obtain ⟨u, hu, hR⟩ := h4 i j row' y hri hyj
      rw [cell_row hcs] at hu
      have hj : j < l.size := by rw [← h1 row' (List.mem_of_getElem? hri)]; exact (List.getElem?_eq_some_iff.1 hyj).1
      refine ⟨u, ?_, hR.ext he⟩
      rcases apart_rows (fun h => e h.symm) hj with c | c
      · rw [if_pos (by omega)]; exact hu
      · rw [if_neg (by omega), if_neg (by omega)]; exact hu

/-! New rows. -/
theorem inv_newRows {G : Gh} {w : World} {H : AHeap} (hi : Inv G w H) (cs : Array Value) (elem : TypeId) (sz : Nat) (rows : List (List AV)) (hlen : ∀ row ∈ rows, row.length = sz) (hsing : ∀ row ∈ rows, ∀ x ∈ row, x.single = true)
    (hfit : rows.length * sz ≤ cs.size) (hc : ∀ (i j : Nat) (row : List AV) (x : AV), rows[i]? = some row → row[j]? = some x → ∃ v, cs[i * sz + j]? = some v ∧ R G w v x) {b : Nat} (hb : b ≤ H.length) :
    Inv (G.own b ⟨w.heap.size, 0, sz, cs.size⟩) (w.alloc (.cells cs elem)) (Hput H b (.rows G.clock rows)) ∧ Ext G w (G.own b ⟨w.heap.size, 0, sz, cs.size⟩) (w.alloc (.cells cs elem)) := by
  obtain ⟨i1, e1, f1, hnew⟩ := inv_alloc hi cs elem sz
  refine ⟨inv_own i1 f1 hb rfl ⟨hlen, by simpa using hfit, hsing, fun i j row x a b => ?_⟩, e1.trans ext_own⟩
  obtain ⟨v, hv, hR⟩ := hc i j row x a b
  exact ⟨v, by rw [cell_row hnew]; simpa using hv, hR.ext e1⟩

theorem Hput_new (H : AHeap) (x : Blk) : Hput H H.length x = H ++ [some x] := by simp [Hput]
theorem Hput_set {H : AHeap} {b : Nat} (hb : b < H.length) (x : Blk) : Hput (H.set b none) b x = H.set b (some x) := by simp [Hput, hb]

/-- A variable of so many cells. -/
theorem ok_newVar {P : Program} {w : World} {G : Gh} {H : AHeap} (hi : Inv G w H) (elem : TypeId) {v : Value} {x : AV} (hv : R G w v x) (hx : x.okst = true) :
    OkV G w (.ok (.pointer (some ⟨w.heap.size, 0, none⟩)) (w.alloc (.cells v.cells elem))) (.ptr H.length G.clock 0 0) (H ++ [some (.rows G.clock [x.cells])]) := by
  obtain ⟨⟨hlen, hRL⟩, hsing⟩ := hv.cells hx
  have hsize : v.cells.size = x.cells.length := by simpa using hlen
  obtain ⟨i1, e1⟩ := inv_newRows hi v.cells elem x.cells.length [x.cells] (by simp) (by simpa using hsing) (by simp [hsize]) (by
    intro i j row y hri hy
    cases i with
    | succ i => simp at hri
    | zero =>
      simp at hri; subst hri
      obtain ⟨u, hu⟩ := get_ex (l := v.cells.toList) hlen hy
      exact ⟨u, by simpa using hu, hRL j u y hu hy⟩) (Nat.le_refl H.length)
  rw [Hput_new] at i1
  refine ⟨_, _, _, rfl, i1, e1, .ptr _ _ _ _ _ (Nat.lt_succ_self _) fun l hl => ?_⟩
  simp [Gh.own] at hl
  subst hl
  simp

/-! Parts laid into cells. -/
theorem foldl_set (off : Nat) : ∀ (vs : List Value) (k : Nat) (A : Array Value), off + k + vs.length ≤ A.size →
    ((vs.zipIdx k).foldl (fun (cs : Array Value) (p : Value × Nat) => cs.setIfInBounds (off + p.2) p.1) A).toList = A.toList.take (off + k) ++ vs ++ A.toList.drop (off + k + vs.length)
  | [], k, A, h => by simp
  | v :: vs, k, A, h => by
    simp only [List.zipIdx_cons, List.foldl_cons]
    rw [foldl_set off vs (k + 1) _ (by simp at h ⊢; omega)]
    have hlt : off + k < A.toList.length := by simp at h ⊢; omega
    apply List.ext_getElem?
    intro j
    have e1 : off + (k + 1) + vs.length ≤ (A.setIfInBounds (off + k) v).toList.length := by simp at h ⊢; omega
    have e2 : off + k + (v :: vs).length ≤ A.toList.length := by simp at h ⊢; omega
    rw [seg_get _ _ _ _ e1, seg_get _ _ _ _ e2]
    simp only [Array.toList_setIfInBounds, List.length_cons, List.getElem?_set]
    by_cases c1 : j < off + k
    · rw [if_pos (by omega), if_pos c1, if_neg (by omega)]
    · rw [if_neg c1]
      by_cases c2 : j = off + k
      · subst c2; simp; simpa using hlt
      · rw [if_neg (by omega)]
        by_cases c3 : j < off + k + (vs.length + 1)
        · rw [if_pos (by omega), if_pos c3, show j - (off + k) = (j - (off + (k + 1))) + 1 by omega, List.getElem?_cons_succ]
        · rw [if_neg (by omega), if_neg c3, if_neg (by omega)]

def fillA : List AV → List (Nat × Nat × AV) → Option (List AV)
  | cells, [] => some cells
  | cells, (off, size, x) :: rest => if x.cells.length = size ∧ off + size ≤ cells.length ∧ x.okst = true then fillA (wrRow cells off x.cells) rest else none

theorem RL.seg {G : Gh} {w : World} {vs us : List Value} {xs ys : List AV} (h : RL G w vs xs) (k : RL G w us ys) (a : Nat) (hle : a + ys.length ≤ xs.length) :
    RL G w (vs.take a ++ us ++ vs.drop (a + us.length)) (wrRow xs a ys) := by
  have hle' : a + us.length ≤ vs.length := by rw [h.1, k.1]; exact hle
  refine ⟨by rw [seg_length _ _ _ hle', wrRow_length hle, h.1], fun j v x hv hx => ?_⟩
  rw [seg_get _ _ _ _ hle'] at hv
  rw [wrRow_get hle] at hx
  rw [k.1] at hv
  split at hv
  · rename_i c; rw [if_pos c] at hx; exact h.2 j v x hv hx
  · rename_i c
    rw [if_neg c] at hx
    split at hv
    · rename_i c2; rw [if_pos c2] at hx; exact k.2 _ v x hv hx
    · rename_i c2; rw [if_neg c2] at hx; exact h.2 j v x hv hx

/-- Concrete parts and abstract ones, with their places. -/
def RParts (G : Gh) (w : World) (place : Nat → Option (Nat × Nat)) : List (Nat × Value) → List (Nat × Nat × AV) → Prop
  | [], [] => True
  | (i, v) :: r, (off, size, x) :: r' => place i = some (off, size) ∧ R G w v x ∧ RParts G w place r r'
  | _, _ => False

theorem fill_ok {G : Gh} {w : World} {place : Nat → Option (Nat × Nat)} : ∀ {parts : List (Nat × Value)} {aparts : List (Nat × Nat × AV)} {cells : Array Value} {acells cells' : List AV},
    RParts G w place parts aparts → RL G w cells.toList acells → (∀ y ∈ acells, y.single = true) → fillA acells aparts = some cells' →
    ∃ cs, Instr.fill place cells parts = some cs ∧ RL G w cs.toList cells' ∧ ∀ y ∈ cells', y.single = true
  | [], [], cells, acells, cells', _, h, hs, hf => by simp [fillA] at hf; subst hf; exact ⟨cells, rfl, h, hs⟩
  | (i, v) :: r, (off, size, x) :: r', cells, acells, cells', ⟨hp, hR, hr⟩, h, hs, hf => by
    simp only [fillA] at hf
    split at hf
    case isFalse => cases hf
    rename_i hh
    obtain ⟨h1, h2, h3⟩ := hh
    obtain ⟨hRL, hsing⟩ := hR.cells h3
    have hvs : v.cells.size = size := by have := hRL.1; simp at this; omega
    have hcs : cells.size = acells.length := by simpa using h.1
    have hfold := foldl_set off v.cells.toList 0 cells (by simp [hvs, hcs]; omega)
    simp only [Nat.add_zero] at hfold
    have hnext : RL G w (v.cells.zipIdx.foldl (fun (cs : Array Value) (p : Value × Nat) => cs.setIfInBounds (off + p.2) p.1) cells).toList (wrRow acells off x.cells) := by
      have e : (v.cells.zipIdx.foldl (fun (cs : Array Value) (p : Value × Nat) => cs.setIfInBounds (off + p.2) p.1) cells) = (v.cells.toList.zipIdx 0).foldl (fun (cs : Array Value) (p : Value × Nat) => cs.setIfInBounds (off + p.2) p.1) cells := by
        rw [← Array.foldl_toList]; simp
      rw [e, hfold]
      exact h.seg hRL off (by omega)
    obtain ⟨cs, k1, k2, k3⟩ := fill_ok (cells := (v.cells.zipIdx.foldl (fun (cs : Array Value) (p : Value × Nat) => cs.setIfInBounds (off + p.2) p.1) cells)) hr hnext
      (fun y hy => by rcases wrRow_mem hy with a | a; exact hs y a; exact hsing y a) hf
    refine ⟨cs, ?_, k2, k3⟩
    have hno : ¬ (v.cells.size ≠ size ∨ off + v.cells.size > cells.size) := by omega
    simp only [Instr.fill, hp]
    rw [if_neg (by simpa using hno)]
    exact k1
end Go.Proofs.YtjgkfgocgknjjaaDoor.Abs
