/- The abstract machine, part 4: how the world may change, and that all that is known lasts. -/
import Derived.Test.YtjgkfgocgknjjaaDoorA3
set_option linter.unusedVariables false
set_option linter.unusedSimpArgs false
namespace Go.Proofs.YtjgkfgocgknjjaaDoor.Abs
open Go Go.RowKit

structure Free (G : Gh) (w : World) (l : Loc) : Prop where
  holds : Holds G w l
  lone : ∀ b g l', G.at_ b = some (g, l') → l'.blk ≠ l.blk

theorem inv_drew {G : Gh} {w : World} {H : AHeap} (hi : Inv G w H) : Inv G w.drew H ∧ Ext G w G w.drew := by
  have he : Ext G w G w.drew := ⟨rfl, (Below.refl _ _).drew, Nat.le_refl _, fun _ _ h => h, fun _ _ _ => rfl, fun _ _ _ h _ => h⟩
  refine ⟨⟨hi.B, hi.fzlt, fun b g l h => ⟨(hi.ok b g l h).1, (hi.ok b g l h).2.1, (hi.ok b g l h).2.2.B, (hi.ok b g l h).2.2.heap, (hi.ok b g l h).2.2.free⟩, fun b blk hb => ?_, hi.dist, fun n c h => (hi.gl n c h).ext he⟩, he⟩
  obtain ⟨l, hl, hok⟩ := hi.ent b blk hb
  refine ⟨l, hl, ?_⟩
  cases blk with
  | tail => exact hok
  | rows g rs => exact ⟨hok.1, hok.2.1, hok.2.2.1, fun i j row x a b => let ⟨v, hv, hR⟩ := hok.2.2.2 i j row x a b; ⟨v, hv, hR.ext he⟩⟩

def Gh.rm (G : Gh) (b : Nat) : Gh := { G with at_ := fun b' => if b' = b then none else G.at_ b' }
theorem rm_at {G : Gh} {b b' g : Nat} {l : Loc} (h : (G.rm b).at_ b' = some (g, l)) : b' ≠ b ∧ G.at_ b' = some (g, l) := by
  simp only [Gh.rm] at h
  split at h
  · cases h
  · exact ⟨by assumption, h⟩
theorem inv_rm {G : Gh} {w : World} {H : AHeap} (hi : Inv G w H) {b g : Nat} {l : Loc} (hl : G.at_ b = some (g, l)) :
    Inv (G.rm b) w (H.set b none) ∧ Ext G w (G.rm b) w ∧ Free (G.rm b) w l := by
  have he : Ext G w (G.rm b) w := ⟨rfl, Below.refl _ _, Nat.le_refl _, fun _ _ h => h, fun _ _ _ => rfl, fun b' g l' h _ => (rm_at h).2⟩
  refine ⟨⟨hi.B, hi.fzlt, ?_, ?_, ?_, fun n c h => (hi.gl n c h).ext he⟩, he, ⟨(hi.ok b g l hl).2.2.same rfl fun _ h => h, ?_⟩⟩
  · intro b' g' l' h
    obtain ⟨hne, h⟩ := rm_at h
    obtain ⟨a1, a2, a3⟩ := hi.ok b' g' l' h
    exact ⟨a1, by simpa using a2, a3.same rfl fun _ h => h⟩
  · intro b' blk hb
    rw [List.getElem?_set] at hb
    split at hb
    · split at hb <;> cases hb
    · rename_i hne
      obtain ⟨l', hl', hok⟩ := hi.ent b' blk hb
      exact ⟨l', by simp only [Gh.rm]; rw [if_neg (fun e => hne e.symm)]; exact hl', hok.ext he⟩
  · intro b1 b2 g1 g2 l1 l2 hne h1 h2
    exact hi.dist b1 b2 g1 g2 l1 l2 hne (rm_at h1).2 (rm_at h2).2
  · intro b' g' l' h
    obtain ⟨hne, h⟩ := rm_at h
    exact hi.dist b' b g' g l' l hne h hl

theorem BlkOk.ext' {G G' : Gh} {w w' : World} {l : Loc} {x : Blk} (he : Ext G w G' w') (hc : ∀ o, w'.cell? ⟨l.blk, o, none⟩ = w.cell? ⟨l.blk, o, none⟩) (h : BlkOk G w l x) : BlkOk G' w' l x := by
  cases x with
  | tail => exact h
  | rows g rs => exact ⟨h.1, h.2.1, h.2.2.1, fun i j row x a b => let ⟨v, hv, hR⟩ := h.2.2.2 i j row x a b; ⟨v, by rw [hc]; exact hv, hR.ext he⟩⟩

theorem heap_setRow_ne (w : World) (g k : Nat) (cs : Array Value) (h : k ≠ g) : (w.setRow g cs).heap[k]? = w.heap[k]? := setRow_other w g k cs h

theorem inv_wr {G : Gh} {w : World} {H : AHeap} (hi : Inv G w H) {l : Loc} (hf : Free G w l) {cs cs' : Array Value} {elem : TypeId} (hg : w.heap[l.blk]? = some (.cells cs elem (0, 0)))
    (hs : cs'.size = cs.size) (hout : ∀ o, ¬ (l.base ≤ o ∧ o < l.csize) → cs'[o]? = cs[o]?) :
    Inv G (w.setRow l.blk cs') H ∧ Ext G w G (w.setRow l.blk cs') ∧ Free G (w.setRow l.blk cs') l ∧ (w.setRow l.blk cs').heap[l.blk]? = some (.cells cs' elem (0, 0)) := by
  have hnew := setRow_heap w l.blk cs cs' elem (0, 0) hg
  have hsize : (w.setRow l.blk cs').heap.size = w.heap.size := by simp
  have hcell : ∀ a : Addr, a.spot = none → G.fz a.block a.off → (w.setRow l.blk cs').cell? a = w.cell? a := by
    intro a hsp hfz
    by_cases e : a.block = l.blk
    · have hno : ¬ (l.base ≤ a.off ∧ a.off < l.csize) := fun h => hf.holds.free a.off h.1 h.2 (e ▸ hfz)
      unfold World.cell?
      rw [e, hnew, hg]
      simp only [hsp, hout a.off hno]
    · exact World.cell?_of_block (heap_setRow_ne w l.blk a.block cs' e)
  have he : Ext G w G (w.setRow l.blk cs') := by
    refine ⟨rfl, ⟨rfl, rfl, rfl, by rw [hsize]; exact Nat.le_refl _, fun k hk => heap_setRow_ne w _ k _ ?_⟩, Nat.le_refl _, fun _ _ h => h, fun a h1 h2 => hcell a h2 h1, fun _ _ _ h _ => h⟩
    have := hf.holds.B; omega
  have hholds : ∀ l', Holds G w l' → Holds G (w.setRow l.blk cs') l' := by
    intro l' h
    refine ⟨h.B, ?_, h.free⟩
    by_cases e : l'.blk = l.blk
    · obtain ⟨cs0, e0, h1, h2⟩ := h.heap
      rw [e, hg] at h1
      injection h1 with h1; injection h1 with h1 h3
      subst h1
      exact ⟨cs', elem, by rw [e]; exact hnew, by rw [hs]; exact h2⟩
    · rw [heap_setRow_ne w _ _ _ e]; exact h.heap
  refine ⟨⟨by rw [hsize]; exact hi.B, by rw [hsize]; exact hi.fzlt, fun b g l' h => ⟨(hi.ok b g l' h).1, (hi.ok b g l' h).2.1, hholds l' (hi.ok b g l' h).2.2⟩, ?_, hi.dist, fun n c h => (hi.gl n c h).ext he⟩, he, ⟨hholds l hf.holds, hf.lone⟩, hnew⟩
  intro b blk hb
  obtain ⟨l', hl', hok⟩ := hi.ent b blk hb
  exact ⟨l', hl', hok.ext' he fun o => World.cell?_of_block (heap_setRow_ne w _ _ _ (hf.lone b _ l' hl'))⟩

/-- More is frozen: the begin of a free row. -/
def Gh.more (G : Gh) (l : Loc) (k : Nat) : Gh := { G with fz := fun b o => G.fz b o ∨ (b = l.blk ∧ l.base ≤ o ∧ o < k) }
theorem inv_more {G : Gh} {w : World} {H : AHeap} (hi : Inv G w H) {l : Loc} (hf : Free G w l) {k : Nat} (hk : l.base ≤ k) :
    Inv (G.more l k) w H ∧ Ext G w (G.more l k) w ∧ Free (G.more l k) w { l with base := k } := by
  have he : Ext G w (G.more l k) w := ⟨rfl, Below.refl _ _, Nat.le_refl _, fun _ _ h => .inl h, fun _ _ _ => rfl, fun _ _ _ h _ => h⟩
  refine ⟨⟨hi.B, ?_, ?_, ?_, hi.dist, fun n c h => (hi.gl n c h).ext he⟩, he, ⟨⟨hf.holds.B, hf.holds.heap, ?_⟩, hf.lone⟩⟩
  · rintro b o (h | ⟨rfl, _⟩)
    · exact hi.fzlt b o h
    · exact block_lt hf.holds
  · intro b g l' h
    obtain ⟨a1, a2, a3⟩ := hi.ok b g l' h
    refine ⟨a1, a2, a3.same rfl ?_⟩
    rintro o (h1 | ⟨h1, _⟩)
    · exact h1
    · exact absurd h1 (hf.lone b g l' h)
  · intro b blk hb
    obtain ⟨l', hl', hok⟩ := hi.ent b blk hb
    exact ⟨l', hl', hok.ext he⟩
  · rintro o h1 h2 (h | ⟨_, h3, h4⟩)
    · exact hf.holds.free o (Nat.le_trans hk h1) h2 h
    · simp at h1; omega

theorem inv_alloc {G : Gh} {w : World} {H : AHeap} (hi : Inv G w H) (cs : Array Value) (elem : TypeId) (sz : Nat) :
    Inv G (w.alloc (.cells cs elem)) H ∧ Ext G w G (w.alloc (.cells cs elem)) ∧ Free G (w.alloc (.cells cs elem)) ⟨w.heap.size, 0, sz, cs.size⟩ ∧
      (w.alloc (.cells cs elem)).heap[w.heap.size]? = some (.cells cs elem (0, 0)) := by
  have hnew := heap_alloc_new w (.cells cs elem)
  have hold : ∀ k, k < w.heap.size → (w.alloc (.cells cs elem)).heap[k]? = w.heap[k]? := fun k hk => Below.heap_alloc w _ k hk
  have he : Ext G w G (w.alloc (.cells cs elem)) := by
    refine ⟨rfl, (Below.refl _ _).alloc hi.B _, Nat.le_refl _, fun _ _ h => h, fun a h1 h2 => World.cell?_of_block (hold _ (hi.fzlt _ _ h1)), fun _ _ _ h _ => h⟩
  refine ⟨⟨by simp; have := hi.B; omega, fun k o h => by have := hi.fzlt k o h; simp; omega, ?_, ?_, hi.dist, fun n c h => (hi.gl n c h).ext he⟩, he, ⟨⟨hi.B, ⟨cs, elem, hnew, Nat.le_refl _⟩, fun o _ _ h => absurd (hi.fzlt _ _ h) (by simp)⟩, ?_⟩, hnew⟩
  · intro b g l h
    obtain ⟨a1, a2, a3⟩ := hi.ok b g l h
    exact ⟨a1, a2, a3.B, by rw [hold _ (block_lt a3)]; exact a3.heap, a3.free⟩
  · intro b blk hb
    obtain ⟨l, hl, hok⟩ := hi.ent b blk hb
    exact ⟨l, hl, hok.ext' he fun o => World.cell?_of_block (hold _ (block_lt (hi.ok b _ l hl).2.2))⟩
  · intro b g l h
    have := block_lt (hi.ok b g l h).2.2
    simp; omega

def Hput (H : AHeap) (b : Nat) (x : Blk) : AHeap := if b < H.length then H.set b (some x) else H ++ [some x]
def Gh.own (G : Gh) (b : Nat) (l : Loc) : Gh := { G with at_ := fun b' => if b' = b then some (G.clock, l) else G.at_ b', clock := G.clock + 1 }
theorem own_at {G : Gh} {b b' g : Nat} {l l' : Loc} (h : (G.own b l).at_ b' = some (g, l')) : (b' = b ∧ g = G.clock ∧ l' = l) ∨ (b' ≠ b ∧ G.at_ b' = some (g, l')) := by
  simp only [Gh.own] at h
  split at h
  · rename_i e; cases h; exact .inl ⟨e, rfl, rfl⟩
  · exact .inr ⟨by assumption, h⟩
theorem ext_own {G : Gh} {w : World} {b : Nat} {l : Loc} : Ext G w (G.own b l) w :=
  ⟨rfl, Below.refl _ _, Nat.le_succ _, fun _ _ h => h, fun _ _ _ => rfl, fun b' g l' h hg => by
    rcases own_at h with ⟨_, rfl, _⟩ | ⟨_, h⟩
    · omega
    · exact h⟩
theorem Hput_get {H : AHeap} {b b' : Nat} {x y : Blk} (hb : b ≤ H.length) (h : (Hput H b x)[b']? = some (some y)) : (b' = b ∧ y = x) ∨ (b' ≠ b ∧ H[b']? = some (some y)) := by
  unfold Hput at h
  split at h
  · rename_i hlt
    rw [List.getElem?_set] at h
    split at h
    · rename_i e; exact .inl ⟨e.symm, by simpa using h.symm⟩
    · rename_i e; exact .inr ⟨fun k => e k.symm, h⟩
  · have e : b = H.length := by omega
    subst e
    by_cases hk : b' < H.length
    · rw [List.getElem?_append_left hk] at h; exact .inr ⟨by omega, h⟩
    · rw [List.getElem?_append_right (by omega)] at h
      by_cases hz : b' - H.length = 0
      · rw [hz] at h; simp at h; exact .inl ⟨by omega, h.symm⟩
      · rw [List.getElem?_eq_none (by simp; omega)] at h; cases h
theorem Hput_length {H : AHeap} {b : Nat} {x : Blk} : H.length ≤ (Hput H b x).length := by unfold Hput; split <;> simp
theorem Hput_lt {H : AHeap} {b : Nat} {x : Blk} (hb : b ≤ H.length) : b < (Hput H b x).length := by unfold Hput; split <;> simp <;> omega
theorem inv_own {G : Gh} {w : World} {H : AHeap} (hi : Inv G w H) {l : Loc} (hf : Free G w l) {b : Nat} (hb : b ≤ H.length) {x : Blk} (hx : x.g = G.clock) (hok : BlkOk G w l x) :
    Inv (G.own b l) w (Hput H b x) := by
  refine ⟨hi.B, hi.fzlt, ?_, ?_, ?_, fun n c h => (hi.gl n c h).ext ext_own⟩
  · intro b' g l' h
    rcases own_at h with ⟨rfl, rfl, rfl⟩ | ⟨hne, h⟩
    · exact ⟨Nat.lt_succ_self _, Hput_lt hb, hf.holds.same rfl fun _ h => h⟩
    · obtain ⟨a1, a2, a3⟩ := hi.ok b' g l' h
      exact ⟨Nat.lt_succ_of_lt a1, Nat.lt_of_lt_of_le a2 Hput_length, a3.same rfl fun _ h => h⟩
  · intro b' blk h
    rcases Hput_get hb h with ⟨rfl, rfl⟩ | ⟨hne, h⟩
    · exact ⟨l, by simp [Gh.own, hx], hok.ext ext_own⟩
    · obtain ⟨l', hl', hk⟩ := hi.ent b' blk h
      exact ⟨l', by simp only [Gh.own]; rw [if_neg hne]; exact hl', hk.ext ext_own⟩
  · intro b1 b2 g1 g2 l1 l2 hne h1 h2
    rcases own_at h1 with ⟨e1, _, e1'⟩ | ⟨n1, k1⟩ <;> rcases own_at h2 with ⟨e2, _, e2'⟩ | ⟨n2, k2⟩
    · exact absurd (e1.trans e2.symm) hne
    · rw [e1']; exact fun e => hf.lone b2 g2 l2 k2 e.symm
    · rw [e2']; exact hf.lone b1 g1 l1 k1
    · exact hi.dist b1 b2 g1 g2 l1 l2 hne k1 k2
/-- A row that is owned is written to. -/
theorem inv_store {G : Gh} {w : World} {H : AHeap} (hi : Inv G w H) {b g : Nat} {l : Loc} (hl : G.at_ b = some (g, l)) {cs cs' : Array Value} {elem : TypeId} (hg : w.heap[l.blk]? = some (.cells cs elem (0, 0)))
    (hs : cs'.size = cs.size) (hout : ∀ o, ¬ (l.base ≤ o ∧ o < l.csize) → cs'[o]? = cs[o]?) :
    Ext G w G (w.setRow l.blk cs') ∧ (w.setRow l.blk cs').heap[l.blk]? = some (.cells cs' elem (0, 0)) ∧
    ∀ rs' : List (List AV), BlkOk G (w.setRow l.blk cs') l (.rows g rs') → Inv G (w.setRow l.blk cs') (H.set b (some (.rows g rs'))) := by
  obtain ⟨i1, e1, f1⟩ := inv_rm hi hl
  obtain ⟨i2, e2, f2, hnew⟩ := inv_wr i1 f1 hg hs hout
  have hsize : (w.setRow l.blk cs').heap.size = w.heap.size := by simp
  have he : Ext G w G (w.setRow l.blk cs') := ⟨rfl, e2.below, Nat.le_refl _, fun _ _ h => h, e2.keep, fun _ _ _ h _ => h⟩
  have hdist : ∀ b' g' l', b' ≠ b → G.at_ b' = some (g', l') → l'.blk ≠ l.blk := fun b' g' l' hne h => hi.dist b' b g' g l' l hne h hl
  refine ⟨he, hnew, fun rs' hok => ⟨i2.B, i2.fzlt, ?_, ?_, hi.dist, fun n c h => (hi.gl n c h).ext he⟩⟩
  · intro b' g' l' h
    obtain ⟨a1, a2, a3⟩ := hi.ok b' g' l' h
    refine ⟨a1, by simpa using a2, a3.B, ?_, a3.free⟩
    by_cases e : b' = b
    · subst e
      rw [hl] at h; cases h
      obtain ⟨cs0, e0, h1, h2⟩ := a3.heap
      rw [hg] at h1
      injection h1 with h1; injection h1 with h1 h3
      subst h1
      exact ⟨cs', elem, hnew, by rw [hs]; exact h2⟩
    · rw [heap_setRow_ne w _ _ _ (hdist b' g' l' e h)]; exact a3.heap
  · intro b' blk h
    rw [List.getElem?_set] at h
    split at h
    · rename_i e; subst e
      split at h
      · have e2 : blk = .rows g rs' := by simpa using h.symm
        subst e2; exact ⟨l, hl, hok⟩
      · cases h
    · rename_i hne
      obtain ⟨l', hl', hk⟩ := hi.ent b' blk h
      exact ⟨l', hl', hk.ext' he fun o => World.cell?_of_block (heap_setRow_ne w _ _ _ (hdist b' _ l' (fun e => hne e.symm) hl'))⟩
end Go.Proofs.YtjgkfgocgknjjaaDoor.Abs
