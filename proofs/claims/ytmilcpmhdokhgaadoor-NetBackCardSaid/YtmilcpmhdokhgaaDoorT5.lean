/- The network of a network's expression is it: in plain words. -/
import Derived.Test.YtmilcpmhdokhgaaDoorT4
set_option linter.unusedVariables false
set_option linter.unusedSimpArgs false
namespace Go.Proofs.YtmilcpmhdokhgaaDoor
open Go Go.RowKit Go.Proofs.YtmilcpmhdokhgaaDoor.Abs

theorem bin_two {m : Int} (hm : m = 14 ∨ m = 15) (a b : Ex) : (Ex.bin m a b).isTwo [14, 15] = true ∧ (Ex.bin m a b).isOne = false := by
  rcases hm with rfl | rfl <;> simp [Ex.bin, Ex.isTwo, Ex.isOne]
theorem bin_nf {s : Sc} {m : Int} (hm : m = 14 ∨ m = 15) (a b : Ex) : (Ex.bin m a b).nf s = (a.nf s && b.nf s) := by
  obtain ⟨h1, h2⟩ := bin_two hm a b
  rw [Ex.nf_eq, h1, h2]; simp [Ex.bin]
theorem bin_norm {m : Int} (hm : m = 14 ∨ m = 15) (a b : Ex) : (Ex.bin m a b).norm false = Ex.bin m (a.norm false) (b.norm false) := by
  obtain ⟨h1, h2⟩ := bin_two hm a b
  rw [Ex.norm_eq, normN, h1, h2]; simp [Ex.bin]
theorem bin_many {m : Int} (hm : m = 14 ∨ m = 15) (a b : Ex) : (Ex.bin m a b).many = clamp (a.many + b.many) := by
  rw [Ex.many_eq]
  have hd : (Ex.bin m a b).dbl = false := by rcases hm with rfl | rfl <;> simp [Ex.bin, Ex.dbl]
  rw [hd]; simp [Ex.bin]
theorem bin_okN (m : Int) (a b : Ex) : (Ex.bin m a b).okN = (a.okN && b.okN) := by rw [Ex.okN_eq]; simp [Ex.bin]
theorem bin_wf {m : Int} (hm : m = 14 ∨ m = 15) {a b : Ex} (ha : a.wf) (hb : b.wf) : (Ex.bin m a b).wf := by
  rcases hm with rfl | rfl <;> simp [Ex.bin, Ex.wf, Ex.wfL, I64, ha, hb]
theorem neg_leaf_one {s : Sc} {e : Ex} (h : e.leaf s = true) : e.neg.isOne = true := by simp [Ex.neg, Ex.isOne]
theorem clamp_add (a b : Int) (ha : 0 ≤ a) (hb : 0 ≤ b) : clamp (clamp a + clamp b) = clamp (a + b) := by unfold clamp; (repeat' split) <;> omega
/-- What a normal form of so many literals is like. -/
structure NF (s : Sc) (e : Ex) (n : Int) : Prop where
  nf : e.nf s = true
  norm : e.norm false = e
  many : e.many = clamp n
  ok : e.okN = true
  pos : 0 ≤ n
theorem NF.bin {s : Sc} {m : Int} (hm : m = 14 ∨ m = 15) {a b : Ex} {p q : Int} (ha : NF s a p) (hb : NF s b q) : NF s (Ex.bin m a b) (p + q) :=
  ⟨by rw [bin_nf hm, ha.nf, hb.nf]; rfl, by rw [bin_norm hm, ha.norm, hb.norm], by rw [bin_many hm, ha.many, hb.many, clamp_add _ _ ha.pos hb.pos], by rw [bin_okN, ha.ok, hb.ok]; rfl, by have := ha.pos; have := hb.pos; omega⟩
theorem NF.fold {s : Sc} {m : Int} (hm : m = 14 ∨ m = 15) : ∀ {l : List Nt} {a : Ex} {p : Int}, NF s a p → (∀ y ∈ l, NF s y.ex y.con) → NF s (foldB m a (l.map Nt.ex)) (p + (l.map Nt.con).sum)
  | [], a, p, ha, _ => by simpa [foldB] using ha
  | y :: r, a, p, ha, h => by
    have := NF.fold hm (l := r) (ha.bin hm (h y (by simp))) fun z hz => h z (by simp [hz])
    simp only [foldB, List.map_cons, List.foldl_cons, List.sum_cons] at this ⊢
    rw [show p + (y.con + (r.map Nt.con).sum) = p + y.con + (r.map Nt.con).sum by omega]
    exact this
theorem clamp_one : clamp 1 = 1 := rfl
theorem Nt.ex_nf (s : Sc) (x : Nt) : x.right s = true → NF s x.ex x.con := by
  refine Nt.sized (p := fun x => x.right s = true → NF s x.ex x.con) ?_ x
  intro x ih h
  rw [Nt.ex_eq, Nt.con_eq]
  by_cases h1 : x.kind = 1
  · obtain ⟨hl, hlf, hn⟩ := Nt.right_one h h1
    rw [if_pos (.inl h1), if_pos h1]
    have hL := Ex.leaf_l hlf
    obtain ⟨h6, h7⟩ := leaf_op hlf
    have n1 : x.e.nf s = true := by rw [Ex.nf_eq]; simp [Ex.leaf_one hlf, Ex.leaf_two hlf, hlf]
    have m1 : x.e.many = 1 := by
      have hd : x.e.dbl = false := by simp [Ex.dbl, h7]
      rw [Ex.many_eq]; simp [hL, hd, clamp]
    rcases hn with hn | ⟨hn, ho⟩
    · rw [if_neg (by omega)]
      refine ⟨n1, ?_, by rw [m1]; rfl, by rw [Ex.okN_eq]; simp [h6, h7], by omega⟩
      rw [Ex.norm_eq, normN]; simp [Ex.leaf_one hlf, Ex.leaf_two hlf]
    · rw [if_pos hn]
      have hone : x.e.neg.isOne = true := neg_leaf_one hlf
      refine ⟨?_, ?_, ?_, ?_, by omega⟩
      · rw [Ex.nf_eq, if_pos hone]; simp [Ex.neg, ho, hlf]
      · rw [Ex.norm_eq, normN, if_pos hone]
        have : x.e.norm true = x.e.neg := by rw [Ex.norm_eq, normN]; simp [Ex.leaf_one hlf, Ex.leaf_two hlf, ho]
        simp [Ex.neg] at this ⊢
        exact this
      · have hd : x.e.neg.dbl = false := by simp [Ex.dbl, Ex.neg]
        rw [Ex.many_eq, hd]; simp [Ex.neg, m1]
      · rw [Ex.okN_eq]; simp [Ex.neg]
  · obtain ⟨hk23, hn, hz, hl2, hkids⟩ := Nt.right_many h h1
    rw [if_neg (by omega), if_neg h1]
    obtain ⟨y, r, hL⟩ : ∃ y r, x.l = y :: r := by
      cases hL : x.l with
      | nil => rw [hL] at hl2; simp at hl2
      | cons y r => exact ⟨y, r, rfl⟩
    have hop : x.op = 14 ∨ x.op = 15 := by rcases hk23 with h | h <;> simp [Nt.op, h]
    have hall : ∀ z ∈ x.l, NF s z.ex z.con := by
      intro z hz
      obtain ⟨i, hi, rfl⟩ := List.mem_iff_getElem.1 hz
      exact ih i hi (hkids _ (List.getElem_mem hi)).2
    rw [hL] at hall ⊢
    have := NF.fold hop (l := r) (hall y (by simp)) fun z hz => hall z (by simp [hz])
    simpa using this
theorem net_fold {k m : Int} (hm : (m = 14 ∧ k = 2) ∨ (m = 15 ∧ k = 3)) : ∀ {l : List Nt} {a : Ex} {L : List Nt}, a.net = .mk k 0 Ex.zero L → (∀ y ∈ l, y.kind ≠ k ∧ y.ex.net = y) → (foldB m a (l.map Nt.ex)).net = .mk k 0 Ex.zero (L ++ l)
  | [], a, L, ha, _ => by simpa [foldB] using ha
  | y :: r, a, L, ha, h => by
    obtain ⟨h1, h2⟩ := h y (by simp)
    have hb : (Ex.bin m a y.ex).net = .mk k 0 Ex.zero (L ++ [y]) := by
      rw [Ex.net_eq, ofN]
      rcases hm with ⟨rfl, rfl⟩ | ⟨rfl, rfl⟩ <;> simp [Ex.bin, joinN, ha, h2, Nt.flat, h1]
    have := net_fold hm (l := r) hb fun z hz => h z (by simp [hz])
    simp only [foldB, List.map_cons, List.foldl_cons] at this ⊢
    rw [this]; simp
/-- The network of a network's expression. -/
theorem Nt.ex_net (s : Sc) (x : Nt) : x.right s = true → x.ex.net = x := by
  refine Nt.sized (p := fun x => x.right s = true → x.ex.net = x) ?_ x
  intro x ih h
  rw [Nt.ex_eq]
  by_cases h1 : x.kind = 1
  · obtain ⟨hl, hlf, hn⟩ := Nt.right_one h h1
    rw [if_pos (.inl h1)]
    have hL := Ex.leaf_l hlf
    obtain ⟨h6, h7⟩ := leaf_op hlf
    obtain ⟨kd, ng, e, l⟩ := x
    simp only [Nt.mk_kind, Nt.mk_neg, Nt.mk_e, Nt.mk_l] at *
    subst h1; subst hl
    rcases hn with rfl | ⟨rfl, ho⟩
    · rw [Ex.net_eq, ofN]; simp [h6, h7]
    · rw [Ex.net_eq, ofN]; simp [Ex.neg]
  · obtain ⟨hk23, hn, hz, hl2, hkids⟩ := Nt.right_many h h1
    rw [if_neg (by omega)]
    have hall : ∀ z ∈ x.l, z.kind ≠ x.kind ∧ z.ex.net = z := by
      intro z hz
      obtain ⟨i, hi, rfl⟩ := List.mem_iff_getElem.1 hz
      have := hkids _ (List.getElem_mem hi)
      exact ⟨this.1, ih i hi this.2⟩
    obtain ⟨kd, ng, e, l⟩ := x
    simp only [Nt.mk_kind, Nt.mk_neg, Nt.mk_e, Nt.mk_l] at *
    subst hn; subst hz
    match l, hl2 with
    | y :: z :: r, _ =>
      have hm : ((Nt.mk kd 0 Ex.zero (y :: z :: r)).op = 14 ∧ kd = 2) ∨ ((Nt.mk kd 0 Ex.zero (y :: z :: r)).op = 15 ∧ kd = 3) := by
        rcases hk23 with h | h <;> simp [Nt.op, h]
      have hy := hall y (by simp)
      have hz := hall z (by simp)
      have hb : (Ex.bin (Nt.mk kd 0 Ex.zero (y :: z :: r)).op y.ex z.ex).net = .mk kd 0 Ex.zero [y, z] := by
        rw [Ex.net_eq, ofN]
        rcases hm with ⟨h1, h2⟩ | ⟨h1, h2⟩ <;> (rw [h1]; subst h2; simp [Ex.bin, joinN, hy.2, hz.2, Nt.flat, hy.1, hz.1])
      have := net_fold hm (l := r) hb fun q hq => hall q (by simp [hq])
      simpa [foldB] using this
theorem bin_sizeE (m : Int) (a b : Ex) : (Ex.bin m a b).size = 1 + a.size + b.size := by simp [Ex.bin, Ex.size, Ex.sizeL]; omega
theorem fold_size (m : Int) : ∀ (l : List Nt) (a : Ex), (∀ y ∈ l, y.ex.size + 1 ≤ 2 * y.size) → (foldB m a (l.map Nt.ex)).size ≤ a.size + 2 * Nt.sizeL l
  | [], a, _ => by simp [foldB, Nt.sizeL]
  | y :: r, a, h => by
    have h1 := h y (by simp)
    have := fold_size m r (Ex.bin m a y.ex) fun z hz => h z (by simp [hz])
    rw [bin_sizeE] at this
    simp only [foldB, List.map_cons, List.foldl_cons, Nt.sizeL] at this ⊢
    omega
theorem Nt.ex_size (x : Nt) : x.ex.size + 1 ≤ 2 * x.size := by
  refine Nt.sized (p := fun x => x.ex.size + 1 ≤ 2 * x.size) ?_ x
  intro x ih
  have hsz := Nt.size_eq x
  have hpos := x.e.size_pos
  have hneg : x.e.neg.size = 1 + x.e.size := by simp [Ex.neg, Ex.size, Ex.sizeL]
  rw [Nt.ex_eq]
  split
  · split <;> omega
  · have hall : ∀ z ∈ x.l, z.ex.size + 1 ≤ 2 * z.size := by
      intro z hz
      obtain ⟨i, hi, rfl⟩ := List.mem_iff_getElem.1 hz
      exact ih i hi
    cases hL : x.l with
    | nil => simp_all
    | cons y r =>
      rw [hL] at hall hsz
      have h1 := hall y (by simp)
      have := fold_size x.op r y.ex fun z hz => hall z (by simp [hz])
      simp [Nt.sizeL] at hsz ⊢
      omega
theorem fold_wf {m : Int} (hm : m = 14 ∨ m = 15) : ∀ {l : List Nt} {a : Ex}, a.wf → (∀ y ∈ l, y.ex.wf) → (foldB m a (l.map Nt.ex)).wf
  | [], a, ha, _ => ha
  | y :: r, a, ha, h => by
    have := fold_wf hm (l := r) (bin_wf hm ha (h y (by simp))) fun z hz => h z (by simp [hz])
    simpa only [foldB, List.map_cons, List.foldl_cons] using this
theorem Nt.ex_wf (x : Nt) : x.wf → x.ex.wf := by
  refine Nt.sized (p := fun x => x.wf → x.ex.wf) ?_ x
  intro x ih hw
  rw [Nt.wf_eq] at hw
  obtain ⟨_, _, he, hl⟩ := hw
  have hneg : x.e.neg.wf := by simp [Ex.neg, Ex.wf, Ex.wfL, I64, he]
  have hop : x.op = 14 ∨ x.op = 15 := by unfold Nt.op; split <;> simp
  rw [Nt.ex_eq]
  split
  · split
    · exact hneg
    · exact he
  · have hall : ∀ z ∈ x.l, z.ex.wf := by
      intro z hz
      obtain ⟨i, hi, rfl⟩ := List.mem_iff_getElem.1 hz
      exact ih i hi (Nt.wf_mem hi hl)
    cases hL : x.l with
    | nil => simpa [foldB] using he
    | cons y r =>
      rw [hL] at hall
      simpa using fold_wf hop (l := r) (hall y (by simp)) fun z hz => hall z (by simp [hz])

set_option maxRecDepth 20000 in
theorem net_from (s : Sc) (e : Ex) (he : e.size < 90000) (hw : e.wf) (hc : e.cnt s ≤ 24) (hn : (e.norm false).size < 90000) (hok : (e.norm false).okN = true) : PCall Tryd.prog 28 [.agg s.cells, .agg e.cells] (.tup [.agg (e.norm false).net.cells, .bool true]) := by
  refine pcall_fn Code.ok28 (by simp [Code.f28]) fun H => ?_
  simp [Code.f28]
  intro g1 g2 g3
  refine CallK.pure (nnf_Norm s e (by omega) hw) ?_
  simp [hc]
  intro g4
  refine CallK.pure (net_of _ (Nat.le_refl _) (e.norm false) (by omega) hok) ?_
  simp
  exact vshift_drop (.refl _) (.front _ _)
end Go.Proofs.YtmilcpmhdokhgaaDoor
