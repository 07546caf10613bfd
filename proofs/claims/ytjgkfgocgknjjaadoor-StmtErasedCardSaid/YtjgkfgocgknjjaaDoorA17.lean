/- The abstract machine, part 17: slices that are appended to. -/
import Derived.Test.YtjgkfgocgknjjaaDoorA16
set_option linter.unusedVariables false
set_option linter.unusedSimpArgs false
namespace Go.Proofs.YtjgkfgocgknjjaaDoor.Abs
open Go Go.RowKit

/-! Weakening, part by part. -/
theorem wkn_trans {x y z : AV} (h : Wkn x y) (k : Wkn y z) : Wkn x z := by
  induction h generalizing z with
  | refl => exact k
  | sl o o' rows rows' ho hl hr h ih =>
    cases k with
    | refl => exact .sl o o' rows rows' ho hl hr h
    | sl _ o2 _ rows2 ho2 hl2 hr2 h2 =>
      refine .sl o o2 rows rows2 ?_ (hl.trans hl2) ?_ ?_
      · rcases ho2 with rfl | rfl
        · exact .inl rfl
        · exact ho
      · intro i a c ha hc
        obtain ⟨m, hm⟩ := get_ex hl2 hc
        exact (hr i a m ha hm).trans (hr2 i m c hm hc)
      · intro i j a c x y ha hc hx hy
        obtain ⟨m, hm⟩ := get_ex hl2 hc
        obtain ⟨u, hu⟩ := get_ex (hr2 i m c hm hc) hy
        exact ih i j a m x u ha hm hx hu (h2 i j m c u y hm hc hu hy)
  | agg l m hl h ih =>
    cases k with
    | refl => exact .agg l m hl h
    | agg _ r hl2 h2 =>
      refine .agg l r (hl.trans hl2) ?_
      intro j x y hx hy
      obtain ⟨u, hu⟩ := get_ex hl2 hy
      exact ih j x u hx hu (h2 j u y hu hy)
def WkL : List AV → List AV → Prop
  | [], [] => True
  | a :: l, b :: m => Wkn a b ∧ WkL l m
  | _, _ => False
@[simp] theorem WkL_nil : WkL [] [] = True := eqv rfl
@[simp] theorem WkL_cons (a b : AV) (l m : List AV) : WkL (a :: l) (b :: m) = (Wkn a b ∧ WkL l m) := eqv rfl
theorem WkL.refl : ∀ l, WkL l l
  | [] => trivial
  | a :: l => ⟨.refl a, WkL.refl l⟩
@[simp] theorem WkL_refl (l : List AV) : WkL l l := .refl l
theorem WkL.len : ∀ {l m : List AV}, WkL l m → l.length = m.length
  | [], [], _ => rfl
  | a :: l, b :: m, h => by simp [WkL.len h.2]
  | [], _ :: _, h => h.elim
  | _ :: _, [], h => h.elim
theorem WkL.get : ∀ {l m : List AV}, WkL l m → ∀ (j : Nat) (x y : AV), l[j]? = some x → m[j]? = some y → Wkn x y
  | [], [], _, j, x, y, h, _ => by simp at h
  | a :: l, b :: m, w, 0, x, y, h, k => by simp at h k; subst h; subst k; exact w.1
  | a :: l, b :: m, w, j + 1, x, y, h, k => WkL.get w.2 j x y (by simpa using h) (by simpa using k)
  | [], _ :: _, w, _, _, _, _, _ => w.elim
  | _ :: _, [], w, _, _, _, _, _ => w.elim
theorem wkn_agg {l m : List AV} (h : WkL l m) : Wkn (.agg l) (.agg m) := .agg l m h.len h.get
def WkR : List (List AV) → List (List AV) → Prop
  | [], [] => True
  | a :: l, b :: m => WkL a b ∧ WkR l m
  | _, _ => False
@[simp] theorem WkR_nil : WkR [] [] = True := eqv rfl
@[simp] theorem WkR_cons (a b : List AV) (l m : List (List AV)) : WkR (a :: l) (b :: m) = (WkL a b ∧ WkR l m) := eqv rfl
theorem WkR.refl : ∀ l, WkR l l
  | [] => trivial
  | a :: l => ⟨.refl a, WkR.refl l⟩
@[simp] theorem WkR_refl (l : List (List AV)) : WkR l l := .refl l
theorem WkR.app : ∀ {l m l' m' : List (List AV)}, WkR l m → WkR l' m' → WkR (l ++ l') (m ++ m')
  | [], [], _, _, _, k => k
  | a :: l, b :: m, _, _, h, k => ⟨h.1, WkR.app h.2 k⟩
  | [], _ :: _, _, _, h, _ => h.elim
  | _ :: _, [], _, _, h, _ => h.elim
theorem WkR.snoc (l : List (List AV)) {a b : List AV} (h : WkL a b) : WkR (l ++ [a]) (l ++ [b]) := .app (.refl l) ⟨h, trivial⟩
theorem WkR.len : ∀ {l m : List (List AV)}, WkR l m → l.length = m.length
  | [], [], _ => rfl
  | a :: l, b :: m, h => by simp [WkR.len h.2]
  | [], _ :: _, h => h.elim
  | _ :: _, [], h => h.elim
theorem WkR.get : ∀ {l m : List (List AV)}, WkR l m → ∀ (j : Nat) (x y : List AV), l[j]? = some x → m[j]? = some y → WkL x y
  | [], [], _, j, x, y, h, _ => by simp at h
  | a :: l, b :: m, w, 0, x, y, h, k => by simp at h k; subst h; subst k; exact w.1
  | a :: l, b :: m, w, j + 1, x, y, h, k => WkR.get w.2 j x y (by simpa using h) (by simpa using k)
  | [], _ :: _, w, _, _, _, _, _ => w.elim
  | _ :: _, [], w, _, _, _, _, _ => w.elim
theorem wkn_rows {o : Own} {l m : List (List AV)} (h : WkR l m) : Wkn (.sl o l) (.sl o m) :=
  .sl o o l m (.inr rfl) h.len (fun i a b x y => (h.get i a b x y).len) fun i j a b x y c d e f => (h.get i a b c d).get j x y e f
theorem wkn_rows_no {o : Own} {l m : List (List AV)} (h : WkR l m) : Wkn (.sl o l) (.sl .no m) :=
  .sl o .no l m (.inl rfl) h.len (fun i a b x y => (h.get i a b x y).len) fun i j a b x y c d e f => (h.get i a b c d).get j x y e f
theorem WkL.of : ∀ {l m : List AV}, l.length = m.length → (∀ (j : Nat) (x y : AV), l[j]? = some x → m[j]? = some y → Wkn x y) → WkL l m
  | [], [], _, _ => trivial
  | a :: l, b :: m, hl, h => ⟨h 0 a b rfl rfl, WkL.of (by simpa using hl) fun j x y hx hy => h (j + 1) x y (by simpa using hx) (by simpa using hy)⟩
  | [], _ :: _, hl, _ => by simp at hl
  | _ :: _, [], hl, _ => by simp at hl
theorem WkR.of : ∀ {l m : List (List AV)}, l.length = m.length → (∀ (j : Nat) (x y : List AV), l[j]? = some x → m[j]? = some y → WkL x y) → WkR l m
  | [], [], _, _ => trivial
  | a :: l, b :: m, hl, h => ⟨h 0 a b rfl rfl, WkR.of (by simpa using hl) fun j x y hx hy => h (j + 1) x y (by simpa using hx) (by simpa using hy)⟩
  | [], _ :: _, hl, _ => by simp at hl
  | _ :: _, [], hl, _ => by simp at hl
@[simp] theorem wkn_no_iff {o : Own} {l m : List (List AV)} : Wkn (.sl o l) (.sl .no m) ↔ WkR l m := by
  constructor
  · intro h
    cases h with
    | refl => exact WkR.refl _
    | sl _ _ _ _ ho hl hr h => exact WkR.of hl fun i x y hx hy => WkL.of (hr i x y hx hy) fun j a b ha hb => h i j x y a b hx hy ha hb
  · exact wkn_rows_no
@[simp] theorem wkn_agg_iff {l m : List AV} : Wkn (.agg l) (.agg m) ↔ WkL l m := by
  constructor
  · intro h
    cases h with
    | refl => exact WkL.refl _
    | agg _ _ hl h => exact WkL.of hl h
  · exact wkn_agg
theorem bw_rows {g : Nat} {l m : List (List AV)} (h : WkR l m) : BW (.rows g l) (.rows g m) :=
  .rows g l m h.len (fun i a b x y => (h.get i a b x y).len) fun i j a b x y c d e f => (h.get i a b c d).get j x y e f

/-- The end of a heap, entry by entry. -/
def HWL : AHeap → AHeap → Prop
  | _, [] => True
  | l, none :: r => HWL l.tail r
  | some b :: l, some b' :: r => BW b b' ∧ HWL l r
  | _, _ => False
@[simp] theorem HWL_nil (l : AHeap) : HWL l [] = True := eqv (by cases l <;> rfl)
@[simp] theorem HWL_none (l r : AHeap) : HWL l (none :: r) = HWL l.tail r := eqv (by cases l <;> rfl)
@[simp] theorem HWL_some (b b' : Blk) (l r : AHeap) : HWL (some b :: l) (some b' :: r) = (BW b b' ∧ HWL l r) := eqv rfl
@[simp] theorem bw_refl (b : Blk) : BW b b := .refl b
theorem hwl_wk : ∀ {l r : AHeap}, HWL l r → HWk l r
  | l, [], _ => fun b blk h => by simp at h
  | l, none :: r, h => fun b blk k => by
    rw [HWL_none] at h
    cases b with
    | zero => simp at k
    | succ b =>
      obtain ⟨x, hx, hb⟩ := hwl_wk h b blk (by simpa using k)
      exact ⟨x, by rw [List.getElem?_tail] at hx; exact hx, hb⟩
  | [], some _ :: _, h => by simp [HWL] at h
  | none :: _, some _ :: _, h => by simp [HWL] at h
  | some b0 :: l, some b1 :: r, h => fun b blk k => by
    cases b with
    | zero => simp at k; subst k; exact ⟨b0, by simp, h.1⟩
    | succ b => obtain ⟨x, hx, hb⟩ := hwl_wk h.2 b blk (by simpa using k); exact ⟨x, by simpa using hx, hb⟩
theorem HWk.app {A l r : AHeap} (h : HWk l r) : HWk (A ++ l) (A ++ r) := fun b blk k => by
  by_cases c : b < A.length
  · rw [List.getElem?_append_left c] at k ⊢; exact ⟨blk, k, .refl _⟩
  · rw [List.getElem?_append_right (by omega)] at k ⊢; exact h _ _ k
theorem hwk_app {A l r : AHeap} (h : HWL l r) : HWk (A ++ l) (A ++ r) := (hwl_wk h).app
theorem HWk.trans {A B C : AHeap} (h : HWk A B) (k : HWk B C) : HWk A C := fun b blk x => by
  obtain ⟨y, hy, w⟩ := k b blk x
  obtain ⟨z, hz, v⟩ := h b y hy
  refine ⟨z, hz, ?_⟩
  cases w with
  | refl => exact v
  | rows g rs rs' hl hr hh =>
    cases v with
    | refl => exact .rows g rs rs' hl hr hh
    | rows g rs0 _ hl0 hr0 hh0 =>
      refine .rows g rs0 rs' (hl0.trans hl) ?_ ?_
      · intro i a c ha hc
        obtain ⟨m, hm⟩ := get_ex hl hc
        exact (hr0 i a m ha hm).trans (hr i m c hm hc)
      · intro i j a c x y ha hc hx hy
        obtain ⟨m, hm⟩ := get_ex hl hc
        obtain ⟨u, hu⟩ := get_ex (hr i m c hm hc) hy
        exact wkn_trans (hh0 i j a m x u ha hm hx hu) (hh i j m c u y hm hc hu hy)
theorem HWk.of_front {A B : AHeap} (h : HWk A B) (l : AHeap) : HWk (A ++ l) B := (HWk.front A l).trans h

theorem get_app {J l : AHeap} {i : Nat} {x : Option Blk} (h : J[i]? = some x) : (J ++ l)[i]? = some x := by
  rw [List.getElem?_append_left (List.getElem?_eq_some_iff.1 h).1]; exact h
theorem get_lt {J : AHeap} {i : Nat} {x : Option Blk} (h : J[i]? = some x) : i < J.length := (List.getElem?_eq_some_iff.1 h).1
theorem HWk.set {J H : AHeap} {b : Nat} {x : Option Blk} (h : HWk J H) (hb : H.length ≤ b) : HWk (J.set b x) H := fun i blk k => by
  have : i < H.length := get_lt k
  obtain ⟨y, hy, w⟩ := h i blk k
  exact ⟨y, by rw [List.getElem?_set_ne (by omega)]; exact hy, w⟩
/-- An entry may be forgotten in part, in its place. -/
theorem hwk_set {J : AHeap} {b : Nat} {x y : Blk} (h : J[b]? = some (some x)) (w : BW x y) : HWk J (J.set b (some y)) := fun i blk k => by
  by_cases e : b = i
  · subst e; rw [List.getElem?_set_self (get_lt h)] at k; cases k; exact ⟨x, h, w⟩
  · rw [List.getElem?_set_ne e] at k; exact ⟨blk, k, .refl _⟩

/-! A slice that grows: nil at first, then with a tail of its own. -/
abbrev Wh := Option (Nat × Nat)
def ownS (w : Wh) : Own := match w with | none => .full | some (b, g) => .tk b g
def WOk (n : Nat) (w : Wh) : Prop := ∀ b g, w = some (b, g) → n ≤ b
def TailAt (J : AHeap) (w : Wh) (sz : Nat) : Prop := ∀ b g, w = some (b, g) → J[b]? = some (some (.tail g sz))
def tailIx (n : Nat) (w : Wh) : Nat := match w with | none => n | some (b, _) => b
def tailPut (J : AHeap) (w : Wh) (x : Blk) : AHeap := match w with | none => J ++ [some x] | some (b, _) => J.set b (some x)
@[simp] theorem WOk_none (n : Nat) : WOk n none := fun b g h => by cases h
@[simp] theorem TailAt_none (J : AHeap) (sz : Nat) : TailAt J none sz := fun b g h => by cases h
@[simp] theorem ownS_none : ownS none = .full := rfl
theorem WOk.put {n m : Nat} {w : Wh} (h : WOk n w) (hm : n ≤ m) (g : Nat) : WOk n (some (tailIx m w, g)) := by
  intro b g' e; cases e
  cases w with
  | none => exact hm
  | some p => exact h p.1 p.2 rfl
theorem TailAt.app {J : AHeap} {w : Wh} {sz : Nat} (h : TailAt J w sz) (l : AHeap) : TailAt (J ++ l) w sz := fun b g e => get_app (h b g e)
theorem TailAt.put {J : AHeap} {w : Wh} {sz g : Nat} (h : TailAt J w sz) : TailAt (tailPut J w (.tail g sz)) (some (tailIx J.length w, g)) sz := by
  intro b g' e; cases e
  cases w with
  | none => simp [tailPut, tailIx]
  | some p => obtain ⟨b, g0⟩ := p; simp only [tailPut, tailIx]; rw [List.getElem?_set_self (get_lt (h b g0 rfl))]
theorem TailAt.set {J : AHeap} {w : Wh} {sz i g : Nat} {rs : List (List AV)} {x : Blk} (h : TailAt J w sz) (hi : J[i]? = some (some (.rows g rs))) : TailAt (J.set i (some x)) w sz := fun b g' e => by
  have := h b g' e
  rw [List.getElem?_set_ne (fun c => by subst c; rw [hi] at this; cases this)]; exact this
theorem TailAt.rows {J : AHeap} {w : Wh} {sz i g : Nat} {rs : List (List AV)} {x : Blk} (h : TailAt J w sz) (hi : J[i]? = some (some (.rows g rs))) : (tailPut J w x)[i]? = some (some (.rows g rs)) := by
  cases w with
  | none => exact get_app hi
  | some p =>
    obtain ⟨b, g0⟩ := p
    have := h b g0 rfl
    simp only [tailPut]
    rw [List.getElem?_set_ne (fun c => by subst c; rw [hi] at this; cases this)]; exact hi
theorem TailAt.tail {J : AHeap} {w : Wh} {i : Nat} {y x : Blk} (hi : J[i]? = some (some y)) (h : ∀ b g, w = some (b, g) → b ≠ i) : (tailPut J w x)[i]? = some (some y) := by
  cases w with
  | none => exact get_app hi
  | some p => obtain ⟨b, g0⟩ := p; simp only [tailPut]; rw [List.getElem?_set_ne (h b g0 rfl)]; exact hi
theorem tailPut_hwk {J H : AHeap} {w : Wh} {x : Blk} (h : HWk J H) (hw : WOk H.length w) : HWk (tailPut J w x) H := by
  cases w with
  | none => exact (HWk.front _ _).trans h
  | some p => exact h.set (hw p.1 p.2 rfl)
theorem tailPut_len {J : AHeap} {w : Wh} {x : Blk} : J.length ≤ (tailPut J w x).length := by
  cases w with
  | none => simp [tailPut]
  | some p => obtain ⟨b, g⟩ := p; simp [tailPut]
theorem apA_tail {g sz by_ : Nat} {w : Wh} {o : Own} {rows ys : List (List AV)} {J : AHeap} (hJ : TailAt J w sz) (hy : ys ≠ []) (hr : ∀ r ∈ rows, r.length = sz) (hyl : ∀ r ∈ ys, r.length = sz) (hb : (rows.length + ys.length) * by_ ≤ 140737488355328) :
    apA g false sz by_ (.sl (ownS w) rows) (.sl o ys) J = some (.sl (ownS (some (tailIx J.length w, g))) (rows ++ ys), tailPut J w (.tail g sz)) := by
  have h1 : (rows.all fun row => row.length == sz) = true := by simpa using hr
  have h2 : (ys.all fun row => row.length == sz) = true := by simpa using hyl
  cases ys with
  | nil => exact absurd rfl hy
  | cons y r =>
    simp only [apA, contA, h1, h2, if_true, hb]
    cases w with
    | none => rfl
    | some p =>
      obtain ⟨b, g0⟩ := p
      simp only [ownS, hJ b g0 rfl, tailIx, tailPut, true_and, if_true]

/-! A slice of rows that may be written to: nil at first. -/
def outV (w : Wh) (n sz : Nat) : AV := match w with | none => .sl .full [] | some (b, g) => .osl b g 0 n sz
def OutAt (J : AHeap) (w : Wh) (n : Nat) (rows : List (List AV)) : Prop := (w = none → n = 0) ∧ n ≤ rows.length ∧ ∀ b g, w = some (b, g) → J[b]? = some (some (.rows g rows))
@[simp] theorem outV_none (n sz : Nat) : outV none n sz = .sl .full [] := rfl
theorem OutAt.nil (J : AHeap) : OutAt J none 0 [] := ⟨fun _ => rfl, Nat.le_refl _, fun b g e => (by cases e)⟩
theorem OutAt.app {J : AHeap} {w : Wh} {n : Nat} {rows : List (List AV)} (h : OutAt J w n rows) (l : AHeap) : OutAt (J ++ l) w n rows := ⟨h.1, h.2.1, fun b g e => get_app (h.2.2 b g e)⟩
theorem OutAt.cut {J : AHeap} {w : Wh} {n m : Nat} {rows : List (List AV)} (h : OutAt J w n rows) (hm : m ≤ n) : OutAt J w m rows := ⟨fun e => by have := h.1 e; omega, Nat.le_trans hm h.2.1, h.2.2⟩
theorem OutAt.set {J : AHeap} {w : Wh} {n i : Nat} {rows : List (List AV)} {x : Option Blk} (h : OutAt J w n rows) (hi : ∀ b g, w = some (b, g) → b ≠ i) : OutAt (J.set i x) w n rows :=
  ⟨h.1, h.2.1, fun b g e => by rw [List.getElem?_set_ne (Ne.symm (hi b g e))]; exact h.2.2 b g e⟩
theorem OutAt.put {J : AHeap} {w : Wh} {n g : Nat} {rows rs : List (List AV)} (h : OutAt J w n rows) : OutAt (tailPut J w (.rows g rs)) (some (tailIx J.length w, g)) rs.length rs := by
  refine ⟨fun e => (by cases e), Nat.le_refl _, fun b g' e => ?_⟩
  cases e
  cases w with
  | none => simp [tailPut, tailIx]
  | some p => obtain ⟨b, g0⟩ := p; simp only [tailPut, tailIx]; rw [List.getElem?_set_self (get_lt (h.2.2 b g0 rfl))]
/-- Tails elsewhere. -/
theorem OutAt.tail {J : AHeap} {w v : Wh} {n sz : Nat} {rows : List (List AV)} {x : Blk} (h : OutAt J w n rows) (k : TailAt J v sz) : OutAt (tailPut J v x) w n rows :=
  ⟨h.1, h.2.1, fun b g e => k.rows (h.2.2 b g e)⟩
theorem apA_out {g sz by_ n : Nat} {w : Wh} {o : Own} {rows ys : List (List AV)} {J : AHeap} (hJ : OutAt J w n rows) (hy : ys ≠ []) (hyl : ∀ r ∈ ys, r.length = sz) (hb : (n + ys.length) * by_ ≤ 140737488355328) :
    apA g true sz by_ (outV w n sz) (.sl o ys) J = some (outV (some (tailIx J.length w, g)) (n + ys.length) sz, tailPut J w (.rows g (rows.take n ++ ys))) := by
  have h2 : (ys.all fun row => row.length == sz) = true := by simpa using hyl
  obtain ⟨h0, hn, hx⟩ := hJ
  cases ys with
  | nil => exact absurd rfl hy
  | cons y r =>
    cases w with
    | none =>
      obtain rfl := h0 rfl
      simp only [outV, apA, contA, h2, if_true, List.all_nil, List.length_nil, hb, tailIx, tailPut, List.take_zero]
    | some p =>
      obtain ⟨b, g0⟩ := p
      have hs : subRows rows 0 n = rows.take n := by simp [subRows]; intro h; rw [h, List.take_length]
      have hl : (rows.take n).length = n := by simp [hn]
      simp only [outV, apA, contA, h2, hx b g0 rfl, true_and, Nat.zero_add, hn, if_true, hs, hl, hb, tailIx, tailPut]
theorem lenS_out {J : AHeap} {w : Wh} {n sz : Nat} {rows : List (List AV)} (h : OutAt J w n rows) : lenS false (outV w n sz) = some (.int .i64 n) := by
  cases w with
  | none => obtain rfl := h.1 rfl; simp
  | some p => obtain ⟨b, g⟩ := p; simp [outV]
theorem slcS_out {J : AHeap} {w : Wh} {n sz : Nat} {rows : List (List AV)} {k : IntKind} {i : Int} (h : OutAt J w n rows) (hi : 0 ≤ i) (hn : i ≤ n) : slcS sz false (outV w n sz) none (some (.int k i)) = some (outV w i.toNat sz) := by
  cases w with
  | none =>
    obtain rfl := h.1 rfl
    obtain rfl : i = 0 := by omega
    simp [slcA]
  | some p => obtain ⟨b, g⟩ := p; simp [outV, slcA, hi]; omega
theorem end_out {w : Wh} {n sz : Nat} {rows rs : List (List AV)} {J H : AHeap} (h : OutAt J w n rows) (hw : WOk H.length w) (hJ : HWk J H) (hr : rows.take n = rs) : VShift (outV w n sz) J (.sl .no rs) H := by
  subst hr
  obtain ⟨h0, hn, hx⟩ := h
  cases w with
  | none => obtain rfl := h0 rfl; simp only [outV, List.take_zero]; exact vshift_drop (.no _ _) hJ
  | some p =>
    obtain ⟨b, g⟩ := p
    have h := vshift_freeze (sz := sz) (r := 0) (n := n) (hx b g rfl) (by omega)
    rw [List.drop_zero] at h
    exact h.trans (vshift_drop (.refl _) (hJ.set (hw b g rfl)))

/-- A heap over another: what the other has is there still. -/
def Ov (J H : AHeap) : Prop := HWk J H ∧ H.length ≤ J.length
theorem Ov.refl (H : AHeap) : Ov H H := ⟨.refl H, Nat.le_refl _⟩
theorem Ov.hwk {J H : AHeap} (h : Ov J H) : HWk J H := h.1
theorem Ov.app {J H : AHeap} (h : Ov J H) (l : AHeap) : Ov (J ++ l) H := ⟨h.1.of_front l, by have := h.2; simp; omega⟩
theorem Ov.set {J H : AHeap} (h : Ov J H) {b : Nat} (hb : H.length ≤ b) (x : Option Blk) : Ov (J.set b x) H := ⟨h.1.set hb, by simpa using h.2⟩
theorem Ov.put {J H : AHeap} (h : Ov J H) {w : Wh} (hw : WOk H.length w) (x : Blk) : Ov (tailPut J w x) H := ⟨tailPut_hwk h.1 hw, Nat.le_trans h.2 tailPut_len⟩
theorem Ov.len {J H : AHeap} (h : Ov J H) : H.length ≤ J.length := h.2
theorem WOk.ov {J H : AHeap} {w : Wh} (hw : WOk H.length w) (h : Ov J H) (g : Nat) : WOk H.length (some (tailIx J.length w, g)) := hw.put h.2 g

/-- Rows of another heap that are there still. -/
def Kept (J J' : AHeap) : Prop := ∀ (i g : Nat) (rs : List (List AV)), J[i]? = some (some (.rows g rs)) → J'[i]? = some (some (.rows g rs))
/-- One more at the end of a slice that grows. -/
theorem app_own {g sz by_ : Nat} {w : Wh} {o : Own} {rows ys : List (List AV)} {J H : AHeap} {K : AV × AHeap → Prop} (hT : TailAt J w sz) (hw : WOk H.length w) (hJ : Ov J H) (hy : ys ≠ []) (hr : ∀ r ∈ rows, r.length = sz) (hyl : ∀ r ∈ ys, r.length = sz) (hb : (rows.length + ys.length) * by_ ≤ 140737488355328)
    (k : ∀ w' J', TailAt J' w' sz → WOk H.length w' → Ov J' H → Kept J J' → K (.sl (ownS w') (rows ++ ys), J')) : OptK (apA g false sz by_ (.sl (ownS w) rows) (.sl o ys) J) K :=
  OptK.mk (apA_tail hT hy hr hyl hb) (k _ _ hT.put (hw.ov hJ g) (hJ.put hw _) fun i g rs h => hT.rows h)
/-- Tails of another size that are there still. -/
def KeptT (sz : Nat) (J J' : AHeap) : Prop := ∀ (v : Wh) (s : Nat), s ≠ sz → TailAt J v s → TailAt J' v s
theorem TailAt.other {J : AHeap} {w : Wh} {sz g : Nat} (h : TailAt J w sz) : KeptT sz J (tailPut J w (.tail g sz)) := by
  intro v s hs hv b g' e
  have h1 := hv b g' e
  cases w with
  | none => exact get_app h1
  | some p =>
    have h2 := h p.1 p.2 rfl
    show (J.set p.1 _)[b]? = _
    rw [List.getElem?_set_ne (fun c => by rw [c, h1] at h2; cases h2; exact hs rfl)]; exact h1
theorem app_own' {g sz by_ : Nat} {w : Wh} {o : Own} {rows ys : List (List AV)} {J H : AHeap} {K : AV × AHeap → Prop} (hT : TailAt J w sz) (hw : WOk H.length w) (hJ : Ov J H) (hy : ys ≠ []) (hr : ∀ r ∈ rows, r.length = sz) (hyl : ∀ r ∈ ys, r.length = sz) (hb : (rows.length + ys.length) * by_ ≤ 140737488355328)
    (k : ∀ w' J', TailAt J' w' sz → WOk H.length w' → Ov J' H → Kept J J' → KeptT sz J J' → K (.sl (ownS w') (rows ++ ys), J')) : OptK (apA g false sz by_ (.sl (ownS w) rows) (.sl o ys) J) K :=
  OptK.mk (apA_tail hT hy hr hyl hb) (k _ _ hT.put (hw.ov hJ g) (hJ.put hw _) (fun i g rs h => hT.rows h) hT.other)
/-- No entry of ours lies there. -/
def Off (w : Wh) (i : Nat) : Prop := ∀ b g, w = some (b, g) → b ≠ i
@[simp] theorem Off_none (i : Nat) : Off none i := fun b g e => (by cases e)
theorem app_out {g sz by_ n : Nat} {w : Wh} {o : Own} {rows ys : List (List AV)} {J H : AHeap} {K : AV × AHeap → Prop} (hO : OutAt J w n rows) (hw : WOk H.length w) (hJ : Ov J H) (hy : ys ≠ []) (hyl : ∀ r ∈ ys, r.length = sz) (hb : (n + ys.length) * by_ ≤ 140737488355328)
    (k : ∀ (b : Nat) (J' : AHeap), OutAt J' (some (b, g)) (n + ys.length) (rows.take n ++ ys) → H.length ≤ b → Ov J' H → (∀ (i : Nat) (x : Blk), J[i]? = some (some x) → Off w i → J'[i]? = some (some x) ∧ b ≠ i) → K (.osl b g 0 (n + ys.length) sz, J')) : OptK (apA g true sz by_ (outV w n sz) (.sl o ys) J) K := by
  refine OptK.mk (apA_out (g := g) hO hy hyl hb) (k _ _ ?_ (hw.ov hJ g _ _ rfl) (hJ.put hw _) ?_)
  · have := hO.put (g := g) (rs := rows.take n ++ ys)
    have e : (rows.take n ++ ys).length = n + ys.length := by have := hO.2.1; simp; omega
    rwa [e] at this
  · intro i x hi hof
    refine ⟨TailAt.tail hi hof, ?_⟩
    cases w with
    | none => have := get_lt hi; show J.length ≠ i; omega
    | some p => exact hof p.1 p.2 rfl

/-! Freezing what a name holds. -/
theorem shift_freeze {E : Env} {D : List ADef} {H : AHeap} {t b g r n sz : Nat} {rs : List (List AV)} (ht : E.get t = some (.osl b g r n sz)) (hb : H[b]? = some (some (.rows g rs))) (hrn : r + n ≤ rs.length) :
    Shift E D H ((t, .sl .no ((rs.drop r).take n)) :: E) D (H.set b none) := by
  intro N G a w hr
  obtain ⟨l, hl, _⟩ := hr.inv.ent b _ hb
  have he := ext_freeze G w b l
  refine ⟨G.freeze b l, ⟨hr.inv.freeze hl, hr.size, hr.defs.ext he, ?_⟩, he⟩
  intro k x hx
  simp only [Env.get] at hx
  split at hx
  · rename_i e; subst e; cases hx; exact (hr.env t _ ht).frozen hr.inv hb hrn hl
  · exact (hr.env k x hx).ext he
def outDrop (J : AHeap) (w : Wh) : AHeap := match w with | none => J | some (b, _) => J.set b none
theorem outDrop_get {J : AHeap} {w : Wh} {i : Nat} (h : Off w i) : (outDrop J w)[i]? = J[i]? := by
  cases w with
  | none => rfl
  | some p => exact List.getElem?_set_ne (h p.1 p.2 rfl)
theorem Ov.drop {J H : AHeap} {w : Wh} (h : Ov J H) (hw : WOk H.length w) : Ov (outDrop J w) H := by
  cases w with
  | none => exact h
  | some p => exact h.set (hw p.1 p.2 rfl) _
theorem TailAt.drop {J : AHeap} {v w : Wh} {sz n : Nat} {rows : List (List AV)} (h : TailAt J v sz) (k : OutAt J w n rows) : TailAt (outDrop J w) v sz := by
  cases w with
  | none => exact h
  | some p =>
    intro b g e
    have h1 := h b g e
    have h2 := k.2.2 p.1 p.2 rfl
    show (J.set p.1 none)[b]? = _
    rw [List.getElem?_set_ne (fun c => by rw [c, h1] at h2; cases h2)]; exact h1
theorem shift_out {E E' : Env} {D : List ADef} {J : AHeap} {w : Wh} {t n sz : Nat} {rows : List (List AV)} (ht : E.get t = some (outV w n sz)) (hO : OutAt J w n rows) (hE : EnvTo ((t, .sl .no (rows.take n)) :: E) E') : Shift E D J E' D (outDrop J w) := by
  obtain ⟨h0, hn, hx⟩ := hO
  cases w with
  | none =>
    obtain rfl := h0 rfl
    refine shift_wk (fun k x hk => ?_) (.refl _)
    obtain ⟨y, hy, hw⟩ := hE.wk k x hk
    simp only [Env.get] at hy
    split at hy
    · rename_i e; subst e; cases hy; exact ⟨_, ht, wkn_trans (by simp) hw⟩
    · exact ⟨y, hy, hw⟩
  | some p =>
    obtain ⟨b, g⟩ := p
    have h := shift_freeze (D := D) ht (hx b g rfl) (by omega)
    rw [List.drop_zero] at h
    intro N G a v r
    obtain ⟨G1, r1, e1⟩ := h N G a v r
    obtain ⟨G2, r2, e2⟩ := shift_wk hE.wk (.refl _) N G1 a v r1
    exact ⟨G2, r2, e1.trans e2⟩

theorem CallK.wk {P : Program} {f : FuncId} {xs ys : List AV} {H : AHeap} {K : AV → AHeap → Prop} (h : WkL xs ys) (k : CallK P f ys H K) : CallK P f xs H K := by
  intro G w vs hi hr
  refine k G w vs hi ⟨hr.1.trans h.len, fun j v y hv hy => ?_⟩
  obtain ⟨x, hx⟩ := get_ex h.len hy
  exact (hr.2 j v x hv hx).wkn (h.get j x y hx hy)
/-- One slice behind another one, that is full. -/
theorem app_lit {g sz by_ : Nat} {o : Own} {rows ys : List (List AV)} {J H : AHeap} {K : AV × AHeap → Prop} (hJ : Ov J H) (hr : ∀ r ∈ rows, r.length = sz) (hyl : ∀ r ∈ ys, r.length = sz) (hb : (rows.length + ys.length) * by_ ≤ 140737488355328)
    (k : ∀ (w : Own) (J' : AHeap), Ov J' H → Kept J J' → K (.sl w (rows ++ ys), J')) : OptK (apA g false sz by_ (.sl .full rows) (.sl o ys) J) K := by
  by_cases hy : ys = []
  · subst hy
    refine OptK.mk (v := (.sl .full rows, J)) ?_ ?_
    · have h1 : (rows.all fun row => row.length == sz) = true := by simpa using hr
      simp only [apA, contA, h1, if_true, List.all_nil]
    · have := k .full J hJ (fun i g rs h => h); rwa [List.append_nil] at this
  · exact app_own (w := none) (TailAt_none _ _) (WOk_none _) hJ hy hr hyl hb fun w' J' _ _ c d => k _ J' c d
theorem hwk_set2 {J : AHeap} {b : Nat} {x y : Blk} (hb : b < J.length) (w : BW x y) : HWk (J.set b (some x)) (J.set b (some y)) := by
  have h := hwk_set (List.getElem?_set_self (a := some x) hb) w
  rwa [List.set_set] at h
end Go.Proofs.YtjgkfgocgknjjaaDoor.Abs
