/- The two ways of merging are one. -/
import Derived.Test.YtafhiicjmlkhcaaM1
set_option linter.unusedVariables false
set_option linter.unusedSimpArgs false
namespace Go.Proofs.Ytafhiicjmlkhcaa
open Go Go.RowKit

def seg (l : List St) (a b : Nat) : List St := (l.drop a).take (b - a)
theorem seg_nil (l : List St) (a : Nat) : seg l a a = [] := by simp [seg]
theorem seg_cons {l : List St} {a b : Nat} (h : a < b) (hl : a < l.length) : seg l a b = nth l a :: seg l (a + 1) b := by
  unfold seg
  rw [List.drop_eq_getElem_cons hl]
  obtain ⟨d, rfl⟩ : ∃ d, b = a + 1 + d := ⟨b - (a + 1), by omega⟩
  have e1 : a + 1 + d - a = d + 1 := by omega
  have e2 : a + 1 + d - (a + 1) = d := by omega
  rw [e1, e2, List.take_succ_cons]
  simp [nth, List.getElem?_eq_getElem hl]
theorem seg_app (l : List St) {a b c : Nat} (h : a ≤ b) (k : b ≤ c) : seg l a c = seg l a b ++ seg l b c := by
  unfold seg
  obtain ⟨d, rfl⟩ : ∃ d, b = a + d := ⟨b - a, by omega⟩
  obtain ⟨e, rfl⟩ : ∃ e, c = a + d + e := ⟨c - (a + d), by omega⟩
  have e1 : a + d + e - a = d + e := by omega
  have e2 : a + d - a = d := by omega
  have e3 : a + d + e - (a + d) = e := by omega
  rw [e1, e2, e3, List.take_add, List.drop_drop]
theorem argsOf_app (a b : List St) : argsOf (a ++ b) = argsOf a ++ argsOf b := by simp [argsOf]
theorem costOf_app (a b : List St) : costOf (a ++ b) = costOf a + costOf b := by simp [costOf]
theorem costOf_cons (x : St) (b : List St) : costOf (x :: b) = x.cost + costOf b := by simp [costOf]
theorem argsOf_4 {x : St} (b : List St) (h : x.kind = 4) : argsOf (x :: b) = ⟨x.m, x.e⟩ :: argsOf b := by simp [argsOf, h]
theorem argsOf_0 {x : St} (b : List St) (h : x.kind ≠ 4) : argsOf (x :: b) = argsOf b := by simp [argsOf, h]
@[simp] theorem St.put_same (x : St) : x.put x.args x.cost = x := by cases x; rfl
@[simp] theorem St.put_args (x : St) (a : List Arg) (c : Int) : (x.put a c).args = a := rfl
@[simp] theorem St.put_cost (x : St) (a : List Arg) (c : Int) : (x.put a c).cost = c := rfl
@[simp] theorem St.put_n (x : St) (a : List Arg) (c : Int) : (x.put a c).n = x.n := rfl
@[simp] theorem St.put_kind (x : St) (a : List Arg) (c : Int) : (x.put a c).kind = x.kind := rfl
@[simp] theorem St.put_put (x : St) (a b : List Arg) (c d : Int) : (x.put a c).put b d = x.put b d := rfl

theorem par (l o0 : List St) (p i : Nat) (x : St) (hp : p ≤ i) (hi : i ≤ l.length) (hB : (o0 = [] ∧ p = 0) ∨ (0 < o0.length ∧ 0 < p ∧ (nth o0 (o0.length - 1)).kind = 5 ∧ (nth l (p - 1)).kind = 5)) :
    ∀ (m : Nat), p + m ≤ i → ∀ (y : St) (c : Int) (n : Nat) (fs : List Int), n + (p + m) ≤ i → c = costOf (seg l (p + m) (i - n)) → argsOf (seg l (p + m) (i - n)) = [] → y.n = x.n → (∀ f, f ∈ fs ↔ ∃ a ∈ y.args, a.field = f) →
      aheadK l x i (p + m) fs (y.cost + c) n + p ≤ i ∧ n ≤ aheadK l x i (p + m) fs (y.cost + c) n ∧
      takeK (o0 ++ seg l p i) (o0.length + m) y c (o0.length + (i - p) - n) = (o0.length + (i - p) - aheadK l x i (p + m) fs (y.cost + c) n,
        y.put (argsOf (seg l (i - aheadK l x i (p + m) fs (y.cost + c) n) (i - n)) ++ y.args) (y.cost + costOf (seg l (i - aheadK l x i (p + m) fs (y.cost + c) n) (i - n)))) := by
  intro m
  induction m with
  | zero =>
    intro hm y c n fs hn hc ha hyn hf
    have e : aheadK l x i (p + 0) fs (y.cost + c) n = n ∧ takeK (o0 ++ seg l p i) (o0.length + 0) y c (o0.length + (i - p) - n) = (o0.length + (i - p) - n, y) := by
      rcases hB with ⟨rfl, rfl⟩ | ⟨h1, h2, h3, h4⟩
      · simp [aheadK, takeK]
      · obtain ⟨L, hL⟩ : ∃ L, o0.length = L + 1 := ⟨o0.length - 1, by omega⟩
        obtain ⟨P, rfl⟩ : ∃ P, p = P + 1 := ⟨p - 1, by omega⟩
        have h5 : nth (o0 ++ seg l (P + 1) i) L = nth o0 (o0.length - 1) := by
          unfold nth; rw [List.getElem?_append_left (by omega)]; congr 2; omega
        simp only [Nat.add_sub_cancel] at h4
        constructor
        · rw [Nat.add_zero, aheadK, if_neg (by rw [h4]; decide), if_pos (by rw [h4]; exact .inl (by decide))]
        · rw [Nat.add_zero, hL, takeK, h5, if_neg (by rw [h3]; decide), if_pos (by rw [h3]; exact .inl (by decide))]
    rw [e.1, e.2, seg_nil]
    refine ⟨by omega, Nat.le_refl _, ?_⟩
    simp [argsOf, costOf]
  | succ m ih =>
    intro hm y c n fs hn hc ha hyn hf
    have hl : p + m < l.length := by omega
    have hs : seg l (p + m) (i - n) = nth l (p + m) :: seg l (p + (m + 1)) (i - n) := seg_cons (by omega) hl
    have ho : nth (o0 ++ seg l p i) (o0.length + m) = nth l (p + m) := by
      unfold nth
      rw [List.getElem?_append_right (by omega)]
      have : o0.length + m - o0.length = m := by omega
      rw [this, seg, List.getElem?_take, if_pos (by omega), List.getElem?_drop]
    generalize hsd : nth l (p + m) = s at hs ho
    have ek : p + (m + 1) = p + m + 1 := by omega
    have eo : o0.length + (m + 1) = o0.length + m + 1 := by omega
    rw [eo, takeK, ho]
    rw [ek] at hn hc ha hs ⊢
    simp only [aheadK, hsd]
    by_cases h0 : s.kind = 0
    · rw [if_pos h0]
      simp only [if_pos h0]
      have h4 : s.kind ≠ 4 := by rw [h0]; decide
      have := ih (by omega) y (c + s.cost) n fs (by omega) (by rw [hs, costOf_cons, hc]; omega) (by rw [hs, argsOf_0 _ h4]; exact ha) hyn hf
      have e : y.cost + (c + s.cost) = y.cost + c + s.cost := by omega
      rw [e] at this
      exact this
    · rw [if_neg h0]
      simp only [if_neg h0]
      by_cases hr : s.kind ≠ 4 ∨ s.n ≠ x.n ∨ y.cost + c + s.cost > 1048576
      · simp only [if_pos hr]
        rw [if_pos (by rcases hr with h | h | h
                       · exact .inl h
                       · exact .inr (.inl (by rw [hyn]; exact h))
                       · exact .inr (.inr (.inr (by omega)))), seg_nil]
        refine ⟨by omega, Nat.le_refl _, by simp [argsOf, costOf]⟩
      · simp only [if_neg hr]
        have hr4 : s.kind = 4 := Classical.byContradiction fun h => hr (.inl h)
        have hrn : s.n = x.n := Classical.byContradiction fun h => hr (.inr (.inl h))
        have hrc : ¬ (y.cost + c + s.cost > 1048576) := fun h => hr (.inr (.inr h))
        by_cases hm' : s.m ∈ fs
        · simp only [if_pos hm']
          rw [if_pos (.inr (.inr (.inl ((hf s.m).1 hm')))), seg_nil]
          refine ⟨by omega, Nat.le_refl _, by simp [argsOf, costOf]⟩
        · simp only [if_neg hm']
          rw [if_neg (by
            rintro (h | h | h | h)
            · exact h hr4
            · rw [hyn] at h; exact h hrn
            · exact hm' ((hf s.m).2 h)
            · omega)]
          have hq : o0.length + (i - p) - (i - (p + m)) = o0.length + m := by omega
          have e1 : (y.add s (c + s.cost)).cost = y.cost + (c + s.cost) := rfl
          have e2 : (y.add s (c + s.cost)).args = ⟨s.m, s.e⟩ :: y.args := rfl
          have e3 : (y.add s (c + s.cost)).n = y.n := rfl
          have e4 : i - (i - (p + m)) = p + m := by omega
          have := ih (by omega) (y.add s (c + s.cost)) 0 (i - (p + m)) (fs ++ [s.m]) (by omega) (by rw [e4, seg_nil]; simp [costOf]) (by rw [e4, seg_nil]; simp [argsOf]) (by rw [e3]; exact hyn) (by
            intro f
            rw [e2]
            simp only [List.mem_append, List.mem_cons, List.not_mem_nil, or_false]
            constructor
            · rintro (h | h)
              · obtain ⟨a, h1, h2⟩ := (hf f).1 h; exact ⟨a, .inr h1, h2⟩
              · exact ⟨_, .inl rfl, h.symm⟩
            · rintro ⟨a, h1 | h1, h2⟩
              · subst h1; exact .inr h2.symm
              · exact .inl ((hf f).2 ⟨a, h1, h2⟩))
          rw [hq, e1, e2, e4] at this
          have e5 : y.cost + (c + s.cost) + 0 = y.cost + c + s.cost := by omega
          rw [e5] at this
          obtain ⟨t1, t2, t3⟩ := this
          refine ⟨t1, by omega, ?_⟩
          rw [t3]
          generalize aheadK l x i (p + m) (fs ++ [s.m]) (y.cost + c + s.cost) (i - (p + m)) = N at t1 t2 ⊢
          have e6 : seg l (i - N) (i - n) = seg l (i - N) (p + m) ++ s :: seg l (p + m + 1) (i - n) := by rw [seg_app l (b := p + m) (by omega) (by omega), hs]
          rw [e6, argsOf_app, costOf_app, argsOf_4 _ hr4, costOf_cons, ha, ← hc]
          refine Prod.ext rfl ?_
          show (y.add s (c + s.cost)).put _ _ = _
          simp only [St.add, St.put_put]
          congr 1
          · simp
          · omega

def refF (l : List St) : List St := (List.range l.length).foldl (refStep l) []
theorem merge_ref (l : List St) : ∀ (i : Nat), i ≤ l.length → (List.range i).foldl (refStep l) [] = mergeF (l.take i) ∧ (∀ j, j < i → ahead l j ≤ (mergeF (l.take j)).length) ∧
    ∃ (p : Nat) (o0 : List St), p ≤ i ∧ mergeF (l.take i) = o0 ++ seg l p i ∧ ((o0 = [] ∧ p = 0) ∨ (0 < o0.length ∧ 0 < p ∧ (nth o0 (o0.length - 1)).kind = 5 ∧ (nth l (p - 1)).kind = 5)) := by
  intro i
  induction i with
  | zero => intro _; exact ⟨by simp [mergeF], fun j h => by omega, 0, [], by omega, by simp [mergeF, seg], .inl ⟨rfl, rfl⟩⟩
  | succ i ih =>
    intro hi
    obtain ⟨h1, h2, p, o0, hp, ho, hB⟩ := ih (by omega)
    have hl : i < l.length := by omega
    have hn : nth l i = l[i] := by simp [nth, List.getElem?_eq_getElem hl]
    have hsl : (seg l p i).length = i - p := by simp [seg]; omega
    have ht : mergeF (l.take (i + 1)) = mergeStep (mergeF (l.take i)) (nth l i) := by rw [List.take_succ_eq_append_getElem hl, hn, mergeF, List.foldl_append]; rfl
    have hr : (List.range (i + 1)).foldl (refStep l) [] = refStep l (mergeF (l.take i)) i := by rw [List.range_succ, List.foldl_append, h1]; rfl
    rw [hr, ht]
    generalize hx : nth l i = x
    by_cases hk : x.kind = 5
    · have e0 : seg l (p + (i - p)) (i - 0) = [] := by
        have e : p + (i - p) = i := by omega
        rw [e, Nat.sub_zero, seg_nil]
      have := par l o0 p i x hp (by omega) hB (i - p) (by omega) x 0 0 (x.args.map (·.field)) (by omega) (by rw [e0]; rfl) (by rw [e0]; rfl) rfl (by intro f; simp)
      have e : p + (i - p) = i := by omega
      rw [e] at this
      simp only [Int.add_zero, Nat.sub_zero] at this
      have hA : ahead l i = aheadK l x i i (x.args.map (·.field)) x.cost 0 := by rw [ahead, hx, if_pos hk]
      rw [← hA] at this
      obtain ⟨t1, t2, t3⟩ := this
      have hlen : (mergeF (l.take i)).length = o0.length + (i - p) := by rw [ho, List.length_append, hsl]
      have hm : mergeStep (mergeF (l.take i)) x = (mergeF (l.take i)).take ((mergeF (l.take i)).length - ahead l i) ++ [x.put (argsOf (seg l (i - ahead l i) i) ++ x.args) (x.cost + costOf (seg l (i - ahead l i) i))] := by
        rw [mergeStep, if_pos hk, hlen, ho, t3]
      have hs : (l.drop (i - ahead l i)).take (ahead l i) = seg l (i - ahead l i) i := by unfold seg; congr 1; omega
      refine ⟨?_, ?_, i + 1, mergeStep (mergeF (l.take i)) x, Nat.le_refl _, by rw [seg_nil]; simp, .inr ⟨by rw [hm]; simp, by omega, ?_, ?_⟩⟩
      · rw [hm, refStep, hx, hs]
      · intro j hj
        by_cases c : j < i
        · exact h2 j c
        · obtain rfl : j = i := by omega
          rw [hlen]; omega
      · rw [hm]
        unfold nth
        rw [List.getElem?_append_right (by simp)]
        simp [hk]
      · simp only [Nat.add_sub_cancel]; rw [hx]; exact hk
    · have hA : ahead l i = 0 := by rw [ahead, hx, if_neg hk]
      have hm : mergeStep (mergeF (l.take i)) x = mergeF (l.take i) ++ [x] := by rw [mergeStep, if_neg hk]
      refine ⟨?_, ?_, p, o0, by omega, ?_, hB⟩
      · rw [hm, refStep, hx, hA]
        simp [argsOf, costOf]
      · intro j hj
        by_cases c : j < i
        · exact h2 j c
        · obtain rfl : j = i := by omega
          rw [hA]; omega
      · rw [hm, ho, List.append_assoc]
        rw [seg_app l (a := p) (b := i) (c := i + 1) hp (by omega), seg_cons (a := i) (b := i + 1) (by omega) hl, seg_nil, hx]
theorem refF_eq (l : List St) : refF l = mergeF l := by
  have := (merge_ref l l.length (Nat.le_refl _)).1
  rwa [List.take_length] at this
end Go.Proofs.Ytafhiicjmlkhcaa
