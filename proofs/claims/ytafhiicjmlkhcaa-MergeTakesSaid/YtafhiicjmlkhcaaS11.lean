/- Merging at one level. -/
import Derived.Test.YtafhiicjmlkhcaaS10
set_option linter.unusedVariables false
set_option linter.unusedSimpArgs false
namespace Go.Proofs.Ytafhiicjmlkhcaa
open Go Go.RowKit Go.Proofs.Ytafhiicjmlkhcaa.Abs

theorem takeK_le (o : List St) : ∀ (k : Nat) (x : St) (c : Int) (q : Nat), k ≤ q → (takeK o k x c q).1 ≤ q
  | 0, x, c, q, h => by simp [takeK]
  | k + 1, x, c, q, h => by
    rw [takeK]
    split
    · exact takeK_le o k x _ q (by omega)
    · split
      · exact Nat.le_refl _
      · exact Nat.le_trans (takeK_le o k _ 0 k (Nat.le_refl _)) (by omega)
theorem takeK_cost {o : List St} (hc : CostOk o) : ∀ (k : Nat) (x : St) (c : Int) (q : Nat), k ≤ o.length → 0 ≤ c → 0 ≤ x.cost → x.cost ≤ 1048576 → 0 ≤ (takeK o k x c q).2.cost ∧ (takeK o k x c q).2.cost ≤ 1048576
  | 0, x, c, q, hk, h0, h1, h2 => by rw [takeK]; exact ⟨h1, h2⟩
  | k + 1, x, c, q, hk, h0, h1, h2 => by
    have hl : k < o.length := by omega
    have := hc k hl
    rw [takeK, nth_get hl]
    split
    · exact takeK_cost hc k x _ q (by omega) (by omega) h1 h2
    · split
      · exact ⟨h1, h2⟩
      · rename_i hn
        have e : (x.add o[k] (c + o[k].cost)).cost = x.cost + (c + o[k].cost) := rfl
        have : ¬ (c + o[k].cost > 1048576 - x.cost) := fun h => hn (.inr (.inr (.inr h)))
        exact takeK_cost hc k _ 0 k (by omega) (by omega) (by omega) (by omega)
theorem CostOk.snoc {l : List St} {x : St} (h : CostOk l) (h0 : 0 ≤ x.cost) (h1 : x.cost ≤ 1048576) : CostOk (l ++ [x]) := by
  intro j hj
  by_cases c : j < l.length
  · rw [List.getElem_append_left c]; exact h j c
  · rw [List.getElem_append_right (by omega)]; simp; exact ⟨h0, h1⟩
theorem CostOk.take {l : List St} (h : CostOk l) (n : Nat) : CostOk (l.take n) := by
  intro j hj
  rw [List.getElem_take]; exact h j (by simp at hj; omega)
theorem mergeStep_ok {o : List St} {x : St} (h : CostOk o) (h0 : 0 ≤ x.cost) (h1 : x.cost ≤ 1048576) : CostOk (mergeStep o x) ∧ (mergeStep o x).length ≤ o.length + 1 := by
  unfold mergeStep
  split
  · have := takeK_cost h o.length x 0 o.length (Nat.le_refl _) (by omega) h0 h1
    exact ⟨(h.take _).snoc this.1 this.2, by simp; omega⟩
  · exact ⟨h.snoc h0 h1, by simp⟩
theorem St.rows_take : ∀ (l : List St) (n : Nat), St.rows (l.take n) = (St.rows l).take n
  | [], n => by simp
  | x :: r, 0 => by simp
  | x :: r, n + 1 => by simp [St.rows, St.rows_take r n]
theorem mergeF_snoc (l : List St) (x : St) : mergeF (l ++ [x]) = mergeStep (mergeF l) x := by simp [mergeF]
theorem mergeF_ok' {l : List St} (h : CostOk l) : CostOk (mergeF l) ∧ (mergeF l).length ≤ l.length := by
  suffices ∀ n, n ≤ l.length → CostOk (mergeF (l.take n)) ∧ (mergeF (l.take n)).length ≤ n by
    have := this l.length (Nat.le_refl _); rwa [List.take_length] at this
  intro n
  induction n with
  | zero => intro _; simp [mergeF, CostOk]
  | succ n ih =>
    intro hn
    have hl : n < l.length := by omega
    rw [List.take_succ_eq_append_getElem hl, mergeF_snoc]
    have h1 := ih (by omega)
    have h2 := h n hl
    have := mergeStep_ok h1.1 h2.1 h2.2
    exact ⟨this.1, by omega⟩

set_option maxRecDepth 20000 in
set_option maxHeartbeats 8000000 in
theorem mergeF_ok (l : List St) (hl : St.sizeL l < 100000000) (hc : CostOk l) : PCall Try.prog 15 [.sl .no (St.rows l)] (.sl .no (St.rows (mergeF l))) := by
  have hlen := St.len_size l
  refine pcall_fn Code.ok15 (by simp [Code.f15]) fun H => ?_
  simp [Code.f15]
  refine LoopK.told (σ := Nat × Wh × AHeap) (fun s => [(8, .int .i64 s.1), (7, .int .i64 l.length), (6, .sl .no (St.rows l)), (3, outV s.2.1 (mergeF (l.take s.1)).length 19)]) (fun s => s.2.2)
    (fun s => s.1 ≤ l.length ∧ WOk H.length s.2.1 ∧ OutAt s.2.2 s.2.1 (mergeF (l.take s.1)).length (St.rows (mergeF (l.take s.1))) ∧ Ov s.2.2 H) (fun s => l.length - s.1) (0, none, H) ?_ ?_ ?_ ?_
  · exact ⟨by simp, by simp, by simpa [mergeF] using OutAt.nil H, Ov.refl H⟩
  · simp
  · simp
  rintro ⟨i, w, J⟩ ⟨hi, hw, hO, hJ⟩
  simp only at hi hw hO hJ
  simp [Code.f15l0]
  refine ⟨fun h => ?_, fun h => ?_⟩
  · have hs := St.size_mem h
    have hse := St.size_eq l[i]
    have har := Arg.len_size l[i].args
    have ht := List.take_succ_eq_append_getElem h
    have hcx := hc i h
    have ho := mergeF_ok' (hc.take i)
    have hF : mergeF (l.take (i + 1)) = mergeStep (mergeF (l.take i)) l[i] := by rw [ht, mergeF_snoc]
    generalize hx : l[i] = x at hs hse har hcx hF
    generalize mergeF (l.take i) = o at hF ho hO ⊢
    have hol : o.length ≤ l.length := by have := ho.2; simp at this; omega
    simp [List.getElem?_eq_getElem h, hx]
    intro g
    have hx1 : (J ++ [some (.rows g [x.cells])])[J.length]? = some (some (.rows g [x.cells])) := by simp
    have hO1 := hO.app [some (.rows g [x.cells])]
    have hJ1 := hJ.app [some (.rows g [x.cells])]
    have hof : Off w J.length := fun b g' e => by have := get_lt (hO.2.2 b g' e); omega
    have hbx := hJ.len
    generalize J ++ [some (.rows g [x.cells])] = J1 at hx1 hO1 hJ1 ⊢
    generalize J.length = bx at hx1 hbx hof ⊢
    have hs1 := fun y => List.getElem?_set_self (a := y) (get_lt hx1)
    refine ⟨fun h5 => ?_, fun h5 => ?_⟩
    · simp [hx1]
      have hle := takeK_le o o.length x 0 o.length (Nat.le_refl _)
      refine CallK.of (Q := fun r H' => r = .tup [outV w (takeK o o.length x 0 o.length).1 19, .agg (takeK o o.length x 0 o.length).2.cells] ∧ H' = J1) ?_ ?_
      · cases w with
        | none =>
          obtain rfl : o = [] := List.eq_nil_of_length_eq_zero (hO.1 rfl)
          have := take_nil x J1
          simpa [takeK] using this
        | some p =>
          obtain ⟨b, gb⟩ := p
          exact take_ok o x (by omega) ho.1 hcx.1 hcx.2 (by omega) (hO1.2.2 b gb rfl)
      rintro _ _ ⟨rfl, rfl⟩
      rw [mergeStep, if_pos h5] at hF
      generalize takeK o o.length x 0 o.length = tk at hle hF ⊢
      obtain ⟨q, y⟩ := tk
      simp only at hle hF ⊢
      simp [hx1, hs1]
      intro g8
      refine app_out ((hO1.cut hle).set hof) hw (hJ1.set hbx _) (by simp) (by simp) (by simp; omega) fun b8 J8 hO8 hb8 hJ8 hk8 => ?_
      simp at hO8
      simp
      have e : St.rows (mergeF (l.take (i + 1))) = List.take q (St.rows o) ++ [y.cells] := by rw [hF, St.rows_snoc, St.rows_take]
      have e2 : (mergeF (l.take (i + 1))).length = q + 1 := by rw [hF]; simp; omega
      refine ⟨i + 1, some (b8, g8), J8, ⟨by omega, fun b' g' e => (by cases e; exact hb8), ?_, hJ8⟩, by omega, ⟨wkn_int (wrap_id (by omega) (by omega)), ?_⟩, .refl _⟩
      · rw [e, e2]; exact hO8
      · rw [e2]; exact .refl _
    · simp [hx1]
      rw [mergeStep, if_neg h5] at hF
      intro g8
      refine app_out hO1 hw hJ1 (by simp) (by simp) (by simp; omega) fun b8 J8 hO8 hb8 hJ8 hk8 => ?_
      have e3 : List.take o.length (St.rows o) = St.rows o := List.take_of_length_le (by simp)
      simp [e3] at hO8
      simp
      have e : St.rows (mergeF (l.take (i + 1))) = St.rows o ++ [x.cells] := by rw [hF, St.rows_snoc]
      have e2 : (mergeF (l.take (i + 1))).length = o.length + 1 := by rw [hF]; simp
      refine ⟨i + 1, some (b8, g8), J8, ⟨by omega, fun b' g' e => (by cases e; exact hb8), ?_, hJ8⟩, by omega, ⟨wkn_int (wrap_id (by omega) (by omega)), ?_⟩, .refl _⟩
      · rw [e, e2]; exact hO8
      · rw [e2]; exact .refl _
  · rw [List.take_of_length_le (by simpa using h)] at hO ⊢
    exact end_out hO hw hJ.hwk (List.take_of_length_le (by simp))
end Go.Proofs.Ytafhiicjmlkhcaa
