/- Sizes of what is merged and split; the two functions whole. -/
import Derived.Test.YtafhiicjmlkhcaaS12
set_option linter.unusedVariables false
set_option linter.unusedSimpArgs false
namespace Go.Proofs.Ytafhiicjmlkhcaa
open Go Go.RowKit Go.Proofs.Ytafhiicjmlkhcaa.Abs

def asum : List St → Nat
  | [] => 0
  | x :: r => x.args.length + asum r
theorem St.sizeL_app (a b : List St) : St.sizeL (a ++ b) = St.sizeL a + St.sizeL b := by
  induction a with
  | nil => simp [St.sizeL]
  | cons x r ih => simp [St.sizeL, ih]; omega
theorem splitOne_size (x : St) : St.sizeL (splitOne x) ≤ x.size + x.args.length := by
  unfold splitOne
  split
  · rw [St.sizeL_app]
    have h : ∀ (l : List Arg), St.sizeL (l.map (St.field x.n)) = Arg.sizeL l + l.length := by
      intro l
      induction l with
      | nil => simp [St.sizeL, Arg.sizeL]
      | cons a r ih =>
        have h1 : (St.field x.n a).size = a.e.size + 2 := by simp [St.field, St.size, Ex.zero, Ex.size, Ex.sizeL, Arg.sizeL, St.sizeL, Arm.sizeL]; omega
        have h2 : Arg.sizeL (a :: r) = 1 + a.e.size + Arg.sizeL r := by simp [Arg.sizeL, Arg.size]
        simp only [List.map_cons, St.sizeL, h1, h2, ih, List.length_cons]; omega
    rw [h]
    have := St.size_eq x
    have h3 := St.size_eq (x.put [] x.cost)
    simp only [St.put, St.mk_e, St.mk_i, St.mk_l, St.mk_args, St.mk_body, St.mk_els, St.mk_arms] at h3
    have h4 : Arg.sizeL [] = 0 := rfl
    simp only [St.sizeL, St.put] at h3 ⊢
    omega
  · simp [St.sizeL]
theorem splitF_size (l : List St) : St.sizeL (splitF l) ≤ St.sizeL l + asum l := by
  induction l with
  | nil => simp [splitF, St.sizeL]
  | cons x r ih =>
    have := splitOne_size x
    simp only [splitF, List.flatMap_cons] at ih ⊢
    rw [St.sizeL_app]; simp only [St.sizeL, asum]; omega
theorem asum_dp (F : List St → List St) (l : List St) : asum (l.map (St.dp F)) = asum l := by
  induction l with
  | nil => rfl
  | cons x r ih => simp [asum, ih]
mutual
theorem St.split_size : ∀ x : St, (x.dp splitF).size + x.args.length ≤ 2 * x.size
  | .mk k c n m e i l a b el ar => by
    have h1 := St.split_sizeL b
    have h2 := St.split_sizeL el
    have h3 := Arm.split_sizeL ar
    have h4 := splitF_size (St.dpL splitF b)
    have h5 := splitF_size (St.dpL splitF el)
    have h6 := Arg.len_size a
    rw [St.dpL_map, asum_dp] at h4 h5
    rw [St.dpL_map] at h1 h2
    rw [St.dp, St.dpL_map, St.dpL_map]
    simp only [St.size, St.mk_args]
    omega
theorem St.split_sizeL : ∀ l : List St, St.sizeL (St.dpL splitF l) + asum l ≤ 2 * St.sizeL l
  | [] => by simp [St.dpL, St.sizeL, asum]
  | x :: r => by
    have h1 := St.split_size x
    have h2 := St.split_sizeL r
    rw [St.dpL]; simp only [St.sizeL, asum]; omega
theorem Arm.split_sizeL : ∀ l : List Arm, Arm.sizeL (Arm.dpL splitF l) ≤ 2 * Arm.sizeL l
  | [] => by simp [Arm.dpL, Arm.sizeL]
  | x :: r => by
    have h1 := Arm.split_size x
    have h2 := Arm.split_sizeL r
    rw [Arm.dpL]; simp only [Arm.sizeL]; omega
theorem Arm.split_size : ∀ x : Arm, (x.dp splitF).size ≤ 2 * x.size
  | .mk ls b => by
    have h1 := St.split_sizeL b
    have h4 := splitF_size (St.dpL splitF b)
    rw [St.dpL_map, asum_dp] at h4
    rw [St.dpL_map] at h1
    rw [Arm.dp, St.dpL_map]
    simp only [Arm.size]; omega
end
theorem takeK_size (o : List St) : ∀ (k : Nat) (x : St) (c : Int) (q : Nat), k ≤ q → q ≤ o.length → St.sizeL (o.take (takeK o k x c q).1) + (takeK o k x c q).2.size ≤ St.sizeL (o.take q) + x.size
  | 0, x, c, q, h, hq => by rw [takeK]; exact Nat.le_refl _
  | k + 1, x, c, q, h, hq => by
    rw [takeK]
    split
    · exact takeK_size o k x _ q (by omega) hq
    · split
      · exact Nat.le_refl _
      · have hl : k < o.length := by omega
        have ih := takeK_size o k (x.add (nth o k) (c + (nth o k).cost)) 0 k (Nat.le_refl _) (by omega)
        refine Nat.le_trans ih ?_
        have h1 : St.sizeL (o.take (k + 1)) ≤ St.sizeL (o.take q) := by
          have := St.sizeL_take_le (o.take q) (k + 1)
          rwa [List.take_take, Nat.min_eq_left h] at this
        rw [St.sizeL_take hl] at h1
        rw [nth_get hl]
        generalize o[k] = y at h1
        have h2 := St.size_eq (x.add y (c + y.cost))
        simp only [St.add, St.put, St.mk_e, St.mk_i, St.mk_l, St.mk_args, St.mk_body, St.mk_els, St.mk_arms] at h2 ⊢
        have h3 := St.size_eq x
        have h4 := St.size_eq y
        have h5 := y.i.size_pos
        have h6 : Arg.sizeL (⟨y.m, y.e⟩ :: x.args) = 1 + y.e.size + Arg.sizeL x.args := by simp [Arg.sizeL, Arg.size]
        omega
theorem mergeStep_size (o : List St) (x : St) : St.sizeL (mergeStep o x) ≤ St.sizeL o + x.size := by
  unfold mergeStep
  split
  · have := takeK_size o o.length x 0 o.length (Nat.le_refl _) (Nat.le_refl _)
    rw [List.take_length] at this
    rw [St.sizeL_snoc]; exact this
  · rw [St.sizeL_snoc]; exact Nat.le_refl _
theorem mergeF_size (l : List St) : St.sizeL (mergeF l) ≤ St.sizeL l := by
  suffices ∀ (l o : List St), St.sizeL (l.foldl mergeStep o) ≤ St.sizeL o + St.sizeL l by
    have := this l []; simpa [mergeF, St.sizeL] using this
  intro l
  induction l with
  | nil => intro o; simp [St.sizeL]
  | cons x r ih =>
    intro o
    have h1 := ih (mergeStep o x)
    have h2 := mergeStep_size o x
    simp only [List.foldl_cons, St.sizeL]; omega
mutual
theorem St.merge_size : ∀ x : St, (x.dp mergeF).size ≤ x.size
  | .mk k c n m e i l a b el ar => by
    have h1 := St.merge_sizeL b
    have h2 := St.merge_sizeL el
    have h3 := Arm.merge_sizeL ar
    have h4 := mergeF_size (St.dpL mergeF b)
    have h5 := mergeF_size (St.dpL mergeF el)
    rw [St.dp]
    simp only [St.size]
    omega
theorem St.merge_sizeL : ∀ l : List St, St.sizeL (St.dpL mergeF l) ≤ St.sizeL l
  | [] => by simp [St.dpL, St.sizeL]
  | x :: r => by
    have h1 := St.merge_size x
    have h2 := St.merge_sizeL r
    rw [St.dpL]; simp only [St.sizeL]; omega
theorem Arm.merge_sizeL : ∀ l : List Arm, Arm.sizeL (Arm.dpL mergeF l) ≤ Arm.sizeL l
  | [] => by simp [Arm.dpL, Arm.sizeL]
  | x :: r => by
    have h1 := Arm.merge_size x
    have h2 := Arm.merge_sizeL r
    rw [Arm.dpL]; simp only [Arm.sizeL]; omega
theorem Arm.merge_size : ∀ x : Arm, (x.dp mergeF).size ≤ x.size
  | .mk ls b => by
    have h1 := St.merge_sizeL b
    have h4 := mergeF_size (St.dpL mergeF b)
    rw [Arm.dp]
    simp only [Arm.size]; omega
end

theorem okParts {l : List St} {B : Nat} (h : St.sizeL l < B) {i : Nat} (hi : i < l.length) : St.sizeL l[i].body < B ∧ St.sizeL l[i].els < B ∧ ∀ (j : Nat) (h' : j < l[i].arms.length), St.sizeL (l[i].arms[j].body) < B := by
  have h1 := St.size_mem hi
  have h2 := St.size_eq l[i]
  refine ⟨by omega, by omega, fun j hj => ?_⟩
  have h3 := Arm.size_mem hj
  have h4 := Arm.size_eq l[i].arms[j]
  omega
theorem split_ok (l : List St) (hl : St.sizeL l < 40000000) : PCall Try.prog 10 [.sl .no (St.rows l)] (.sl .no (St.rows (splitF (l.map (St.dp splitF))))) := by
  have hd := deep_ok (fid := 18) (F := splitF) (OK := fun l => St.sizeL l < 40000000) (Pre := fun l => St.sizeL l < 1000000000) (by kernel_rfl) (fun l h => splitF_ok l h)
    (fun l h => by have := St.split_sizeL l; rw [St.dpL_map] at this; omega) (fun l h i hi => okParts h hi) (fun l h => by omega) _ l (Nat.lt_succ_self _) hl
  refine pcall_fn Code.ok10 (by simp [Code.f10]) fun H => ?_
  simp [Code.f10]
  refine CallK.pure hd ?_
  simp
  exact vshift_drop (.refl _) (.refl _)
theorem merge_ok (l : List St) (hl : St.sizeL l < 40000000) (hc : St.costsL l) : PCall Try.prog 8 [.sl .no (St.rows l)] (.sl .no (St.rows (mergeF (l.map (St.dp mergeF))))) := by
  have hd := deep_ok (fid := 15) (F := mergeF) (OK := fun l => St.sizeL l < 40000000 ∧ St.costsL l) (Pre := fun l => St.sizeL l < 100000000 ∧ CostOk l) (by kernel_rfl) (fun l h => mergeF_ok l h.1 h.2)
    (fun l h => by
      have := St.merge_sizeL l; rw [St.dpL_map] at this
      exact ⟨by omega, (CostOk.of h.2).dp mergeF⟩) (fun l h i hi => by
      have h1 := okParts h.1 hi
      have h2 := St.costsL_get h.2 hi
      rw [St.costs_eq] at h2
      refine ⟨⟨h1.1, h2.2.2.1⟩, ⟨h1.2.1, h2.2.2.2.1⟩, fun j hj => ⟨h1.2.2 j hj, ?_⟩⟩
      have := Arm.costsL_get h2.2.2.2.2 hj
      rwa [Arm.costs_eq] at this) (fun l h => by omega) _ l (Nat.lt_succ_self _) ⟨hl, hc⟩
  refine pcall_fn Code.ok8 (by simp [Code.f8]) fun H => ?_
  simp [Code.f8]
  refine CallK.pure hd ?_
  simp
  exact vshift_drop (.refl _) (.refl _)
end Go.Proofs.Ytafhiicjmlkhcaa
