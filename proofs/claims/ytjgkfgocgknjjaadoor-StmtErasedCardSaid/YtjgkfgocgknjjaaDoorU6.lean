/- How deep statements stand. -/
import Derived.Test.YtjgkfgocgknjjaaDoorU5
set_option linter.unusedVariables false
set_option linter.unusedSimpArgs false
namespace Go.Proofs.YtjgkfgocgknjjaaDoor
open Go Go.RowKit Go.Proofs.YtjgkfgocgknjjaaDoor.Abs

mutual
def St.dep : St → Nat
  | .mk _ _ _ _ _ _ _ _ body els arms => 1 + max (max (St.depL body) (St.depL els)) (Arm.depL arms)
def Arm.dep : Arm → Nat
  | .mk _ body => St.depL body
def St.depL : List St → Nat
  | [] => 0
  | x :: r => max x.dep (St.depL r)
def Arm.depL : List Arm → Nat
  | [] => 0
  | x :: r => max x.dep (Arm.depL r)
end
theorem St.dep_eq (x : St) : x.dep = 1 + max (max (St.depL x.body) (St.depL x.els)) (Arm.depL x.arms) := by cases x; simp [St.dep]
theorem Arm.dep_eq (x : Arm) : x.dep = St.depL x.body := by cases x; simp [Arm.dep]
mutual
theorem St.dep_le : ∀ x : St, x.dep ≤ x.size
  | .mk _ _ _ _ e i l args body els arms => by
    have := St.depL_le body; have := St.depL_le els; have := Arm.depL_le arms
    simp only [St.dep, St.size]; omega
theorem Arm.dep_le : ∀ x : Arm, x.dep ≤ x.size
  | .mk _ body => by have := St.depL_le body; simp only [Arm.dep, Arm.size]; omega
theorem St.depL_le : ∀ l : List St, St.depL l ≤ St.sizeL l
  | [] => by simp [St.depL]
  | x :: r => by have := St.dep_le x; have := St.depL_le r; simp only [St.depL, St.sizeL]; omega
theorem Arm.depL_le : ∀ l : List Arm, Arm.depL l ≤ Arm.sizeL l
  | [] => by simp [Arm.depL]
  | x :: r => by have := Arm.dep_le x; have := Arm.depL_le r; simp only [Arm.depL, Arm.sizeL]; omega
end
theorem St.depL_take : ∀ {l : List St} {i : Nat} (h : i < l.length), St.depL (l.take (i + 1)) = max (St.depL (l.take i)) (l[i]).dep
  | x :: r, 0, h => by simp [St.depL]
  | x :: r, i + 1, h => by have := St.depL_take (l := r) (i := i) (by simpa using h); simp [St.depL, this] <;> omega
theorem Arm.depL_take : ∀ {l : List Arm} {i : Nat} (h : i < l.length), Arm.depL (l.take (i + 1)) = max (Arm.depL (l.take i)) (l[i]).dep
  | x :: r, 0, h => by simp [Arm.depL]
  | x :: r, i + 1, h => by have := Arm.depL_take (l := r) (i := i) (by simpa using h); simp [Arm.depL, this] <;> omega
theorem St.depL_mem : ∀ {l : List St} (i : Nat), St.depL (l.take i) ≤ St.depL l
  | [], i => by simp [St.depL]
  | x :: r, 0 => by simp [St.depL]
  | x :: r, i + 1 => by have := St.depL_mem (l := r) i; simp [St.depL]; omega
theorem Arm.depL_mem : ∀ {l : List Arm} (i : Nat), Arm.depL (l.take i) ≤ Arm.depL l
  | [], i => by simp [Arm.depL]
  | x :: r, 0 => by simp [Arm.depL]
  | x :: r, i + 1 => by have := Arm.depL_mem (l := r) i; simp [Arm.depL]; omega
def depS : List (List St) → Nat
  | [] => 1
  | x :: r => max (1 + St.depL x) (depS r)
theorem depS_pos : ∀ l : List (List St), 1 ≤ depS l
  | [] => by simp [depS]
  | x :: r => by simp [depS]; omega
theorem depS_take : ∀ {l : List (List St)} {i : Nat} (h : i < l.length), depS (l.take (i + 1)) = max (depS (l.take i)) (1 + St.depL (l[i]))
  | x :: r, 0, h => by simp [depS] <;> omega
  | x :: r, i + 1, h => by have := depS_take (l := r) (i := i) (by simpa using h); simp [depS, this] <;> omega
theorem depS_mem : ∀ {l : List (List St)} (i : Nat), depS (l.take i) ≤ depS l
  | [], i => by simp [depS]
  | x :: r, 0 => by have := depS_pos (x :: r); simpa [depS] using this
  | x :: r, i + 1 => by have := depS_mem (l := r) i; simp [depS]; omega
theorem depS_arms : ∀ l : List Arm, depS (l.map Arm.body) = 1 + Arm.depL l
  | [] => by simp [depS, Arm.depL]
  | x :: r => by simp [depS, Arm.depL, depS_arms r, Arm.dep_eq] <;> omega
theorem St.dep_subs (x : St) : x.dep = depS x.subs := by simp [St.dep_eq, St.subs, depS, depS_arms] <;> omega

set_option maxRecDepth 20000 in
set_option maxHeartbeats 4000000 in
theorem deep28_ok : ∀ (k : Nat), k ≤ 800000000 → ∀ l : List St, St.sizeL l < k → PCall Tryd.prog 13 [.sl .no (St.rows l)] (.int .i64 (St.depL l)) := by
  intro k
  induction k with
  | zero => intro _ l h; omega
  | succ k ih =>
  intro hk l hl
  have hlen0 := St.len_size l
  have hcl := St.depL_le l
  refine pcall_fn Code.ok13 (by simp [Code.f13]) fun H => ?_
  simp [Code.f13]
  refine LoopK.told (σ := Nat) (fun s => [(4, .int .i64 s), (0, .sl .no (St.rows l)), (3, .int .i64 (St.depL (l.take s)))]) (fun _ => H) (fun s => s ≤ l.length) (fun s => l.length - s) 0 ?_ ?_ ?_ ?_
  · simp
  · simp [St.depL]
  · simp
  intro i hi
  simp [Code.f13l0]
  refine ⟨fun h => ?_, fun h => ?_⟩
  · have hs := St.size_mem h
    have hse := St.size_eq l[i]
    have ht := St.depL_take h
    have hm := St.depL_mem (l := l) (i + 1)
    have hc := St.dep_eq l[i]
    have hg := List.getElem?_eq_getElem h
    have := l[i].e.size_pos
    generalize l[i] = x at hs hse ht hc hg this
    have hae := Arm.len_size x.arms
    simp [hg]
    refine PCallK.pure (ih (by omega) x.body (by omega)) ?_
    simp [hg]
    refine PCallK.pure (ih (by omega) x.els (by omega)) ?_
    simp
    refine LoopK.told (σ := Nat) (fun s => [(6, .int .i64 s), (5, .int .i64 ((max (max (St.depL x.body) (St.depL x.els)) (Arm.depL (x.arms.take s)) : Nat) : Int)), (4, .int .i64 i), (0, .sl .no (St.rows l)), (3, .int .i64 (St.depL (l.take i)))]) (fun _ => H) (fun s => s ≤ x.arms.length) (fun s => x.arms.length - s) 0 ?_ ?_ ?_ ?_
    · simp
    · simp [Arm.depL]
      exact wkn_int (by split <;> omega)
    · simp
    intro j hj
    simp [Code.f13l1, hg]
    refine ⟨fun hjl => ?_, fun hjl => ?_⟩
    · have hav := Arm.size_mem hjl
      have hae := Arm.size_eq x.arms[j]
      have hat := Arm.depL_take hjl
      have hac := Arm.dep_eq x.arms[j]
      simp [List.getElem?_eq_getElem hjl]
      refine CallK.pure (ih (by omega) x.arms[j].body (by omega)) ?_
      simp
      refine ⟨j + 1, by omega, by omega, wkn_int (wrap_id (by omega) (by omega)), wkn_int ?_⟩
      split <;> omega
    · rw [List.take_of_length_le hjl]
      refine ⟨i + 1, by omega, by omega, wkn_int (wrap_id (by omega) (by omega)), wkn_int ?_⟩
      rw [wrap_id (by omega) (by omega)]
      split <;> omega
  · rw [List.take_of_length_le h]
    exact vi rfl

set_option maxRecDepth 20000 in
set_option maxHeartbeats 4000000 in
theorem deep_ok : ∀ (k : Nat), k ≤ 800000000 → ∀ l : List St, St.sizeL l < k → PCall Tryd.prog 12 [.sl .no (St.rows l)] (.int .i64 (St.depL l)) := by
  intro k
  induction k with
  | zero => intro _ l h; omega
  | succ k ih =>
  intro hk l hl
  have hlen0 := St.len_size l
  have hcl := St.depL_le l
  refine pcall_fn Code.ok12 (by simp [Code.f12]) fun H => ?_
  simp [Code.f12]
  refine LoopK.told (σ := Nat) (fun s => [(11, .int .i64 s), (10, .int .i64 l.length), (9, .sl .no (St.rows l)), (3, .int .i64 (St.depL (l.take s)))]) (fun _ => H) (fun s => s ≤ l.length) (fun s => l.length - s) 0 ?_ ?_ ?_ ?_
  · simp
  · simp [St.depL]
  · simp
  intro i hi
  simp [Code.f12l0]
  refine ⟨fun h => ?_, fun h => ?_⟩
  · have hs := St.size_mem h
    have ht := St.depL_take h
    have hm := St.depL_mem (l := l) (i + 1)
    have hc := St.dep_subs l[i]
    have hg := List.getElem?_eq_getElem h
    have hse := St.size_eq l[i]
    have hae := Arm.len_size l[i].arms
    generalize l[i] = x at hs ht hc hg hse hae
    have hsl := St.subs_len x
    simp [hg]
    intro g
    refine CallK.pure (within_ok x (by omega)) ?_
    simp
    refine LoopK.told (σ := Nat) (fun s => [(18, .int .i64 s), (17, .int .i64 x.subs.length), (16, .sl .no (stlRows x.subs)), (6, .int .i64 (depS (x.subs.take s))), (11, .int .i64 i), (10, .int .i64 l.length), (9, .sl .no (St.rows l)), (3, .int .i64 (St.depL (l.take i)))]) (fun _ => H) (fun s => s ≤ x.subs.length) (fun s => x.subs.length - s) 0 ?_ ?_ ?_ ?_
    · simp
    · simp [depS]
    · simp
    intro j hj
    simp [Code.f12l1]
    refine ⟨fun hjl => ?_, fun hjl => ?_⟩
    · have hav := x.subs_size hjl
      have hat := depS_take hjl
      have hdl := St.depL_le x.subs[j]
      simp [List.getElem?_eq_getElem hjl]
      refine CallK.pure (ih (by omega) x.subs[j] (by omega)) ?_
      simp
      rw [wrap_id (n := 1 + (St.depL x.subs[j] : Int)) (by omega) (by omega)]
      refine ⟨j + 1, by omega, by omega, wkn_int (wrap_id (by omega) (by omega)), wkn_int ?_⟩
      split <;> omega
    · rw [List.take_of_length_le hjl]
      refine ⟨i + 1, by omega, by omega, wkn_int (wrap_id (by omega) (by omega)), wkn_int ?_⟩
      split <;> omega
  · rw [List.take_of_length_le h]
    exact vi rfl
end Go.Proofs.YtjgkfgocgknjjaaDoor
