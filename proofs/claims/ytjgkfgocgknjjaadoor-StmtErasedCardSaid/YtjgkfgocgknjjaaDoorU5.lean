/- How many statements, how deep. -/
import Derived.Test.YtjgkfgocgknjjaaDoorU4
set_option linter.unusedVariables false
set_option linter.unusedSimpArgs false
namespace Go.Proofs.YtjgkfgocgknjjaaDoor
open Go Go.RowKit Go.Proofs.YtjgkfgocgknjjaaDoor.Abs

def stlRows (l : List (List St)) : List (List AV) := l.map fun m => [.sl .no (St.rows m)]
@[simp] theorem stlRows_length (l : List (List St)) : (stlRows l).length = l.length := by simp [stlRows]
@[simp] theorem stlRows_get (l : List (List St)) (i : Nat) : (stlRows l)[i]? = (l[i]?).map fun m => [.sl .no (St.rows m)] := by simp [stlRows]
theorem stlRows_mem {l : List (List St)} : ∀ r ∈ stlRows l, r.length = 1 := by simp [stlRows]
theorem stlRows_app (l m : List (List St)) : stlRows (l ++ m) = stlRows l ++ stlRows m := by simp [stlRows]
/-- All lists in one. -/
def St.subs (x : St) : List (List St) := x.body :: x.els :: x.arms.map Arm.body
theorem St.subs_size (x : St) : ∀ {i : Nat} (h : i < x.subs.length), St.sizeL (x.subs[i]) < x.size := by
  have hs := St.size_eq x
  have := x.e.size_pos
  intro i h
  match i, h with
  | 0, h => show St.sizeL x.body < _; omega
  | 1, h => show St.sizeL x.els < _; omega
  | i + 2, h =>
    have h' : i < x.arms.length := by simpa [St.subs] using h
    have := Arm.size_mem h'
    have := Arm.size_eq x.arms[i]
    show St.sizeL ((x.arms.map Arm.body)[i]'(by simpa using h')) < _
    simp; omega
theorem St.subs_len (x : St) : x.subs.length = x.arms.length + 2 := by simp [St.subs]

set_option maxRecDepth 20000 in
set_option maxHeartbeats 4000000 in
theorem within_ok (x : St) (hx : x.size < 900000000) : PCall Tryd.prog 21 [.agg x.cells] (.sl .no (stlRows x.subs)) := by
  have hsz := St.size_eq x
  have hl3 := Arm.len_size x.arms
  refine pcall_fn Code.ok21 (by simp [Code.f21]) fun H => ?_
  simp [Code.f21]
  intro g1
  refine LoopK.told (σ := Nat × Wh × AHeap) (fun s => [(14, .int .i64 s.1), (13, .int .i64 x.arms.length), (12, .sl .no (Arm.rows x.arms)), (3, .sl (ownS s.2.1) (stlRows (x.body :: x.els :: (x.arms.take s.1).map Arm.body)))]) (fun s => s.2.2)
    (fun s => s.1 ≤ x.arms.length ∧ WOk H.length s.2.1 ∧ TailAt s.2.2 s.2.1 1 ∧ Ov s.2.2 H) (fun s => x.arms.length - s.1) (0, none, H ++ [some (.rows g1 [x.cells])]) ?_ ?_ ?_ ?_
  · simp [Ov.app, Ov.refl]
  · simp [stlRows]
  · simp
  rintro ⟨i, w, J⟩ ⟨hi, hw, hT, hJ⟩
  simp only at hi hw hT hJ
  simp [Code.f21l0]
  refine ⟨fun h => ?_, fun h => ?_⟩
  · have ht := List.take_succ_eq_append_getElem h
    have ht2 : List.take (i + 1) (x.arms.map Arm.body) = List.take i (x.arms.map Arm.body) ++ [x.arms[i].body] := by rw [← List.map_take, ht, List.map_append, List.map_take]; rfl
    simp [List.getElem?_eq_getElem h]
    intro g2 g3
    refine app_own (hT.app _) hw (hJ.app _) (by simp) stlRows_mem (by simp) (by simp; omega) fun w3 J3 hT3 hw3 hJ3 hk3 => ?_
    simp
    refine ⟨i + 1, w3, J3, ⟨by omega, hw3, hT3, hJ3⟩, by omega, ⟨wkn_int (wrap_id (by omega) (by omega)), ?_⟩, .refl _⟩
    rw [ht2, ← List.cons_append, ← List.cons_append, stlRows_app]
    exact .refl _
  · rw [← List.map_take, List.take_of_length_le h]
    exact vshift_drop (wkn_no _ _) hJ.hwk

mutual
def St.cnt : St → Nat
  | .mk _ _ _ _ _ _ _ _ body els arms => 1 + St.cntL body + St.cntL els + Arm.cntL arms
def Arm.cnt : Arm → Nat
  | .mk _ body => St.cntL body
def St.cntL : List St → Nat
  | [] => 0
  | x :: r => x.cnt + St.cntL r
def Arm.cntL : List Arm → Nat
  | [] => 0
  | x :: r => x.cnt + Arm.cntL r
end
theorem St.cnt_eq (x : St) : x.cnt = 1 + St.cntL x.body + St.cntL x.els + Arm.cntL x.arms := by cases x; simp [St.cnt]
theorem Arm.cnt_eq (x : Arm) : x.cnt = St.cntL x.body := by cases x; simp [Arm.cnt]
mutual
theorem St.cnt_le : ∀ x : St, x.cnt ≤ x.size
  | .mk _ _ _ _ e i l args body els arms => by
    have := St.cntL_le body; have := St.cntL_le els; have := Arm.cntL_le arms
    simp only [St.cnt, St.size]; omega
theorem Arm.cnt_le : ∀ x : Arm, x.cnt ≤ x.size
  | .mk _ body => by have := St.cntL_le body; simp only [Arm.cnt, Arm.size]; omega
theorem St.cntL_le : ∀ l : List St, St.cntL l ≤ St.sizeL l
  | [] => by simp [St.cntL]
  | x :: r => by have := St.cnt_le x; have := St.cntL_le r; simp only [St.cntL, St.sizeL]; omega
theorem Arm.cntL_le : ∀ l : List Arm, Arm.cntL l ≤ Arm.sizeL l
  | [] => by simp [Arm.cntL]
  | x :: r => by have := Arm.cnt_le x; have := Arm.cntL_le r; simp only [Arm.cntL, Arm.sizeL]; omega
end
theorem St.cntL_take : ∀ {l : List St} {i : Nat} (h : i < l.length), St.cntL (l.take (i + 1)) = St.cntL (l.take i) + (l[i]).cnt
  | x :: r, 0, h => by simp [St.cntL]
  | x :: r, i + 1, h => by have := St.cntL_take (l := r) (i := i) (by simpa using h); simp [St.cntL, this]; omega
theorem Arm.cntL_take : ∀ {l : List Arm} {i : Nat} (h : i < l.length), Arm.cntL (l.take (i + 1)) = Arm.cntL (l.take i) + (l[i]).cnt
  | x :: r, 0, h => by simp [Arm.cntL]
  | x :: r, i + 1, h => by have := Arm.cntL_take (l := r) (i := i) (by simpa using h); simp [Arm.cntL, this]; omega
theorem St.cntL_mem : ∀ {l : List St} (i : Nat), St.cntL (l.take i) ≤ St.cntL l
  | [], i => by simp [St.cntL]
  | x :: r, 0 => by simp [St.cntL]
  | x :: r, i + 1 => by have := St.cntL_mem (l := r) i; simp [St.cntL]; omega
theorem Arm.cntL_mem : ∀ {l : List Arm} (i : Nat), Arm.cntL (l.take i) ≤ Arm.cntL l
  | [], i => by simp [Arm.cntL]
  | x :: r, 0 => by simp [Arm.cntL]
  | x :: r, i + 1 => by have := Arm.cntL_mem (l := r) i; simp [Arm.cntL]; omega
def cntS : List (List St) → Nat
  | [] => 0
  | x :: r => St.cntL x + cntS r
theorem cntS_take : ∀ {l : List (List St)} {i : Nat} (h : i < l.length), cntS (l.take (i + 1)) = cntS (l.take i) + St.cntL (l[i])
  | x :: r, 0, h => by simp [cntS]
  | x :: r, i + 1, h => by have := cntS_take (l := r) (i := i) (by simpa using h); simp [cntS, this]; omega
theorem cntS_mem : ∀ {l : List (List St)} (i : Nat), cntS (l.take i) ≤ cntS l
  | [], i => by simp [cntS]
  | x :: r, 0 => by simp [cntS]
  | x :: r, i + 1 => by have := cntS_mem (l := r) i; simp [cntS]; omega
theorem cntS_arms : ∀ l : List Arm, cntS (l.map Arm.body) = Arm.cntL l
  | [] => by simp [cntS, Arm.cntL]
  | x :: r => by simp [cntS, Arm.cntL, cntS_arms r, Arm.cnt_eq]
theorem St.cnt_subs (x : St) : x.cnt = 1 + cntS x.subs := by simp [St.cnt_eq, St.subs, cntS, cntS_arms]; omega

set_option maxRecDepth 20000 in
set_option maxHeartbeats 4000000 in
theorem count28_ok : ∀ (k : Nat), k ≤ 800000000 → ∀ l : List St, St.sizeL l < k → PCall Tryd.prog 11 [.sl .no (St.rows l)] (.int .i64 (St.cntL l)) := by
  intro k
  induction k with
  | zero => intro _ l h; omega
  | succ k ih =>
  intro hk l hl
  have hlen0 := St.len_size l
  have hcl := St.cntL_le l
  refine pcall_fn Code.ok11 (by simp [Code.f11]) fun H => ?_
  simp [Code.f11]
  refine LoopK.told (σ := Nat) (fun s => [(4, .int .i64 s), (0, .sl .no (St.rows l)), (3, .int .i64 (St.cntL (l.take s)))]) (fun _ => H) (fun s => s ≤ l.length) (fun s => l.length - s) 0 ?_ ?_ ?_ ?_
  · simp
  · simp [St.cntL]
  · simp
  intro i hi
  simp [Code.f11l0]
  refine ⟨fun h => ?_, fun h => ?_⟩
  · have hs := St.size_mem h
    have hse := St.size_eq l[i]
    have ht := St.cntL_take h
    have hm := St.cntL_mem (l := l) (i + 1)
    have hc := St.cnt_eq l[i]
    have hg := List.getElem?_eq_getElem h
    have := l[i].e.size_pos
    generalize l[i] = x at hs hse ht hc hg this
    have hae := Arm.len_size x.arms
    simp [hg]
    refine PCallK.pure (ih (by omega) x.body (by omega)) ?_
    simp [hg]
    refine PCallK.pure (ih (by omega) x.els (by omega)) ?_
    simp
    refine LoopK.told (σ := Nat) (fun s => [(5, .int .i64 s), (4, .int .i64 i), (0, .sl .no (St.rows l)), (3, .int .i64 (((St.cntL (l.take i) + 1 + St.cntL x.body + St.cntL x.els + Arm.cntL (x.arms.take s) : Nat)) : Int))]) (fun _ => H) (fun s => s ≤ x.arms.length) (fun s => x.arms.length - s) 0 ?_ ?_ ?_ ?_
    · simp
    · simp [Arm.cntL]
      rw [wrap_id (n := (St.cntL (l.take i) : Int) + 1) (by omega) (by omega), wrap_id (n := (St.cntL (l.take i) : Int) + 1 + St.cntL x.body) (by omega) (by omega), wrap_id (by omega) (by omega)]
      exact .refl _
    · simp
    intro j hj
    simp [Code.f11l1, hg]
    refine ⟨fun hjl => ?_, fun hjl => ?_⟩
    · have hav := Arm.size_mem hjl
      have hae := Arm.size_eq x.arms[j]
      have hat := Arm.cntL_take hjl
      have ham := Arm.cntL_mem (l := x.arms) (j + 1)
      have hac := Arm.cnt_eq x.arms[j]
      simp [List.getElem?_eq_getElem hjl]
      refine CallK.pure (ih (by omega) x.arms[j].body (by omega)) ?_
      simp
      refine ⟨j + 1, by omega, by omega, wkn_int (wrap_id (by omega) (by omega)), wkn_int ?_⟩
      rw [wrap_id (by omega) (by omega)]; omega
    · rw [List.take_of_length_le hjl]
      refine ⟨i + 1, by omega, by omega, wkn_int (wrap_id (by omega) (by omega)), wkn_int ?_⟩
      omega
  · rw [List.take_of_length_le h]
    exact vi rfl

set_option maxRecDepth 20000 in
set_option maxHeartbeats 4000000 in
theorem count_ok : ∀ (k : Nat), k ≤ 800000000 → ∀ l : List St, St.sizeL l < k → PCall Tryd.prog 10 [.sl .no (St.rows l)] (.int .i64 (St.cntL l)) := by
  intro k
  induction k with
  | zero => intro _ l h; omega
  | succ k ih =>
  intro hk l hl
  have hlen0 := St.len_size l
  have hcl := St.cntL_le l
  refine pcall_fn Code.ok10 (by simp [Code.f10]) fun H => ?_
  simp [Code.f10]
  refine LoopK.told (σ := Nat) (fun s => [(12, .int .i64 s), (11, .int .i64 l.length), (10, .sl .no (St.rows l)), (3, .int .i64 ((l.length : Int) + St.cntL (l.take s) - s))]) (fun _ => H) (fun s => s ≤ l.length) (fun s => l.length - s) 0 ?_ ?_ ?_ ?_
  · simp
  · simp [St.cntL]
  · simp
  intro i hi
  simp [Code.f10l0]
  refine ⟨fun h => ?_, fun h => ?_⟩
  · have hs := St.size_mem h
    have ht := St.cntL_take h
    have hm := St.cntL_mem (l := l) (i + 1)
    have hc := St.cnt_subs l[i]
    have hg := List.getElem?_eq_getElem h
    have hse := St.size_eq l[i]
    have hae := Arm.len_size l[i].arms
    generalize l[i] = x at hs ht hc hg hse hae
    have hsl := St.subs_len x
    simp [hg]
    intro g
    refine CallK.pure (within_ok x (by omega)) ?_
    simp
    refine LoopK.told (σ := Nat) (fun s => [(19, .int .i64 s), (18, .int .i64 x.subs.length), (17, .sl .no (stlRows x.subs)), (12, .int .i64 i), (11, .int .i64 l.length), (10, .sl .no (St.rows l)), (3, .int .i64 ((l.length : Int) + St.cntL (l.take i) - i + cntS (x.subs.take s)))]) (fun _ => H) (fun s => s ≤ x.subs.length) (fun s => x.subs.length - s) 0 ?_ ?_ ?_ ?_
    · simp
    · simp [cntS]
    · simp
    intro j hj
    simp [Code.f10l1]
    refine ⟨fun hjl => ?_, fun hjl => ?_⟩
    · have hav := x.subs_size hjl
      have hat := cntS_take hjl
      have ham := cntS_mem (l := x.subs) (j + 1)
      simp [List.getElem?_eq_getElem hjl]
      refine CallK.pure (ih (by omega) x.subs[j] (by omega)) ?_
      simp
      refine ⟨j + 1, by omega, by omega, wkn_int (wrap_id (by omega) (by omega)), wkn_int ?_⟩
      rw [wrap_id (by omega) (by omega)]; omega
    · rw [List.take_of_length_le hjl]
      refine ⟨i + 1, by omega, by omega, wkn_int (wrap_id (by omega) (by omega)), wkn_int ?_⟩
      omega
  · rw [List.take_of_length_le h]
    exact vi (by omega)
end Go.Proofs.YtjgkfgocgknjjaaDoor
