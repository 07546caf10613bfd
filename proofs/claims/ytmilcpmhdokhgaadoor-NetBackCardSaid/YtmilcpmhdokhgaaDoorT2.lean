/- Networks: contacts; the same. -/
import Derived.Test.YtmilcpmhdokhgaaDoorT1
set_option linter.unusedVariables false
set_option linter.unusedSimpArgs false
namespace Go.Proofs.YtmilcpmhdokhgaaDoor
open Go Go.RowKit Go.Proofs.YtmilcpmhdokhgaaDoor.Abs

def Nt.con : Nt → Int := Nt.para fun x rs => if x.kind = 1 then 1 else rs.sum
theorem Nt.con_eq (x : Nt) : x.con = if x.kind = 1 then 1 else (x.l.map Nt.con).sum := Nt.para_eq _ x
theorem Nt.sum_range {f : Nt → Int} : ∀ {l : List Nt}, (∀ x ∈ l, 0 ≤ f x ∧ f x ≤ x.size) → 0 ≤ (l.map f).sum ∧ (l.map f).sum ≤ Nt.sizeL l
  | [], _ => by simp [Nt.sizeL]
  | x :: r, h => by
    have h1 := h x (by simp)
    have h2 := Nt.sum_range (f := f) (l := r) fun y hy => h y (by simp [hy])
    simp [Nt.sizeL]; omega
theorem Nt.con_range (x : Nt) : 0 ≤ x.con ∧ x.con ≤ x.size := by
  refine Nt.sized (p := fun x => 0 ≤ x.con ∧ x.con ≤ x.size) ?_ x
  intro x ih
  rw [Nt.con_eq]
  have h := Nt.sum_range (f := Nt.con) (l := x.l) fun y hy => by obtain ⟨i, hi, rfl⟩ := List.mem_iff_getElem.1 hy; exact ih i hi
  have := Nt.size_eq x
  split <;> omega
theorem Nt.sizeL_take_le (l : List Nt) (i : Nat) : Nt.sizeL (l.take i) ≤ Nt.sizeL l := by
  induction l generalizing i with
  | nil => simp
  | cons x r ih => cases i with
    | zero => simp [Nt.sizeL]
    | succ i => have := ih i; simp [Nt.sizeL]; omega
set_option maxRecDepth 20000 in
set_option maxHeartbeats 4000000 in
theorem net_contacts : ∀ (k : Nat), k ≤ 1000000000 → ∀ x : Nt, x.size < k → PCall Tryd.prog 23 [.agg x.cells] (.int .i64 x.con) := by
  intro k
  induction k with
  | zero => intro _ e h; omega
  | succ k ih =>
  intro hk x hx
  have hsz := Nt.size_eq x
  have hlen := Nt.len_size x.l
  refine pcall_fn Code.ok23 (by simp [Code.f23]) fun H => ?_
  have e0 := Nt.con_eq x
  by_cases h1 : x.kind = 1
  · rw [e0, if_pos h1]
    simp [Code.f23, h1]
    intro g
    exact vid rfl
  rw [if_neg h1] at e0
  rw [e0]
  simp [Code.f23, h1]
  intro g
  have hr : ∀ i, 0 ≤ ((x.l.take i).map Nt.con).sum ∧ ((x.l.take i).map Nt.con).sum ≤ Nt.sizeL (x.l.take i) := fun i => Nt.sum_range fun x _ => Nt.con_range x
  have hts := Nt.sizeL_take_le x.l
  refine LoopK.told (σ := Nat × AHeap) (fun i => [(12, .int .i64 i.1), (11, .int .i64 x.l.length), (10, .sl .no (Nt.rows x.l)), (3, .int .i64 ((x.l.take i.1).map Nt.con).sum)]) (fun i => i.2)
    (fun i => i.1 ≤ x.l.length ∧ Ov i.2 H) (fun i => x.l.length - i.1) (0, _) ?_ ?_ (.refl _) ?_
  · exact ⟨by simp, (Ov.refl H).app _⟩
  · simp
  rintro ⟨i, J⟩ ⟨hi, hJ⟩
  simp only at hi hJ
  simp [Code.f23l0]
  refine ⟨fun h => ?_, fun h => ?_⟩
  · have hs := Nt.size_mem h
    have ht := List.take_succ_eq_append_getElem h
    have hget := List.getElem?_eq_getElem h
    have r1 := hr i
    have r2 := hr (i + 1)
    have t2 := hts (i + 1)
    have t1 := hts i
    generalize x.l[i] = y at hs ht hget
    rw [ht] at r2
    simp at r1 r2
    simp [hget]
    intro g2
    refine CallK.pure (ih (by omega) y (by omega)) ?_
    simp
    have e1 : List.take (i + 1) (x.l.map Nt.con) = List.take i (x.l.map Nt.con) ++ [y.con] := by rw [← List.map_take, ht, List.map_append, List.map_take]; rfl
    refine ⟨i + 1, _, ⟨by omega, hJ.app _⟩, by omega, ⟨wkn_int (wrap_id (by omega) (by omega)), wkn_int ?_⟩, .refl _⟩
    rw [e1, List.sum_append, wrap_id]
    · simp
    · have := Nt.con_range y; omega
    · rw [ht] at t2; omega
  · refine vshift_drop (wkn_int ?_) hJ.hwk
    rw [List.take_of_length_le (by simpa using h)]
set_option maxRecDepth 20000 in
set_option maxHeartbeats 4000000 in
theorem r44_contacts : ∀ (k : Nat), k ≤ 1000000000 → ∀ x : Nt, x.size < k → PCall Tryd.prog 24 [.agg x.cells] (.int .i64 x.con) := by
  intro k
  induction k with
  | zero => intro _ e h; omega
  | succ k ih =>
  intro hk x hx
  have hsz := Nt.size_eq x
  have hlen := Nt.len_size x.l
  refine pcall_fn Code.ok24 (by simp [Code.f24]) fun H => ?_
  have e0 := Nt.con_eq x
  by_cases h1 : x.kind = 1
  · rw [e0, if_pos h1]
    simp [Code.f24, h1]
    intro g
    refine LoopK.told (σ := Unit) (fun i => [(4, .int .i64 0), (3, .int .i64 1), (1, .ptr H.length g 0 0)]) (fun i => H ++ [some (.rows g [x.cells])]) (fun i => True) (fun i => 0) () trivial (by simp) (.refl _) ?_
    intro _ _
    simp [Code.f24l0, h1]
    repeat' (first | exact vid rfl | apply And.intro | intro _)
  rw [if_neg h1] at e0
  rw [e0]
  simp [Code.f24, h1]
  intro g
  have hr : ∀ i, 0 ≤ ((x.l.take i).map Nt.con).sum ∧ ((x.l.take i).map Nt.con).sum ≤ Nt.sizeL (x.l.take i) := fun i => Nt.sum_range fun x _ => Nt.con_range x
  have hts := Nt.sizeL_take_le x.l
  refine LoopK.told (σ := Nat) (fun i => [(4, .int .i64 i), (3, .int .i64 ((x.l.take i).map Nt.con).sum), (1, .ptr H.length g 0 0)]) (fun i => H ++ [some (.rows g [x.cells])])
    (fun i => i ≤ x.l.length) (fun i => x.l.length - i) 0 ?_ ?_ (.refl _) ?_
  · simp
  · simp
  intro i hi
  simp [Code.f24l0, h1]
  refine ⟨fun h => ?_, fun h => ?_⟩
  · have hs := Nt.size_mem h
    have ht := List.take_succ_eq_append_getElem h
    have hget := List.getElem?_eq_getElem h
    have r1 := hr i
    have r2 := hr (i + 1)
    have t2 := hts (i + 1)
    have t1 := hts i
    generalize x.l[i] = y at hs ht hget
    rw [ht] at r2
    simp at r1 r2
    simp [hget]
    refine CallK.pure (ih (by omega) y (by omega)) ?_
    simp
    have e1 : List.take (i + 1) (x.l.map Nt.con) = List.take i (x.l.map Nt.con) ++ [y.con] := by rw [← List.map_take, ht, List.map_append, List.map_take]; rfl
    refine ⟨i + 1, by omega, by omega, wkn_int (wrap_id (by omega) (by omega)), wkn_int ?_⟩
    rw [e1, List.sum_append, wrap_id]
    · simp
    · have := Nt.con_range y; omega
    · rw [ht] at t2; omega
  · refine vid ?_
    rw [List.take_of_length_le (by simpa using h)]

mutual
def Nt.beq : Nt → Nt → Bool
  | .mk a b e l, .mk a' b' e' l' => decide (a = a') && decide (b = b') && e.beq e' && Nt.beqL l l'
def Nt.beqL : List Nt → List Nt → Bool
  | [], [] => true
  | x :: l, y :: m => x.beq y && Nt.beqL l m
  | _, _ => false
end
mutual
theorem Nt.beq_iff : ∀ a b : Nt, a.beq b = true ↔ a = b
  | .mk a b e l, .mk a' b' e' l' => by
    have := Nt.beqL_iff l l'
    simp [Nt.beq, this, Ex.beq_iff, and_assoc]
theorem Nt.beqL_iff : ∀ l m : List Nt, Nt.beqL l m = true ↔ l = m
  | [], [] => by simp [Nt.beqL]
  | x :: l, y :: m => by
    have h1 := Nt.beq_iff x y
    have h2 := Nt.beqL_iff l m
    simp [Nt.beqL, h1, h2]
  | [], _ :: _ => by simp [Nt.beqL]
  | _ :: _, [] => by simp [Nt.beqL]
end
theorem Nt.beq_eq (a b : Nt) : a.beq b = (decide (a.kind = b.kind) && decide (a.neg = b.neg) && a.e.beq b.e && Nt.beqL a.l b.l) := by cases a; cases b; rfl
theorem Nt.beqL_len {l m : List Nt} (h : l.length ≠ m.length) : Nt.beqL l m = false := by
  cases h2 : Nt.beqL l m with
  | false => rfl
  | true => rw [(Nt.beqL_iff l m).1 h2] at h; exact absurd rfl h
theorem Nt.beqL_drop {l m : List Nt} {i : Nat} (h : i < l.length) (h' : i < m.length) : Nt.beqL (l.drop i) (m.drop i) = (l[i].beq m[i] && Nt.beqL (l.drop (i + 1)) (m.drop (i + 1))) := by
  rw [List.drop_eq_getElem_cons h, List.drop_eq_getElem_cons h', Nt.beqL]
@[simp] theorem Nt.beq_self (a : Nt) : a.beq a = true := (Nt.beq_iff a a).2 rfl
set_option maxRecDepth 20000 in
set_option maxHeartbeats 4000000 in
theorem net_same : ∀ (k : Nat), k ≤ 1000000000 → ∀ a b : Nt, a.size < k → PCall Tryd.prog 25 [.agg a.cells, .agg b.cells] (.bool (a.beq b)) := by
  intro k
  induction k with
  | zero => intro _ a b h; omega
  | succ k ih =>
  intro hk a b ha
  have hsz := Nt.size_eq a
  have hlen := Nt.len_size a.l
  refine pcall_fn Code.ok25 (by simp [Code.f25]) fun H => ?_
  rw [Nt.beq_eq]
  by_cases hq : a.kind = b.kind ∧ a.neg = b.neg
  rotate_left
  · have e1 : (decide (a.kind = b.kind) && decide (a.neg = b.neg) && a.e.beq b.e && Nt.beqL a.l b.l) = false := by
      simp; intros; exfalso; simp_all
    rw [e1]
    rcases Classical.em (a.kind = b.kind) with hk1 | hk1
    · have hn : ¬ a.neg = b.neg := fun h => hq ⟨hk1, h⟩
      simp [Code.f25, hk1, hn]
      intro g1 g2
      exact vbd rfl
    · simp [Code.f25, hk1]
      intro g1 g2
      exact vbd rfl
  obtain ⟨h1, h2⟩ := hq
  simp [Code.f25, h1, h2]
  intro g1 g2
  refine CallK.pure (samex_ok _ (Nat.le_refl _) a.e b.e (by omega)) ?_
  cases hbe : a.e.beq b.e with
  | false => simp; exact vbd rfl
  | true =>
  simp
  by_cases h5 : a.l.length = b.l.length
  rotate_left
  · rw [Nt.beqL_len h5]
    have h5' : ¬ (a.l.length : Int) = b.l.length := by omega
    simp [h5, h5']
    exact vbd rfl
  simp [h5]
  refine LoopK.told (σ := Nat) (fun s => [(38, .int .i64 s), (37, .int .i64 a.l.length), (2, .ptr H.length g1 0 0), (3, .ptr (H.length + 1) g2 0 0)]) (fun _ => H ++ [some (.rows g1 [a.cells]), some (.rows g2 [b.cells])]) (fun s => s ≤ a.l.length ∧ Nt.beqL a.l b.l = Nt.beqL (a.l.drop s) (b.l.drop s)) (fun s => a.l.length - s) 0 ?_ ?_ ?_ ?_
  · simp
  · simp [h5]
  · simp
  rintro i ⟨hi, hb⟩
  simp [Code.f25l0]
  refine ⟨fun h => ?_, fun h => ?_⟩
  · have h' : i < b.l.length := by omega
    rw [Nt.beqL_drop h h'] at hb
    have := Nt.size_mem h
    simp [List.getElem?_eq_getElem h, List.getElem?_eq_getElem h']
    refine PCallK.pure (ih (by omega) a.l[i] b.l[i] (by omega)) ?_
    simp
    refine ⟨fun hf => ?_, fun hf => ⟨i + 1, ⟨by omega, ?_⟩, by omega, wkn_int (wrap_id (by omega) (by omega))⟩⟩
    · rw [hb, hf]; exact vbd rfl
    · rw [hb, hf]; rfl
  · rw [hb, List.drop_eq_nil_of_le h, List.drop_eq_nil_of_le (by omega)]
    exact vbd rfl
set_option maxRecDepth 20000 in
set_option maxHeartbeats 4000000 in
theorem r44_same : ∀ (k : Nat), k ≤ 1000000000 → ∀ a b : Nt, a.size < k → PCall Tryd.prog 26 [.agg a.cells, .agg b.cells] (.bool (a.beq b)) := by
  intro k
  induction k with
  | zero => intro _ a b h; omega
  | succ k ih =>
  intro hk a b ha
  have hsz := Nt.size_eq a
  have hlen := Nt.len_size a.l
  refine pcall_fn Code.ok26 (by simp [Code.f26]) fun H => ?_
  rw [Nt.beq_eq]
  by_cases hq : a.kind = b.kind ∧ a.neg = b.neg
  rotate_left
  · have e1 : (decide (a.kind = b.kind) && decide (a.neg = b.neg) && a.e.beq b.e && Nt.beqL a.l b.l) = false := by
      simp; intros; exfalso; simp_all
    rw [e1]
    rcases Classical.em (a.kind = b.kind) with hk1 | hk1
    · have hn : ¬ a.neg = b.neg := fun h => hq ⟨hk1, h⟩
      simp [Code.f26, hk1, hn]
      intro g1 g2
      exact vbd rfl
    · simp [Code.f26, hk1]
      intro g1 g2
      exact vbd rfl
  obtain ⟨h1, h2⟩ := hq
  simp [Code.f26, h1, h2]
  intro g1 g2
  refine CallK.pure (same26_ok _ (Nat.le_refl _) a.e b.e (by omega)) ?_
  cases hbe : a.e.beq b.e with
  | false => simp; exact vbd rfl
  | true =>
  simp
  by_cases h5 : a.l.length = b.l.length
  rotate_left
  · rw [Nt.beqL_len h5]
    have h5' : ¬ (a.l.length : Int) = b.l.length := by omega
    simp [h5, h5']
    exact vbd rfl
  simp [h5]
  refine LoopK.told (σ := Nat) (fun s => [(5, .int .i64 s), (2, .ptr H.length g1 0 0), (3, .ptr (H.length + 1) g2 0 0)]) (fun _ => H ++ [some (.rows g1 [a.cells]), some (.rows g2 [b.cells])]) (fun s => s ≤ a.l.length ∧ Nt.beqL a.l b.l = Nt.beqL (a.l.drop s) (b.l.drop s)) (fun s => a.l.length - s) 0 ?_ ?_ ?_ ?_
  · simp
  · simp [h5]
  · simp
  rintro i ⟨hi, hb⟩
  simp [Code.f26l0]
  refine ⟨fun h => ?_, fun h => ?_⟩
  · have h' : i < b.l.length := by omega
    rw [Nt.beqL_drop h h'] at hb
    have := Nt.size_mem h
    simp [List.getElem?_eq_getElem h, List.getElem?_eq_getElem h']
    refine PCallK.pure (ih (by omega) a.l[i] b.l[i] (by omega)) ?_
    simp
    refine ⟨fun hf => ?_, fun hf => ⟨i + 1, ⟨by omega, ?_⟩, by omega, wkn_int (wrap_id (by omega) (by omega))⟩⟩
    · rw [hb, hf]; exact vbd rfl
    · rw [hb, hf]; rfl
  · rw [hb, List.drop_eq_nil_of_le h, List.drop_eq_nil_of_le (by omega)]
    exact vbd rfl
end Go.Proofs.YtmilcpmhdokhgaaDoor
