/- Expressions held against each other; a way of telling functions of expressions. -/
import Derived.Test.YtjgkfgocgknjjaaDoorE1
set_option linter.unusedVariables false
set_option linter.unusedSimpArgs false
namespace Go.Proofs.YtjgkfgocgknjjaaDoor
open Go Go.RowKit Go.Proofs.YtjgkfgocgknjjaaDoor.Abs

mutual
def Ex.beq : Ex → Ex → Bool
  | .mk a b c d l, .mk a' b' c' d' l' => decide (a = a') && decide (b = b') && decide (c = c') && decide (d = d') && Ex.beqL l l'
def Ex.beqL : List Ex → List Ex → Bool
  | [], [] => true
  | x :: l, y :: m => x.beq y && Ex.beqL l m
  | _, _ => false
end
mutual
theorem Ex.beq_iff : ∀ a b : Ex, a.beq b = true ↔ a = b
  | .mk a b c d l, .mk a' b' c' d' l' => by
    have := Ex.beqL_iff l l'
    simp [Ex.beq, this, and_assoc]
theorem Ex.beqL_iff : ∀ l m : List Ex, Ex.beqL l m = true ↔ l = m
  | [], [] => by simp [Ex.beqL]
  | x :: l, y :: m => by
    have h1 := Ex.beq_iff x y
    have h2 := Ex.beqL_iff l m
    simp [Ex.beqL, h1, h2]
  | [], _ :: _ => by simp [Ex.beqL]
  | _ :: _, [] => by simp [Ex.beqL]
end
theorem Ex.beq_eq (a b : Ex) : a.beq b = (decide (a.op = b.op) && decide (a.t = b.t) && decide (a.n = b.n) && decide (a.m = b.m) && Ex.beqL a.l b.l) := by cases a; cases b; rfl
theorem Ex.beqL_len {l m : List Ex} (h : l.length ≠ m.length) : Ex.beqL l m = false := by
  cases h2 : Ex.beqL l m with
  | false => rfl
  | true => rw [(Ex.beqL_iff l m).1 h2] at h; exact absurd rfl h
theorem Ex.beqL_drop {l m : List Ex} {i : Nat} (h : i < l.length) (h' : i < m.length) : Ex.beqL (l.drop i) (m.drop i) = (l[i].beq m[i] && Ex.beqL (l.drop (i + 1)) (m.drop (i + 1))) := by
  rw [List.drop_eq_getElem_cons h, List.drop_eq_getElem_cons h', Ex.beqL]
@[simp] theorem Ex.beq_self (a : Ex) : a.beq a = true := (Ex.beq_iff a a).2 rfl
theorem Ex.size_le_mem {l : List Ex} {i : Nat} (h : i < l.length) : l[i].size ≤ Ex.sizeL l := Ex.size_mem h

set_option maxRecDepth 20000 in
set_option maxHeartbeats 2000000 in
theorem same26_ok : ∀ (k : Nat), k ≤ 1000000000 → ∀ a b : Ex, a.size < k → PCall Tryd.prog 28 [.agg a.cells, .agg b.cells] (.bool (a.beq b)) := by
  intro k
  induction k with
  | zero => intro _ a b h; omega
  | succ k ih =>
  intro hk a b ha
  have hsz := Ex.size_eq a
  have hlen := Ex.len_size a.l
  refine pcall_fn Code.ok28 (by simp [Code.f28]) fun H => ?_
  rw [Ex.beq_eq]
  by_cases hq : a.op = b.op ∧ a.t = b.t ∧ a.n = b.n ∧ a.m = b.m ∧ a.l.length = b.l.length
  · obtain ⟨h1, h2, h3, h4, h5⟩ := hq
    simp [Code.f28, h1, h2, h3, h4, h5]
    intro g1 g2
    refine LoopK.told (σ := Nat) (fun s => [(5, .int .i64 s), (2, .ptr H.length g1 0 0), (3, .ptr (H.length + 1) g2 0 0)]) (fun _ => H ++ [some (.rows g1 [a.cells]), some (.rows g2 [b.cells])]) (fun s => s ≤ a.l.length ∧ Ex.beqL a.l b.l = Ex.beqL (a.l.drop s) (b.l.drop s)) (fun s => a.l.length - s) 0 ?_ ?_ ?_ ?_
    · simp
    · simp
    · simp
    rintro i ⟨hi, hb⟩
    simp [Code.f28l0]
    refine ⟨fun h => ?_, fun h => ?_⟩
    · have h' : i < b.l.length := by omega
      rw [Ex.beqL_drop h h'] at hb
      have := Ex.size_mem h
      simp [List.getElem?_eq_getElem h, List.getElem?_eq_getElem h']
      refine PCallK.pure (ih (by omega) a.l[i] b.l[i] (by omega)) ?_
      simp
      refine ⟨fun hf => ?_, fun hf => ⟨i + 1, ⟨by omega, ?_⟩, by omega, wkn_int (wrap_id (by omega) (by omega))⟩⟩
      · rw [hb, hf]; exact vbd rfl
      · rw [hb, hf]; rfl
    · rw [hb, List.drop_eq_nil_of_le h, List.drop_eq_nil_of_le (by omega)]
      exact vbd rfl
  · have e1 : (decide (a.op = b.op) && decide (a.t = b.t) && decide (a.n = b.n) && decide (a.m = b.m) && Ex.beqL a.l b.l) = false := by
      by_cases h5 : a.l.length = b.l.length
      · simp; intros; exfalso; simp_all
      · rw [Ex.beqL_len h5]; simp
    rw [e1]
    simp [Code.f28]
    intro g1 g2
    repeat' (first | exact vbd rfl | (exfalso; omega) | apply And.intro | intro _)
set_option maxRecDepth 20000 in
set_option maxHeartbeats 2000000 in
theorem samex_ok : ∀ (k : Nat), k ≤ 1000000000 → ∀ a b : Ex, a.size < k → PCall Tryd.prog 31 [.agg a.cells, .agg b.cells] (.bool (a.beq b)) := by
  intro k
  induction k with
  | zero => intro _ a b h; omega
  | succ k ih =>
  intro hk a b ha
  have hsz := Ex.size_eq a
  have hlen := Ex.len_size a.l
  refine pcall_fn Code.ok31 (by simp [Code.f31]) fun H => ?_
  rw [Ex.beq_eq]
  by_cases hq : a.op = b.op ∧ a.t = b.t ∧ a.n = b.n ∧ a.m = b.m ∧ a.l.length = b.l.length
  · obtain ⟨h1, h2, h3, h4, h5⟩ := hq
    simp [Code.f31, h1, h2, h3, h4, h5]
    intro g1 g2
    refine LoopK.told (σ := Nat) (fun s => [(44, .int .i64 s), (43, .int .i64 a.l.length), (2, .ptr H.length g1 0 0), (3, .ptr (H.length + 1) g2 0 0)]) (fun _ => H ++ [some (.rows g1 [a.cells]), some (.rows g2 [b.cells])]) (fun s => s ≤ a.l.length ∧ Ex.beqL a.l b.l = Ex.beqL (a.l.drop s) (b.l.drop s)) (fun s => a.l.length - s) 0 ?_ ?_ ?_ ?_
    · simp
    · simp [h5]
    · simp
    rintro i ⟨hi, hb⟩
    simp [Code.f31l0]
    refine ⟨fun h => ?_, fun h => ?_⟩
    · have h' : i < b.l.length := by omega
      rw [Ex.beqL_drop h h'] at hb
      have := Ex.size_mem h
      simp [List.getElem?_eq_getElem h, List.getElem?_eq_getElem h']
      refine PCallK.pure (ih (by omega) a.l[i] b.l[i] (by omega)) ?_
      simp
      refine ⟨fun hf => ?_, fun hf => ⟨i + 1, ⟨by omega, ?_⟩, by omega, wkn_int (wrap_id (by omega) (by omega))⟩⟩
      · rw [hb, hf]; exact vbd rfl
      · rw [hb, hf]; rfl
    · rw [hb, List.drop_eq_nil_of_le h, List.drop_eq_nil_of_le (by omega)]
      exact vbd rfl
  · have e1 : (decide (a.op = b.op) && decide (a.t = b.t) && decide (a.n = b.n) && decide (a.m = b.m) && Ex.beqL a.l b.l) = false := by
      by_cases h5 : a.l.length = b.l.length
      · simp; intros; exfalso; simp_all
      · rw [Ex.beqL_len h5]; simp
    rw [e1]
    simp [Code.f31]
    intro g1 g2
    repeat' (first | exact vbd rfl | (exfalso; omega) | apply And.intro | intro _)

/-! A function told by what it comes to at the parts. -/
mutual
def Ex.para {α : Type} (f : Ex → List α → α) : Ex → α
  | .mk a b c d l => f (.mk a b c d l) (Ex.paraL f l)
def Ex.paraL {α : Type} (f : Ex → List α → α) : List Ex → List α
  | [] => []
  | x :: r => x.para f :: Ex.paraL f r
end
theorem Ex.paraL_map {α : Type} (f : Ex → List α → α) : ∀ l, Ex.paraL f l = l.map (Ex.para f)
  | [] => rfl
  | x :: r => by rw [Ex.paraL, Ex.paraL_map f r]; rfl
theorem Ex.para_eq {α : Type} (f : Ex → List α → α) (e : Ex) : e.para f = f e (e.l.map (Ex.para f)) := by
  cases e with
  | mk a b c d l => rw [Ex.para, Ex.paraL_map]; rfl
/-- By size. -/
theorem Ex.sized {p : Ex → Prop} (h : ∀ e, (∀ (i : Nat) (hi : i < e.l.length), p e.l[i]) → p e) (e : Ex) : p e := by
  have : ∀ (k : Nat) (e : Ex), e.size < k → p e := by
    intro k
    induction k with
    | zero => intro e h; omega
    | succ k ih =>
      intro e he
      refine h e fun i hi => ih _ ?_
      have := Ex.size_eq e
      have := Ex.size_mem hi
      omega
  exact this _ e (Nat.lt_succ_self _)
end Go.Proofs.YtjgkfgocgknjjaaDoor
