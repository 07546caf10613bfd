/- The reference's Same: any two lists of statements. -/
import Derived.Test.YtjgkfgocgknjjaaDoorU2
set_option linter.unusedVariables false
set_option linter.unusedSimpArgs false
namespace Go.Proofs.YtjgkfgocgknjjaaDoor
open Go Go.RowKit Go.Proofs.YtjgkfgocgknjjaaDoor.Abs

theorem same26e (a b : Ex) (h : a.size < 900000000) : PCall Tryd.prog 28 [.agg a.cells, .agg b.cells] (.bool (a.beq b)) := same26_ok 900000000 (by omega) a b h
theorem samexe (a b : Ex) (h : a.size < 900000000) : PCall Tryd.prog 31 [.agg a.cells, .agg b.cells] (.bool (a.beq b)) := samex_ok 900000000 (by omega) a b h

set_option maxRecDepth 20000 in
set_option maxHeartbeats 2000000 in
theorem ints15_ok (l m : List Int) (hl : l.length ≤ 1000000000) : PCall Tryd.prog 30 [.sl .no (intRows l), .sl .no (intRows m)] (.bool (allB intB l m)) := by
  refine pcall_fn Code.ok30 (by simp [Code.f30]) fun H => ?_
  by_cases hlen : l.length = m.length
  · simp [Code.f30, hlen]
    refine LoopK.told (σ := Nat) (fun s => [(5, .int .i64 s), (0, .sl .no (intRows l)), (1, .sl .no (intRows m))]) (fun _ => H) (fun s => s ≤ l.length ∧ allB intB l m = allB intB (l.drop s) (m.drop s)) (fun s => l.length - s) 0 ?_ ?_ ?_ ?_
    · simp
    · simp
    · simp
    rintro i ⟨hi, hb⟩
    simp [Code.f30l0]
    refine ⟨fun h => ?_, fun h => ?_⟩
    · have h' : i < m.length := by omega
      rw [allB_drop intB h h'] at hb
      simp [List.getElem?_eq_getElem h, List.getElem?_eq_getElem h']
      refine ⟨fun hf => ?_, fun hf => ⟨i + 1, ⟨by omega, ?_⟩, by omega, wkn_int (wrap_id (by omega) (by omega))⟩⟩
      · rw [hb]; exact vb (by simp [intB, hf])
      · rw [hb]; simp [intB, hf]
    · rw [hb, List.drop_eq_nil_of_le h, List.drop_eq_nil_of_le (by omega)]
      exact vb rfl
  · rw [allB_len intB hlen]
    simp [Code.f30]
    repeat' (first | exact vb rfl | (exfalso; omega) | apply And.intro | intro _)

set_option maxRecDepth 20000 in
set_option maxHeartbeats 2000000 in
theorem exprs_ok (l m : List Ex) (hl : Ex.sizeL l < 900000000) : PCall Tryd.prog 29 [.sl .no (Ex.rows l), .sl .no (Ex.rows m)] (.bool (allB Ex.beq l m)) := by
  have hlen0 := Ex.len_size l
  refine pcall_fn Code.ok29 (by simp [Code.f29]) fun H => ?_
  by_cases hlen : l.length = m.length
  · simp [Code.f29, hlen]
    refine LoopK.told (σ := Nat) (fun s => [(5, .int .i64 s), (0, .sl .no (Ex.rows l)), (1, .sl .no (Ex.rows m))]) (fun _ => H) (fun s => s ≤ l.length ∧ allB Ex.beq l m = allB Ex.beq (l.drop s) (m.drop s)) (fun s => l.length - s) 0 ?_ ?_ ?_ ?_
    · simp
    · simp
    · simp
    rintro i ⟨hi, hb⟩
    simp [Code.f29l0]
    refine ⟨fun h => ?_, fun h => ?_⟩
    · have h' : i < m.length := by omega
      have := Ex.size_mem h
      rw [allB_drop Ex.beq h h'] at hb
      simp [List.getElem?_eq_getElem h, List.getElem?_eq_getElem h']
      refine PCallK.pure (same26e l[i] m[i] (by omega)) ?_
      simp
      refine ⟨fun hf => ?_, fun hf => ⟨i + 1, ⟨by omega, ?_⟩, by omega, wkn_int (wrap_id (by omega) (by omega))⟩⟩
      · rw [hb]; exact vb (by simp [hf])
      · rw [hb]; simp [hf]
    · rw [hb, List.drop_eq_nil_of_le h, List.drop_eq_nil_of_le (by omega)]
      exact vb rfl
  · rw [allB_len Ex.beq hlen]
    simp [Code.f29]
    repeat' (first | exact vb rfl | (exfalso; omega) | apply And.intro | intro _)

set_option maxRecDepth 20000 in
set_option maxHeartbeats 8000000 in
theorem one28_ok {k : Nat} (ih : ∀ l m : List St, St.sizeL l < k → PCall Tryd.prog 7 [.sl .no (St.rows l), .sl .no (St.rows m)] (.bool (allB St.beq l m))) (hk : k ≤ 800000000) (x y : St) (hx : x.size < k + 1) :
    PCall Tryd.prog 19 [.agg x.cells, .agg y.cells] (.bool (x.one y)) := by
  have hsz := St.size_eq x
  have := x.e.size_pos
  have hl1 := Ex.len_size x.l
  have hl2 := Arg.len_size x.args
  have hl3 := Arm.len_size x.arms
  rw [St.one_eq]
  refine pcall_fn Code.ok19 (by simp [Code.f19]) fun H => ?_
  by_cases h1 : x.kind = y.kind
  rotate_left
  · simp [Code.f19, h1]; intro g1 g2; exact vbd rfl
  by_cases h2 : x.n = y.n
  rotate_left
  · simp [Code.f19, h1, h2]; intro g1 g2; exact vbd rfl
  by_cases h3 : x.m = y.m
  rotate_left
  · simp [Code.f19, h1, h2, h3]; intro g1 g2; exact vbd rfl
  simp [Code.f19, h1, h2, h3]
  intro g1 g2
  refine CallK.pure (same26e x.e y.e (by omega)) ?_
  cases h4 : x.e.beq y.e
  · simp; exact vbd rfl
  simp
  refine CallK.pure (same26e x.i y.i (by omega)) ?_
  cases h5 : x.i.beq y.i
  · simp; exact vbd rfl
  simp
  refine CallK.pure (exprs_ok x.l y.l (by omega)) ?_
  cases h6 : allB Ex.beq x.l y.l
  · simp; exact vbd rfl
  by_cases h7 : x.args.length = y.args.length
  rotate_left
  · rw [allB_len Arg.beq h7]; simp [h7]
    repeat' (first | exact vbd rfl | (exfalso; omega) | apply And.intro | intro _)
  by_cases h8 : x.arms.length = y.arms.length
  rotate_left
  · rw [allB_len Arm.beq h8]; simp [h7, h8]
    repeat' (first | exact vbd rfl | (exfalso; omega) | apply And.intro | intro _)
  simp [h7, h8]
  refine LoopK.told (σ := Nat) (fun s => [(5, .int .i64 s), (2, .ptr H.length g1 0 0), (3, .ptr (H.length + 1) g2 0 0)]) (fun _ => H ++ [some (.rows g1 [x.cells]), some (.rows g2 [y.cells])]) (fun s => s ≤ x.args.length ∧ allB Arg.beq x.args y.args = allB Arg.beq (x.args.drop s) (y.args.drop s)) (fun s => x.args.length - s) 0 ?_ ?_ ?_ ?_
  · simp
  · simp
  · simp
  rintro i ⟨hi, hb⟩
  simp [Code.f19l0]
  refine ⟨fun h => ?_, fun h => ?_⟩
  · have h' : i < y.args.length := by omega
    have h9 := Arg.size_mem h
    have h10 : x.args[i].size = 1 + x.args[i].e.size := rfl
    rw [allB_drop Arg.beq h h'] at hb
    by_cases hf : x.args[i].field = y.args[i].field
    rotate_left
    · simp [List.getElem?_eq_getElem h, List.getElem?_eq_getElem h', hf]
      rw [hb]; exact vbd (by simp [Arg.beq, hf])
    simp [List.getElem?_eq_getElem h, List.getElem?_eq_getElem h', hf]
    refine PCallK.pure (same26e x.args[i].e y.args[i].e (by omega)) ?_
    simp
    refine ⟨fun hf' => ?_, fun hf' => ⟨i + 1, ⟨by omega, ?_⟩, by omega, wkn_int (wrap_id (by omega) (by omega))⟩⟩
    · rw [hb]; exact vbd (by simp [Arg.beq, hf'])
    · rw [hb]; simp [Arg.beq, hf, hf']
  have hA : allB Arg.beq x.args y.args = true := by rw [hb, List.drop_eq_nil_of_le h, List.drop_eq_nil_of_le (by omega)]; rfl
  rw [hA]
  refine LoopK.told (σ := Nat) (fun s => [(6, .int .i64 s), (2, .ptr H.length g1 0 0), (3, .ptr (H.length + 1) g2 0 0)]) (fun _ => H ++ [some (.rows g1 [x.cells]), some (.rows g2 [y.cells])]) (fun s => s ≤ x.arms.length ∧ allB Arm.beq x.arms y.arms = allB Arm.beq (x.arms.drop s) (y.arms.drop s)) (fun s => x.arms.length - s) 0 ?_ ?_ ?_ ?_
  · simp
  · simp
  · simp
  rintro j ⟨hj, hb2⟩
  simp [Code.f19l1]
  refine ⟨fun h => ?_, fun h => ?_⟩
  · have h' : j < y.arms.length := by omega
    have h9 := Arm.size_mem h
    have h10 := Arm.size_eq x.arms[j]
    rw [allB_drop Arm.beq h h', Arm.beq_eq] at hb2
    simp [List.getElem?_eq_getElem h, List.getElem?_eq_getElem h']
    refine PCallK.pure (ints15_ok x.arms[j].labels y.arms[j].labels (by omega)) ?_
    cases hf : allB intB x.arms[j].labels y.arms[j].labels
    · simp
      rw [hb2, hf]; exact vbd (by simp)
    simp [List.getElem?_eq_getElem h, List.getElem?_eq_getElem h']
    refine PCallK.pure (ih x.arms[j].body y.arms[j].body (by omega)) ?_
    simp
    refine ⟨fun hf' => ?_, fun hf' => ⟨j + 1, ⟨by omega, ?_⟩, by omega, wkn_int (wrap_id (by omega) (by omega))⟩⟩
    · rw [hb2]; exact vbd (by simp [hf'])
    · rw [hb2]; simp [hf, hf']
  have hB : allB Arm.beq x.arms y.arms = true := by rw [hb2, List.drop_eq_nil_of_le h, List.drop_eq_nil_of_le (by omega)]; rfl
  rw [hB]
  refine CallK.pure (ih x.body y.body (by omega)) ?_
  cases hC : allB St.beq x.body y.body
  · simp; exact vbd rfl
  simp
  refine CallK.pure (ih x.els y.els (by omega)) ?_
  simp
  exact vbd rfl

set_option maxRecDepth 20000 in
set_option maxHeartbeats 4000000 in
theorem same28_ok : ∀ (k : Nat), k ≤ 800000000 → ∀ l m : List St, St.sizeL l < k → PCall Tryd.prog 7 [.sl .no (St.rows l), .sl .no (St.rows m)] (.bool (allB St.beq l m)) := by
  intro k
  induction k with
  | zero => intro _ l m h; omega
  | succ k ih =>
  intro hk l m hl
  have hlen0 := St.len_size l
  refine pcall_fn Code.ok7 (by simp [Code.f7]) fun H => ?_
  by_cases hlen : l.length = m.length
  · simp [Code.f7, hlen]
    refine LoopK.told (σ := Nat) (fun s => [(5, .int .i64 s), (0, .sl .no (St.rows l)), (1, .sl .no (St.rows m))]) (fun _ => H) (fun s => s ≤ l.length ∧ allB St.beq l m = allB St.beq (l.drop s) (m.drop s)) (fun s => l.length - s) 0 ?_ ?_ ?_ ?_
    · simp
    · simp
    · simp
    rintro i ⟨hi, hb⟩
    simp [Code.f7l0]
    refine ⟨fun h => ?_, fun h => ?_⟩
    · have h' : i < m.length := by omega
      have := St.size_mem h
      rw [allB_drop St.beq h h'] at hb
      by_cases hc : l[i].cost = m[i].cost
      rotate_left
      · simp [List.getElem?_eq_getElem h, List.getElem?_eq_getElem h', hc]
        rw [hb]; exact vb (by simp [St.beq, hc])
      simp [List.getElem?_eq_getElem h, List.getElem?_eq_getElem h', hc]
      refine PCallK.pure (one28_ok (ih (by omega)) (by omega) l[i] m[i] (by omega)) ?_
      simp
      refine ⟨fun hf => ?_, fun hf => ⟨i + 1, ⟨by omega, ?_⟩, by omega, wkn_int (wrap_id (by omega) (by omega))⟩⟩
      · rw [hb]; exact vb (by simp [St.beq, hf])
      · rw [hb]; simp [St.beq, hf, hc]
    · rw [hb, List.drop_eq_nil_of_le h, List.drop_eq_nil_of_le (by omega)]
      exact vb rfl
  · rw [allB_len St.beq hlen]
    simp [Code.f7]
    repeat' (first | exact vb rfl | (exfalso; omega) | apply And.intro | intro _)
end Go.Proofs.YtjgkfgocgknjjaaDoor
