/- Kinds of blocks: their rows, fields. -/
import Derived.Test.YtjgkfgocgknjjaaDoorK1
set_option linter.unusedVariables false
set_option linter.unusedSimpArgs false
namespace Go.Proofs.YtjgkfgocgknjjaaDoor
open Go Go.RowKit Go.Proofs.YtjgkfgocgknjjaaDoor.Abs

theorem alu_result {op : Int} (hop : I64 op) (t : Int) : PCall Tryd.prog 57 [.int .i64 op, .int .i64 t] (.int .i64 (opRes op t)) := by
  refine pcall_fn Code.ok57 (by simp [Code.f57]) fun H => ?_
  simp [Code.f57]
  refine CallK.pure (alu_goes hop t) ?_
  simp
  refine ⟨fun h => vi (by simp [opRes, h]), fun h => ?_⟩
  refine CallK.pure (alu_compares op) ?_
  have h2 : op ≤ 25 := by simp [opGoes] at h; omega
  simp
  exact ⟨fun h3 _ => vi (by simp [opRes, h, h3]), fun h3 => vi (by simp [opRes, h]; omega)⟩
theorem block_right (t : Int) : PCall Tryd.prog 64 [.int .i64 t] (.bool (decide (1 ≤ t ∧ t ≤ 8))) := by
  refine pcall_fn Code.ok64 (by simp [Code.f64]) fun H => ?_
  simp [Code.f64]
  exact ⟨fun _ => vb (Bool.eq_iff_iff.2 (by simp; omega)), fun _ => vb (Bool.eq_iff_iff.2 (by simp; omega))⟩

/-- The fields of a kind. -/
def blkTys (k : Int) : List Int := if 1 ≤ k ∧ k ≤ 3 then [1, 6, 1, 6] else if k = 4 then [1, 1, 2, 1, 2] else if k = 5 then [1, 1, 2, 1, 2] else if k = 6 then [1, 1, 1, 1, 2, 1, 1, 2] else if k = 7 ∨ k = 8 then [1, 1] else []
def blkNms (k : Int) : List ByteArray := if 1 ≤ k ∧ k ≤ 3 then [⟨#[73, 78]⟩, ⟨#[80, 84]⟩, ⟨#[81]⟩, ⟨#[69, 84]⟩] else if k = 4 then [⟨#[67, 85]⟩, ⟨#[82]⟩, ⟨#[80, 86]⟩, ⟨#[81]⟩, ⟨#[67, 86]⟩] else if k = 5 then [⟨#[67, 68]⟩, ⟨#[76, 68]⟩, ⟨#[80, 86]⟩, ⟨#[81]⟩, ⟨#[67, 86]⟩] else
  if k = 6 then [⟨#[67, 85]⟩, ⟨#[67, 68]⟩, ⟨#[82]⟩, ⟨#[76, 68]⟩, ⟨#[80, 86]⟩, ⟨#[81, 85]⟩, ⟨#[81, 68]⟩, ⟨#[67, 86]⟩] else if k = 7 ∨ k = 8 then [⟨#[67, 76, 75]⟩, ⟨#[81]⟩] else []
def blkIns (k : Int) : Int := if 1 ≤ k ∧ k ≤ 3 then 2 else if k = 4 then 3 else if k = 5 then 3 else if k = 6 then 5 else if k = 7 ∨ k = 8 then 1 else 0
def strRows (l : List ByteArray) : List (List AV) := l.map fun n => [.str n]
@[simp] theorem strRows_length (l : List ByteArray) : (strRows l).length = l.length := by simp [strRows]
@[simp] theorem strRows_get (l : List ByteArray) (i : Nat) : (strRows l)[i]? = (l[i]?).map fun n => [.str n] := by simp [strRows]
theorem blk_cases (k : Int) : (k = 1 ∨ k = 2 ∨ k = 3 ∨ k = 4 ∨ k = 5 ∨ k = 6 ∨ k = 7 ∨ k = 8) ∨ ¬ (1 ≤ k ∧ k ≤ 8) := by omega
def blkIx (k : Int) : Nat := if 1 ≤ k ∧ k ≤ 8 then k.toNat else 0
def blkRow (j : Nat) : List AV := (gcells0.drop (18 * j)).take 18
theorem blkIx_lt (k : Int) : blkIx k < 9 := by unfold blkIx; split <;> omega
theorem nine {j : Nat} (h : j < 9) : j = 0 ∨ j = 1 ∨ j = 2 ∨ j = 3 ∨ j = 4 ∨ j = 5 ∨ j = 6 ∨ j = 7 ∨ j = 8 := by omega
theorem eight {j : Nat} (h : j < 8) : j = 0 ∨ j = 1 ∨ j = 2 ∨ j = 3 ∨ j = 4 ∨ j = 5 ∨ j = 6 ∨ j = 7 := by omega
theorem blkRow_len {j : Nat} (h : j < 9) : (blkRow j).length = 18 := by
  have : gcells0.length = 162 := rfl
  simp [blkRow]; omega
def blkTy (j i : Nat) : Int := match (blkRow j)[2 * i + 3]? with | some (.int _ n) => n | _ => 0
def blkNm (j i : Nat) : ByteArray := match (blkRow j)[2 * i + 2]? with | some (.str n) => n | _ => ByteArray.empty
theorem blkRow_ty {j i : Nat} (h : j < 9) (h' : i < 8) : (blkRow j)[2 * i + 3]? = some (.int .i64 (blkTy j i)) := by
  rcases nine h with rfl | rfl | rfl | rfl | rfl | rfl | rfl | rfl | rfl <;> rcases eight h' with rfl | rfl | rfl | rfl | rfl | rfl | rfl | rfl <;> rfl
theorem blkRow_nm {j i : Nat} (h : j < 9) (h' : i < 8) : (blkRow j)[2 * i + 2]? = some (.str (blkNm j i)) := by
  rcases nine h with rfl | rfl | rfl | rfl | rfl | rfl | rfl | rfl | rfl <;> rcases eight h' with rfl | rfl | rfl | rfl | rfl | rfl | rfl | rfl <;> rfl
theorem blkRow_part {j i : Nat} (h : j < 9) (h' : i < 8) : ldRow true 2 (List.take 16 (List.drop 2 (blkRow j))) (i * 2) = some (.agg [.str (blkNm j i), .int .i64 (blkTy j i)]) := by
  rcases nine h with rfl | rfl | rfl | rfl | rfl | rfl | rfl | rfl | rfl <;> rcases eight h' with rfl | rfl | rfl | rfl | rfl | rfl | rfl | rfl <;> rfl
def blkCnt (j n : Nat) : Nat := ((List.range n).filter fun i => decide (blkTy j i ≠ 0)).length
theorem blkCnt_succ (j n : Nat) : blkCnt j (n + 1) = if blkTy j n = 0 then blkCnt j n else blkCnt j n + 1 := by
  simp [blkCnt, List.range_succ, List.filter_append, List.filter_cons]; split <;> simp
theorem blkCnt_le (j n : Nat) : blkCnt j n ≤ n := by
  have := List.length_filter_le (fun i => decide (blkTy j i ≠ 0)) (List.range n); simpa [blkCnt] using this
theorem blkTys_cases (k : Int) : blkTys k = (List.range (blkCnt (blkIx k) 8)).map (blkTy (blkIx k)) := by
  rcases blk_cases k with (rfl | rfl | rfl | rfl | rfl | rfl | rfl | rfl) | h
  all_goals first
    | rfl
    | (rw [blkIx, if_neg h, blkTys, if_neg (by omega), if_neg (by omega), if_neg (by omega), if_neg (by omega), if_neg (by omega)]; rfl)
theorem blkTys_len (k : Int) : (blkTys k).length = blkCnt (blkIx k) 8 := by rw [blkTys_cases]; simp
theorem blkTys_get {k : Int} {i : Nat} (h : i < blkCnt (blkIx k) 8) : (blkTys k)[i]? = some (blkTy (blkIx k) i) := by rw [blkTys_cases]; simp [h]
set_option maxRecDepth 20000 in
theorem blk_of (k : Int) : PCall Tryd.prog 61 [.int .i64 k] (.agg (blkRow (blkIx k))) := by
  refine pcall_fn Code.ok61 (by simp [Code.f61]) fun H => ?_
  simp [Code.f61]
  intro g
  refine CallK.pure (block_right k) ?_
  simp
  refine ⟨fun h => ?_, fun h1 h2 => ?_⟩
  · rw [blkIx, if_neg (by omega)]
    exact vshift_drop (.refl _) (.front _ _)
  · have h3 : 0 ≤ k ∧ k < 9 := by omega
    have hx : blkIx k = k.toNat := by rw [blkIx, if_pos ⟨by omega, by omega⟩]
    rw [hx]
    have hl := blkRow_len (j := k.toNat) (by omega)
    have hr : ldRow true 18 gcells0 (k.toNat * 18) = some (.agg (blkRow k.toNat)) := by
      have h4 : k.toNat * 18 + 18 ≤ gcells0.length := by have : gcells0.length = 162 := rfl; omega
      rw [ldRow, if_pos rfl, if_neg (by have : gcells0.length = 162 := rfl; omega), if_pos h4, Nat.mul_comm]; rfl
    simp [h3, hr, hl]
    exact vshift_drop (.refl _) (.front _ _)
set_option maxRecDepth 20000 in
theorem blk_fields (k : Int) : PCall Tryd.prog 60 [.int .i64 k] (.int .i64 (blkTys k).length) := by
  refine pcall_fn Code.ok60 (by simp [Code.f60]) fun H => ?_
  simp [Code.f60]
  refine CallK.pure (blk_of k) ?_
  have hj := blkIx_lt k
  have hl := blkRow_len hj
  rw [blkTys_len]
  generalize blkIx k = j at hj hl ⊢
  simp [hl]
  intro g
  refine LoopK.told (σ := Nat) (fun s => [(8, .int .i64 s), (4, .int .i64 (blkCnt j s)), (3, .ptr H.length g 0 0)]) (fun _ => H ++ [some (.rows g [blkRow j])]) (fun s => s ≤ 8) (fun s => 8 - s) 0 ?_ ?_ ?_ ?_
  · simp
  · simp [blkCnt]
  · simp
  intro i hi
  simp [Code.f60l0]
  refine ⟨fun h => ?_, fun h => ?_⟩
  · have ht := blkRow_ty hj (i := i) (by omega)
    have hc := blkCnt_le j i
    have e : 2 + i * 2 + 1 = 2 * i + 3 := by omega
    simp [h, e, ht]
    refine ⟨fun h2 => ⟨i + 1, by omega, by omega, wkn_int (wrap_id (by omega) (by omega)), wkn_int ?_⟩, fun h2 => ⟨i + 1, by omega, by omega, wkn_int (wrap_id (by omega) (by omega)), wkn_int ?_⟩⟩
    · rw [blkCnt_succ, if_neg h2, wrap_id (by omega) (by omega)]; simp
    · rw [blkCnt_succ, if_pos h2]
  · obtain rfl : i = 8 := by omega
    exact vid rfl
def fldTy (k i : Int) : Int := if 0 ≤ i then (blkTys k).getD i.toNat 0 else 0
def fldNm (k i : Int) : ByteArray := if 0 ≤ i ∧ i < (blkTys k).length then blkNm (blkIx k) i.toNat else ⟨#[]⟩
set_option maxRecDepth 20000 in
theorem blk_field (k i : Int) : PCall Tryd.prog 54 [.int .i64 k, .int .i64 i] (.tup [.str (fldNm k i), .int .i64 (fldTy k i)]) := by
  refine pcall_fn Code.ok54 (by simp [Code.f54]) fun H => ?_
  simp [Code.f54]
  refine ⟨fun h => ?_, fun h => by rw [fldNm, fldTy, if_neg (by omega), if_neg (by omega)]; exact .refl _ _⟩
  refine CallK.pure (blk_fields k) ?_
  simp
  refine ⟨fun h2 => by rw [fldNm, fldTy, if_neg (by omega), if_pos h, List.getD_eq_getElem?_getD, List.getElem?_eq_none (by omega)]; exact .refl _ _, fun h2 => ?_⟩
  refine CallK.pure (blk_of k) ?_
  have hj := blkIx_lt k
  have hl := blkRow_len hj
  have hc := blkCnt_le (blkIx k) 8
  have hlen := blkTys_len k
  have hg := blkTys_get (k := k) (i := i.toNat) (by omega)
  have ht := blkRow_ty hj (i := i.toNat) (by omega)
  have hn := blkRow_nm hj (i := i.toNat) (by omega)
  have hp := blkRow_part hj (i := i.toNat) (by omega)
  have h8 : i < 8 := by omega
  have e1 : fldNm k i = blkNm (blkIx k) i.toNat := by rw [fldNm, if_pos ⟨h, h2⟩]
  have e2 : fldTy k i = blkTy (blkIx k) i.toNat := by rw [fldTy, if_pos h, List.getD_eq_getElem?_getD, hg]; rfl
  rw [e1, e2]
  simp [hg, h, hl, h8, hp]
  intro g
  exact vshift_drop (.refl _) (.front _ _)
end Go.Proofs.YtjgkfgocgknjjaaDoor
