/- Right: a statement with just those parts that its kind has; inputs of blocks. -/
import Derived.Test.YtjgkfgocgknjjaaDoorU9
set_option linter.unusedVariables false
set_option linter.unusedSimpArgs false
namespace Go.Proofs.YtjgkfgocgknjjaaDoor
open Go Go.RowKit Go.Proofs.YtjgkfgocgknjjaaDoor.Abs

def exZ : Ex := .mk 0 0 0 0 []
def St.bare (x : St) : St := .mk x.kind x.cost (if 1 ≤ x.kind ∧ x.kind ≤ 6 then x.n else 0) (if x.kind = 4 ∨ x.kind = 6 then x.m else 0)
  (if x.kind = 1 ∨ x.kind = 2 ∨ x.kind = 3 ∨ x.kind = 4 ∨ x.kind = 7 ∨ x.kind = 8 ∨ x.kind = 10 ∨ x.kind = 11 then x.e else exZ) (if x.kind = 3 then x.i else exZ)
  (if x.kind = 6 then x.l else []) (if x.kind = 5 then x.args else []) (if 7 ≤ x.kind ∧ x.kind ≤ 10 then x.body else []) (if x.kind = 7 ∨ x.kind = 11 then x.els else []) (if x.kind = 11 then x.arms else [])
theorem kind_cases (k : Int) : (k = 1 ∨ k = 2 ∨ k = 3 ∨ k = 4 ∨ k = 5 ∨ k = 6 ∨ k = 7 ∨ k = 8 ∨ k = 9 ∨ k = 10 ∨ k = 11) ∨ ¬ (1 ≤ k ∧ k ≤ 11) := by omega
set_option maxRecDepth 20000 in
set_option maxHeartbeats 8000000 in
theorem bare_ok (x : St) : PCall Tryd.prog 41 [.agg x.cells] (.agg x.bare.cells) := by
  refine pcall_fn Code.ok41 (by simp [Code.f41]) fun H => ?_
  rcases kind_cases x.kind with (h | h | h | h | h | h | h | h | h | h | h) | h
  all_goals first
    | (simp [Code.f41, h]
       intro g1 g2 g3
       try simp [evalS]
       exact vshift_drop (wkn_agg (by simp [St.bare, h, St.cells, exZ, Ex.cells_eq, Ex.rows, Arg.rows, St.rows, Arm.rows])) (.front _ _))
    | skip
  have h1 : x.kind ≠ 1 := by omega
  have h2 : x.kind ≠ 2 := by omega
  have h3 : x.kind ≠ 3 := by omega
  have h4 : x.kind ≠ 4 := by omega
  have h5 : x.kind ≠ 5 := by omega
  have h6 : x.kind ≠ 6 := by omega
  have h7 : x.kind ≠ 7 := by omega
  have h8 : x.kind ≠ 8 := by omega
  have h9 : x.kind ≠ 9 := by omega
  have h10 : x.kind ≠ 10 := by omega
  have h11 : x.kind ≠ 11 := by omega
  have e1 : ¬ (1 ≤ x.kind ∧ x.kind ≤ 6) := by omega
  have e2 : ¬ (7 ≤ x.kind ∧ x.kind ≤ 10) := by omega
  simp [Code.f41, h1, h2, h3, h4, h5, h6, h7, h8, h9, h10, h11]
  intro g1 g2 g3
  refine vshift_drop (wkn_agg ?_) (.front _ _)
  rw [St.bare, if_neg e1, if_neg e2]
  simp [h1, h2, h3, h4, h5, h6, h7, h8, h9, h10, h11, St.cells, exZ, Ex.cells_eq, Ex.rows, Arg.rows, St.rows, Arm.rows]

@[simp] theorem St.cells4 (x : St) : x.cells[4]? = some (.int .i64 x.e.op) := by cases x; rfl
@[simp] theorem St.cellsG4 (x : St) (h : 4 < x.cells.length) : x.cells[4]'h = .int .i64 x.e.op := by cases x; rfl
/-- A place. -/
def Sc.pl (s : Sc) (loop : Int) : List AV := [.sl .no (Vr.rows s.vars), .sl .no (Bk.rows s.blocks), .sl .no (Sg.rows s.sigs), .sl .no (intRows s.slots), .int .i64 loop]
@[simp] theorem Sc.pl_length (s : Sc) (l : Int) : (s.pl l).length = 5 := rfl
@[simp] theorem Sc.pl0 (s : Sc) (l : Int) : (s.pl l)[0]? = some (.sl .no (Vr.rows s.vars)) := rfl
@[simp] theorem Sc.pl1 (s : Sc) (l : Int) : (s.pl l)[1]? = some (.sl .no (Bk.rows s.blocks)) := rfl
@[simp] theorem Sc.pl2 (s : Sc) (l : Int) : (s.pl l)[2]? = some (.sl .no (Sg.rows s.sigs)) := rfl
@[simp] theorem Sc.pl3 (s : Sc) (l : Int) : (s.pl l)[3]? = some (.sl .no (intRows s.slots)) := rfl
@[simp] theorem Sc.pl4 (s : Sc) (l : Int) : (s.pl l)[4]? = some (.int .i64 l) := rfl
@[simp] theorem Sc.plG0 (s : Sc) (l : Int) (h : 0 < (s.pl l).length) : (s.pl l)[0]'h = .sl .no (Vr.rows s.vars) := rfl
@[simp] theorem Sc.plG1 (s : Sc) (l : Int) (h : 1 < (s.pl l).length) : (s.pl l)[1]'h = .sl .no (Bk.rows s.blocks) := rfl
@[simp] theorem Sc.plG2 (s : Sc) (l : Int) (h : 2 < (s.pl l).length) : (s.pl l)[2]'h = .sl .no (Sg.rows s.sigs) := rfl
@[simp] theorem Sc.plG3 (s : Sc) (l : Int) (h : 3 < (s.pl l).length) : (s.pl l)[3]'h = .sl .no (intRows s.slots) := rfl
@[simp] theorem Sc.plG4 (s : Sc) (l : Int) (h : 4 < (s.pl l).length) : (s.pl l)[4]'h = .int .i64 l := rfl
@[simp] theorem Sc.plT (s : Sc) (l : Int) : List.take 4 (s.pl l) = s.cells := rfl
theorem in_ok (s : Sc) (a b : Int) : PCall Tryd.prog 43 [.agg (s.pl a), .int .i64 b] (.agg (s.pl b)) := by
  refine pcall_fn Code.ok43 (by simp [Code.f43]) fun H => ?_
  simp [Code.f43, Sc.pl]
  intro g1 g2
  exact vshift_drop (.refl _) (.front _ _)
def blkInp (k : Int) : Int := match ((blkRow (blkIx k))[1]? : Option AV) with | some (.int _ n) => n | _ => 0
theorem blkRow_in {j : Nat} (h : j < 9) : ∃ n, (blkRow j)[1]? = some (.int .i64 n) ∧ n ≤ 5 ∧ 0 ≤ n := by
  rcases nine h with rfl | rfl | rfl | rfl | rfl | rfl | rfl | rfl | rfl <;> exact ⟨_, rfl, by decide, by decide⟩
theorem blk_in (k : Int) : PCall Tryd.prog 58 [.int .i64 k] (.int .i64 (blkInp k)) := by
  refine pcall_fn Code.ok58 (by simp [Code.f58]) fun H => ?_
  simp [Code.f58]
  refine CallK.pure (blk_of k) ?_
  have hj := blkIx_lt k
  have hl := blkRow_len hj
  obtain ⟨n, hn, _, _⟩ := blkRow_in hj
  have e : blkInp k = n := by unfold blkInp; rw [hn]
  have hn' : (blkRow (blkIx k))[1]'(by omega) = .int .i64 n := by
    have := List.getElem?_eq_getElem (l := blkRow (blkIx k)) (i := 1) (by omega)
    rw [hn] at this; exact (Option.some.inj this).symm
  rw [e]
  simp [hl, hn']
  exact .refl _ _
theorem blkInp_le (k : Int) : blkInp k ≤ 5 := by
  obtain ⟨n, hn, h, _⟩ := blkRow_in (blkIx_lt k)
  simp [blkInp, hn, h]
def inputB (s : Sc) (n i : Int) (e : Ex) : Bool := match s.blocks[n.toNat]? with
  | some b => decide (0 ≤ n ∧ 0 ≤ i ∧ i < blkInp b.kind) && decide (e.ty s = fldTy b.kind i)
  | none => false
theorem inputB_le {s : Sc} {n i : Int} {e : Ex} (h : inputB s n i e = true) : 0 ≤ i ∧ i < 5 := by
  unfold inputB at h
  split at h
  · rename_i b _
    have := blkInp_le b.kind
    simp at h; omega
  · cases h
set_option maxRecDepth 20000 in
set_option maxHeartbeats 4000000 in
theorem input_ok (s : Sc) (loop n i : Int) (e : Ex) (he : e.size < 1000000000) (hw : e.wf) : PCall Tryd.prog 50 [.agg (s.pl loop), .int .i64 n, .int .i64 i, .agg e.cells] (.bool (inputB s n i e)) := by
  refine pcall_fn Code.ok50 (by simp [Code.f50]) fun H => ?_
  by_cases h1 : n < 0
  · have e0 : inputB s n i e = false := by unfold inputB; split <;> simp; omega
    rw [e0]
    simp [Code.f50, Sc.pl, h1]
    intro g1 g2
    exact vbd rfl
  by_cases h2 : n < s.blocks.length
  rotate_left
  · have e0 : inputB s n i e = false := by unfold inputB; rw [List.getElem?_eq_none (by omega)]
    rw [e0]
    simp [Code.f50, Sc.pl, h1, h2]
    intro g1 g2
    repeat' (first | exact vbd rfl | (exfalso; omega) | apply And.intro | intro _)
  have h3 : n.toNat < s.blocks.length := by omega
  have h4 : 0 ≤ n := by omega
  by_cases h5 : i < 0
  · have e0 : inputB s n i e = false := by unfold inputB; split <;> simp; omega
    rw [e0]
    simp [Code.f50, Sc.pl, h1, h2, h5]
    intro g1 g2
    repeat' (first | exact vbd rfl | (exfalso; omega) | apply And.intro | intro _)
  have h5' : 0 ≤ i := by omega
  have h2' : ¬ (s.blocks.length : Int) ≤ n := by omega
  have e0 : inputB s n i e = (decide (0 ≤ n ∧ 0 ≤ i ∧ i < blkInp s.blocks[n.toNat].kind) && decide (e.ty s = fldTy s.blocks[n.toNat].kind i)) := by unfold inputB; rw [List.getElem?_eq_getElem h3]
  rw [e0]
  simp [Code.f50, Sc.pl, h1, h2, h2', h3, h4, h5, h5']
  intro g1 g2
  refine CallK.pure (blk_in _) ?_
  by_cases h6 : i < blkInp s.blocks[n.toNat].kind
  rotate_left
  · have h6' : blkInp s.blocks[n.toNat].kind ≤ i := by omega
    simp [h6']
    exact vbd (by simp; omega)
  have h6' : ¬ blkInp s.blocks[n.toNat].kind ≤ i := by omega
  simp [h6', h2, h3, h4]
  refine CallK.pure (blk_field _ _) ?_
  simp
  refine CallK.pure (type_ok s _ (Nat.le_refl _) e he hw) ?_
  simp
  exact vbd (by simp [h6])
end Go.Proofs.YtjgkfgocgknjjaaDoor
