/- Networks, as rows of cells. -/
import Derived.Test.YtmilcpmhdokhgaaDoorD1
set_option linter.unusedVariables false
set_option linter.unusedSimpArgs false
namespace Go.Proofs.YtmilcpmhdokhgaaDoor
open Go Go.RowKit Go.Proofs.YtmilcpmhdokhgaaDoor.Abs

inductive Nt where
  | mk (kind neg : Int) (e : Ex) (l : List Nt)
def Nt.kind : Nt → Int | .mk a _ _ _ => a
def Nt.neg : Nt → Int | .mk _ a _ _ => a
def Nt.e : Nt → Ex | .mk _ _ a _ => a
def Nt.l : Nt → List Nt | .mk _ _ _ a => a
@[simp] theorem Nt.mk_kind (a b : Int) (e : Ex) (l : List Nt) : (Nt.mk a b e l).kind = a := rfl
@[simp] theorem Nt.mk_neg (a b : Int) (e : Ex) (l : List Nt) : (Nt.mk a b e l).neg = b := rfl
@[simp] theorem Nt.mk_e (a b : Int) (e : Ex) (l : List Nt) : (Nt.mk a b e l).e = e := rfl
@[simp] theorem Nt.mk_l (a b : Int) (e : Ex) (l : List Nt) : (Nt.mk a b e l).l = l := rfl
mutual
def Nt.cells : Nt → List AV
  | .mk k n e l => [.int .i64 k, .int .i64 n, .int .i64 e.op, .int .i64 e.t, .int .i64 e.n, .int .i64 e.m, .sl .no (Ex.rows e.l), .sl .no (Nt.rows l)]
def Nt.rows : List Nt → List (List AV)
  | [] => []
  | x :: r => x.cells :: Nt.rows r
end
theorem Nt.rows_map : ∀ l : List Nt, Nt.rows l = l.map Nt.cells
  | [] => by simp [Nt.rows]
  | x :: r => by simp [Nt.rows, Nt.rows_map r]
@[simp] theorem Nt.rows_length (l : List Nt) : (Nt.rows l).length = l.length := by simp [Nt.rows_map]
@[simp] theorem Nt.rows_get (l : List Nt) (i : Nat) : (Nt.rows l)[i]? = (l[i]?).map Nt.cells := by simp [Nt.rows_map]
@[simp] theorem Nt.rows_getE (l : List Nt) (i : Nat) (h : i < (Nt.rows l).length) : (Nt.rows l)[i]'h = (l[i]'(by simpa using h)).cells := by simp [Nt.rows_map]
@[simp] theorem Nt.rows_nil : Nt.rows [] = [] := by simp [Nt.rows_map]
theorem Nt.rows_snoc (l : List Nt) (x : Nt) : Nt.rows (l ++ [x]) = Nt.rows l ++ [x.cells] := by simp [Nt.rows_map]
theorem Nt.rows_app (l m : List Nt) : Nt.rows (l ++ m) = Nt.rows l ++ Nt.rows m := by simp [Nt.rows_map]
@[simp] theorem Nt.cells_length (x : Nt) : x.cells.length = 8 := by cases x; rfl
theorem Nt.rows_mem {l : List Nt} : ∀ r ∈ Nt.rows l, r.length = 8 := by
  intro r h
  rw [Nt.rows_map, List.mem_map] at h
  obtain ⟨x, _, rfl⟩ := h
  simp
theorem Nt.cells_eq (x : Nt) : x.cells = [.int .i64 x.kind, .int .i64 x.neg, .int .i64 x.e.op, .int .i64 x.e.t, .int .i64 x.e.n, .int .i64 x.e.m, .sl .no (Ex.rows x.e.l), .sl .no (Nt.rows x.l)] := by cases x; rfl
@[simp] theorem Nt.cells0 (x : Nt) : x.cells[0]? = some (.int .i64 x.kind) := by cases x; rfl
@[simp] theorem Nt.cells1 (x : Nt) : x.cells[1]? = some (.int .i64 x.neg) := by cases x; rfl
@[simp] theorem Nt.cells2 (x : Nt) : x.cells[2]? = some (.int .i64 x.e.op) := by cases x; rfl
@[simp] theorem Nt.cells7 (x : Nt) : x.cells[7]? = some (.sl .no (Nt.rows x.l)) := by cases x; rfl
@[simp] theorem Nt.cellsG0 (x : Nt) (h : 0 < x.cells.length) : x.cells[0]'h = .int .i64 x.kind := by cases x; rfl
@[simp] theorem Nt.cellsG1 (x : Nt) (h : 1 < x.cells.length) : x.cells[1]'h = .int .i64 x.neg := by cases x; rfl
@[simp] theorem Nt.cellsG2 (x : Nt) (h : 2 < x.cells.length) : x.cells[2]'h = .int .i64 x.e.op := by cases x; rfl
@[simp] theorem Nt.cellsG7 (x : Nt) (h : 7 < x.cells.length) : x.cells[7]'h = .sl .no (Nt.rows x.l) := by cases x; rfl
@[simp] theorem Nt.cellsE (x : Nt) : (x.cells.drop 2).take 5 = x.e.cells := by rw [Ex.cells_eq]; cases x; rfl
mutual
def Nt.size : Nt → Nat
  | .mk _ _ e l => 1 + e.size + Nt.sizeL l
def Nt.sizeL : List Nt → Nat
  | [] => 0
  | x :: r => x.size + Nt.sizeL r
end
theorem Nt.size_eq (x : Nt) : x.size = 1 + x.e.size + Nt.sizeL x.l := by cases x; rw [Nt.size]; rfl
theorem Nt.size_pos (x : Nt) : 1 ≤ x.size := by rw [Nt.size_eq]; omega
theorem Nt.size_mem : ∀ {l : List Nt} {i : Nat} (h : i < l.length), l[i].size ≤ Nt.sizeL l
  | [], i, h => by simp at h
  | x :: r, 0, h => by simp [Nt.sizeL]
  | x :: r, i + 1, h => by have := Nt.size_mem (l := r) (i := i) (by simpa using h); simp [Nt.sizeL]; omega
theorem Nt.len_size : ∀ l : List Nt, l.length ≤ Nt.sizeL l
  | [] => by simp
  | x :: r => by have := Nt.len_size r; have := x.size_pos; simp [Nt.sizeL]; omega
theorem Nt.sizeL_take {l : List Nt} {i : Nat} (h : i < l.length) : Nt.sizeL (l.take (i + 1)) = Nt.sizeL (l.take i) + (l[i]).size := by
  induction l generalizing i with
  | nil => simp at h
  | cons x r ih =>
    cases i with
    | zero => simp [Nt.sizeL]
    | succ i => simp [Nt.sizeL, ih (by simpa using h)]; omega
mutual
def Nt.wf : Nt → Prop
  | .mk k n e l => I64 k ∧ I64 n ∧ e.wf ∧ Nt.wfL l
def Nt.wfL : List Nt → Prop
  | [] => True
  | x :: r => x.wf ∧ Nt.wfL r
end
theorem Nt.wf_eq (x : Nt) : x.wf = (I64 x.kind ∧ I64 x.neg ∧ x.e.wf ∧ Nt.wfL x.l) := by cases x; rw [Nt.wf]; rfl
theorem Nt.wf_mem : ∀ {l : List Nt} {i : Nat} (h : i < l.length), Nt.wfL l → (l[i]).wf
  | [], i, h, _ => by simp at h
  | x :: r, 0, h, w => by rw [Nt.wfL] at w; exact w.1
  | x :: r, i + 1, h, w => by rw [Nt.wfL] at w; exact Nt.wf_mem (l := r) (by simpa using h) w.2
theorem Nt.wfL_of : ∀ {l : List Nt}, (∀ x ∈ l, x.wf) → Nt.wfL l
  | [], _ => trivial
  | x :: r, h => ⟨h x (by simp), Nt.wfL_of fun y hy => h y (by simp [hy])⟩
mutual
def Nt.para {α : Type} (f : Nt → List α → α) : Nt → α
  | .mk a b c l => f (.mk a b c l) (Nt.paraL f l)
def Nt.paraL {α : Type} (f : Nt → List α → α) : List Nt → List α
  | [] => []
  | x :: r => x.para f :: Nt.paraL f r
end
theorem Nt.paraL_map {α : Type} (f : Nt → List α → α) : ∀ l, Nt.paraL f l = l.map (Nt.para f)
  | [] => rfl
  | x :: r => by rw [Nt.paraL, Nt.paraL_map f r]; rfl
theorem Nt.para_eq {α : Type} (f : Nt → List α → α) (x : Nt) : x.para f = f x (x.l.map (Nt.para f)) := by
  cases x with
  | mk a b c l => rw [Nt.para, Nt.paraL_map]; rfl
theorem Nt.sized {p : Nt → Prop} (h : ∀ x, (∀ (i : Nat) (hi : i < x.l.length), p x.l[i]) → p x) (x : Nt) : p x := by
  have : ∀ (k : Nat) (x : Nt), x.size < k → p x := by
    intro k
    induction k with
    | zero => intro e h; omega
    | succ k ih =>
      intro e he
      refine h e fun i hi => ih _ ?_
      have := Nt.size_eq e
      have := Nt.size_mem hi
      omega
  exact this _ x (Nat.lt_succ_self _)
end Go.Proofs.YtmilcpmhdokhgaaDoor
