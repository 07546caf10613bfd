/- Data of the program: expressions, inputs, arms, statements; as rows of cells. -/
import Derived.Test.YtjgkfgocgknjjaaDoorA16
set_option linter.unusedVariables false
set_option linter.unusedSimpArgs false
namespace Go.Proofs.YtjgkfgocgknjjaaDoor
open Go Go.RowKit Go.Proofs.YtjgkfgocgknjjaaDoor.Abs

theorem wrap_id {n : Int} (h0 : -9223372036854775808 ≤ n) (h1 : n ≤ 9223372036854775807) : IntKind.i64.wrap n = n := by rw [IntKind.wrap_i64]; omega

/-- Whole numbers. -/
def intRows (l : List Int) : List (List AV) := l.map fun n => [.int .i64 n]
@[simp] theorem intRows_length (l : List Int) : (intRows l).length = l.length := by simp [intRows]
@[simp] theorem intRows_get (l : List Int) (i : Nat) : (intRows l)[i]? = (l[i]?).map fun n => [.int .i64 n] := by simp [intRows]

/-- Expressions. -/
inductive Ex where
  | mk (op t n m : Int) (l : List Ex)
def Ex.op : Ex → Int | .mk a _ _ _ _ => a
def Ex.t : Ex → Int | .mk _ a _ _ _ => a
def Ex.n : Ex → Int | .mk _ _ a _ _ => a
def Ex.m : Ex → Int | .mk _ _ _ a _ => a
def Ex.l : Ex → List Ex | .mk _ _ _ _ a => a
mutual
def Ex.cells : Ex → List AV
  | .mk op t n m l => [.int .i64 op, .int .i64 t, .int .i64 n, .int .i64 m, .sl .no (Ex.rows l)]
def Ex.rows : List Ex → List (List AV)
  | [] => []
  | e :: r => e.cells :: Ex.rows r
end
@[simp] theorem Ex.rows_length : ∀ l : List Ex, (Ex.rows l).length = l.length
  | [] => rfl
  | e :: r => by simp [Ex.rows, Ex.rows_length r]
@[simp] theorem Ex.rows_get : ∀ (l : List Ex) (i : Nat), (Ex.rows l)[i]? = (l[i]?).map Ex.cells
  | [], i => by simp [Ex.rows]
  | e :: r, 0 => by simp [Ex.rows]
  | e :: r, i + 1 => by simp [Ex.rows, Ex.rows_get r i]
@[simp] theorem Ex.rows_getE (l : List Ex) (i : Nat) (h : i < (Ex.rows l).length) : (Ex.rows l)[i]'h = (l[i]'(by simpa using h)).cells := by
  have := Ex.rows_get l i
  rw [List.getElem?_eq_getElem h, List.getElem?_eq_getElem (by simpa using h)] at this
  simpa using this
@[simp] theorem Ex.cells_length (e : Ex) : e.cells.length = 5 := by cases e; rfl
theorem Ex.cells_eq (e : Ex) : e.cells = [.int .i64 e.op, .int .i64 e.t, .int .i64 e.n, .int .i64 e.m, .sl .no (Ex.rows e.l)] := by cases e; rfl
@[simp] theorem Ex.cells0 (e : Ex) : e.cells[0]? = some (.int .i64 e.op) := by cases e; rfl
@[simp] theorem Ex.cellsG0 (e : Ex) (h : 0 < e.cells.length) : e.cells[0]'h = .int .i64 e.op := by cases e; rfl
@[simp] theorem Ex.cells1 (e : Ex) : e.cells[1]? = some (.int .i64 e.t) := by cases e; rfl
@[simp] theorem Ex.cellsG1 (e : Ex) (h : 1 < e.cells.length) : e.cells[1]'h = .int .i64 e.t := by cases e; rfl
@[simp] theorem Ex.cells2 (e : Ex) : e.cells[2]? = some (.int .i64 e.n) := by cases e; rfl
@[simp] theorem Ex.cellsG2 (e : Ex) (h : 2 < e.cells.length) : e.cells[2]'h = .int .i64 e.n := by cases e; rfl
@[simp] theorem Ex.cells3 (e : Ex) : e.cells[3]? = some (.int .i64 e.m) := by cases e; rfl
@[simp] theorem Ex.cellsG3 (e : Ex) (h : 3 < e.cells.length) : e.cells[3]'h = .int .i64 e.m := by cases e; rfl
@[simp] theorem Ex.cells4 (e : Ex) : e.cells[4]? = some (.sl .no (Ex.rows e.l)) := by cases e; rfl
@[simp] theorem Ex.cellsG4 (e : Ex) (h : 4 < e.cells.length) : e.cells[4]'h = .sl .no (Ex.rows e.l) := by cases e; rfl
mutual
def Ex.size : Ex → Nat
  | .mk _ _ _ _ l => 1 + Ex.sizeL l
def Ex.sizeL : List Ex → Nat
  | [] => 0
  | e :: r => e.size + Ex.sizeL r
end
theorem Ex.size_eq (e : Ex) : e.size = 1 + Ex.sizeL e.l := by cases e; rfl
theorem Ex.size_pos (e : Ex) : 1 ≤ e.size := by rw [Ex.size_eq]; omega
theorem Ex.size_mem : ∀ {l : List Ex} {i : Nat} (h : i < l.length), l[i].size ≤ Ex.sizeL l
  | [], i, h => by simp at h
  | x :: r, 0, h => by simp [Ex.sizeL]
  | x :: r, i + 1, h => by have := Ex.size_mem (l := r) (i := i) (by simpa using h); simp [Ex.sizeL]; omega
theorem Ex.len_size : ∀ l : List Ex, l.length ≤ Ex.sizeL l
  | [] => by simp
  | x :: r => by have := Ex.len_size r; have := x.size_pos; simp [Ex.sizeL]; omega

/-- Whole numbers of 64 bits; expressions of such. -/
def I64 (n : Int) : Prop := -9223372036854775808 ≤ n ∧ n ≤ 9223372036854775807
mutual
def Ex.wf : Ex → Prop
  | .mk op t n m l => I64 op ∧ I64 t ∧ I64 n ∧ I64 m ∧ Ex.wfL l
def Ex.wfL : List Ex → Prop
  | [] => True
  | e :: r => e.wf ∧ Ex.wfL r
end
theorem Ex.wf_eq (e : Ex) : e.wf = (I64 e.op ∧ I64 e.t ∧ I64 e.n ∧ I64 e.m ∧ Ex.wfL e.l) := by cases e; rw [Ex.wf]; rfl
theorem Ex.wf_mem : ∀ {l : List Ex} {i : Nat} (h : i < l.length), Ex.wfL l → (l[i]).wf
  | [], i, h, _ => by simp at h
  | x :: r, 0, h, w => by rw [Ex.wfL] at w; exact w.1
  | x :: r, i + 1, h, w => by rw [Ex.wfL] at w; exact Ex.wf_mem (l := r) (by simpa using h) w.2

/-- Inputs of a call. -/
structure Arg where
  field : Int
  e : Ex
def Arg.cells (a : Arg) : List AV := .int .i64 a.field :: a.e.cells
@[simp] theorem Arg.cells_length (a : Arg) : a.cells.length = 6 := by simp [Arg.cells]
@[simp] theorem Arg.cells0 (a : Arg) : a.cells[0]? = some (.int .i64 a.field) := rfl
@[simp] theorem Arg.cellsG0 (a : Arg) (h : 0 < a.cells.length) : a.cells[0]'h = .int .i64 a.field := rfl
@[simp] theorem Arg.cellsE (a : Arg) : (a.cells.drop 1).take 5 = a.e.cells := by simp [Arg.cells]; exact List.take_of_length_le (by simp)
@[simp] theorem Arg.cellsE' (a : Arg) : a.cells.tail.take 5 = a.e.cells := by simp [Arg.cells]; exact List.take_of_length_le (by simp)
def Arg.rows (l : List Arg) : List (List AV) := l.map Arg.cells
@[simp] theorem Arg.rows_length (l : List Arg) : (Arg.rows l).length = l.length := by simp [Arg.rows]
@[simp] theorem Arg.rows_get (l : List Arg) (i : Nat) : (Arg.rows l)[i]? = (l[i]?).map Arg.cells := by simp [Arg.rows]

/-! Statements, arms. -/
mutual
inductive St where
  | mk (kind cost n m : Int) (e i : Ex) (l : List Ex) (args : List Arg) (body els : List St) (arms : List Arm)
inductive Arm where
  | mk (labels : List Int) (body : List St)
end
def St.kind : St → Int | .mk a _ _ _ _ _ _ _ _ _ _ => a
def St.cost : St → Int | .mk _ a _ _ _ _ _ _ _ _ _ => a
def St.n : St → Int | .mk _ _ a _ _ _ _ _ _ _ _ => a
def St.m : St → Int | .mk _ _ _ a _ _ _ _ _ _ _ => a
def St.e : St → Ex | .mk _ _ _ _ a _ _ _ _ _ _ => a
def St.i : St → Ex | .mk _ _ _ _ _ a _ _ _ _ _ => a
def St.l : St → List Ex | .mk _ _ _ _ _ _ a _ _ _ _ => a
def St.args : St → List Arg | .mk _ _ _ _ _ _ _ a _ _ _ => a
def St.body : St → List St | .mk _ _ _ _ _ _ _ _ a _ _ => a
def St.els : St → List St | .mk _ _ _ _ _ _ _ _ _ a _ => a
def St.arms : St → List Arm | .mk _ _ _ _ _ _ _ _ _ _ a => a
def Arm.labels : Arm → List Int | .mk a _ => a
def Arm.body : Arm → List St | .mk _ a => a
@[simp] theorem St.mk_kind (kind cost n m : Int) (e i : Ex) (l : List Ex) (args : List Arg) (body els : List St) (arms : List Arm) : (St.mk kind cost n m e i l args body els arms).kind = kind := rfl
@[simp] theorem St.mk_cost (kind cost n m : Int) (e i : Ex) (l : List Ex) (args : List Arg) (body els : List St) (arms : List Arm) : (St.mk kind cost n m e i l args body els arms).cost = cost := rfl
@[simp] theorem St.mk_n (kind cost n m : Int) (e i : Ex) (l : List Ex) (args : List Arg) (body els : List St) (arms : List Arm) : (St.mk kind cost n m e i l args body els arms).n = n := rfl
@[simp] theorem St.mk_m (kind cost n m : Int) (e i : Ex) (l : List Ex) (args : List Arg) (body els : List St) (arms : List Arm) : (St.mk kind cost n m e i l args body els arms).m = m := rfl
@[simp] theorem St.mk_e (kind cost n m : Int) (e i : Ex) (l : List Ex) (args : List Arg) (body els : List St) (arms : List Arm) : (St.mk kind cost n m e i l args body els arms).e = e := rfl
@[simp] theorem St.mk_i (kind cost n m : Int) (e i : Ex) (l : List Ex) (args : List Arg) (body els : List St) (arms : List Arm) : (St.mk kind cost n m e i l args body els arms).i = i := rfl
@[simp] theorem St.mk_l (kind cost n m : Int) (e i : Ex) (l : List Ex) (args : List Arg) (body els : List St) (arms : List Arm) : (St.mk kind cost n m e i l args body els arms).l = l := rfl
@[simp] theorem St.mk_args (kind cost n m : Int) (e i : Ex) (l : List Ex) (args : List Arg) (body els : List St) (arms : List Arm) : (St.mk kind cost n m e i l args body els arms).args = args := rfl
@[simp] theorem St.mk_body (kind cost n m : Int) (e i : Ex) (l : List Ex) (args : List Arg) (body els : List St) (arms : List Arm) : (St.mk kind cost n m e i l args body els arms).body = body := rfl
@[simp] theorem St.mk_els (kind cost n m : Int) (e i : Ex) (l : List Ex) (args : List Arg) (body els : List St) (arms : List Arm) : (St.mk kind cost n m e i l args body els arms).els = els := rfl
@[simp] theorem St.mk_arms (kind cost n m : Int) (e i : Ex) (l : List Ex) (args : List Arg) (body els : List St) (arms : List Arm) : (St.mk kind cost n m e i l args body els arms).arms = arms := rfl
@[simp] theorem Ex.mk_op (op t n m : Int) (l : List Ex) : (Ex.mk op t n m l).op = op := rfl
@[simp] theorem Ex.mk_t (op t n m : Int) (l : List Ex) : (Ex.mk op t n m l).t = t := rfl
@[simp] theorem Ex.mk_n (op t n m : Int) (l : List Ex) : (Ex.mk op t n m l).n = n := rfl
@[simp] theorem Ex.mk_m (op t n m : Int) (l : List Ex) : (Ex.mk op t n m l).m = m := rfl
@[simp] theorem Ex.mk_l (op t n m : Int) (l : List Ex) : (Ex.mk op t n m l).l = l := rfl
@[simp] theorem Arm.mk_labels (l : List Int) (b : List St) : (Arm.mk l b).labels = l := rfl
@[simp] theorem Arm.mk_body (l : List Int) (b : List St) : (Arm.mk l b).body = b := rfl
mutual
def St.cells : St → List AV
  | .mk kind cost n m e i l args body els arms => [.int .i64 kind, .int .i64 cost, .int .i64 n, .int .i64 m, .int .i64 e.op, .int .i64 e.t, .int .i64 e.n, .int .i64 e.m, .sl .no (Ex.rows e.l),
      .int .i64 i.op, .int .i64 i.t, .int .i64 i.n, .int .i64 i.m, .sl .no (Ex.rows i.l), .sl .no (Ex.rows l), .sl .no (Arg.rows args), .sl .no (St.rows body), .sl .no (St.rows els), .sl .no (Arm.rows arms)]
def Arm.cells : Arm → List AV
  | .mk labels body => [.sl .no (intRows labels), .sl .no (St.rows body)]
def St.rows : List St → List (List AV)
  | [] => []
  | e :: r => e.cells :: St.rows r
def Arm.rows : List Arm → List (List AV)
  | [] => []
  | e :: r => e.cells :: Arm.rows r
end
@[simp] theorem St.rows_length : ∀ l : List St, (St.rows l).length = l.length
  | [] => rfl
  | e :: r => by simp [St.rows, St.rows_length r]
@[simp] theorem St.rows_get : ∀ (l : List St) (i : Nat), (St.rows l)[i]? = (l[i]?).map St.cells
  | [], i => by simp [St.rows]
  | e :: r, 0 => by simp [St.rows]
  | e :: r, i + 1 => by simp [St.rows, St.rows_get r i]
@[simp] theorem Arm.rows_length : ∀ l : List Arm, (Arm.rows l).length = l.length
  | [] => rfl
  | e :: r => by simp [Arm.rows, Arm.rows_length r]
@[simp] theorem Arm.rows_get : ∀ (l : List Arm) (i : Nat), (Arm.rows l)[i]? = (l[i]?).map Arm.cells
  | [], i => by simp [Arm.rows]
  | e :: r, 0 => by simp [Arm.rows]
  | e :: r, i + 1 => by simp [Arm.rows, Arm.rows_get r i]
theorem St.rows_append : ∀ (l r : List St), St.rows (l ++ r) = St.rows l ++ St.rows r
  | [], r => by simp [St.rows]
  | e :: l, r => by simp [St.rows, St.rows_append l r]
theorem Arm.rows_append : ∀ (l r : List Arm), Arm.rows (l ++ r) = Arm.rows l ++ Arm.rows r
  | [], r => by simp [Arm.rows]
  | e :: l, r => by simp [Arm.rows, Arm.rows_append l r]
@[simp] theorem St.cells_length (x : St) : x.cells.length = 19 := by cases x; rfl
theorem St.cells_eq (x : St) : x.cells = [.int .i64 x.kind, .int .i64 x.cost, .int .i64 x.n, .int .i64 x.m, .int .i64 x.e.op, .int .i64 x.e.t, .int .i64 x.e.n, .int .i64 x.e.m, .sl .no (Ex.rows x.e.l),
      .int .i64 x.i.op, .int .i64 x.i.t, .int .i64 x.i.n, .int .i64 x.i.m, .sl .no (Ex.rows x.i.l), .sl .no (Ex.rows x.l), .sl .no (Arg.rows x.args), .sl .no (St.rows x.body), .sl .no (St.rows x.els), .sl .no (Arm.rows x.arms)] := by cases x; rfl
@[simp] theorem St.cells0 (x : St) : x.cells[0]? = some (.int .i64 x.kind) := by cases x; rfl
@[simp] theorem St.cellsG0 (x : St) (h : 0 < x.cells.length) : x.cells[0]'h = .int .i64 x.kind := by cases x; rfl
@[simp] theorem St.cells1 (x : St) : x.cells[1]? = some (.int .i64 x.cost) := by cases x; rfl
@[simp] theorem St.cellsG1 (x : St) (h : 1 < x.cells.length) : x.cells[1]'h = .int .i64 x.cost := by cases x; rfl
@[simp] theorem St.cells2 (x : St) : x.cells[2]? = some (.int .i64 x.n) := by cases x; rfl
@[simp] theorem St.cellsG2 (x : St) (h : 2 < x.cells.length) : x.cells[2]'h = .int .i64 x.n := by cases x; rfl
@[simp] theorem St.cells3 (x : St) : x.cells[3]? = some (.int .i64 x.m) := by cases x; rfl
@[simp] theorem St.cellsG3 (x : St) (h : 3 < x.cells.length) : x.cells[3]'h = .int .i64 x.m := by cases x; rfl
@[simp] theorem St.cells14 (x : St) : x.cells[14]? = some (.sl .no (Ex.rows x.l)) := by cases x; rfl
@[simp] theorem St.cellsG14 (x : St) (h : 14 < x.cells.length) : x.cells[14]'h = .sl .no (Ex.rows x.l) := by cases x; rfl
@[simp] theorem St.cells15 (x : St) : x.cells[15]? = some (.sl .no (Arg.rows x.args)) := by cases x; rfl
@[simp] theorem St.cellsG15 (x : St) (h : 15 < x.cells.length) : x.cells[15]'h = .sl .no (Arg.rows x.args) := by cases x; rfl
@[simp] theorem St.cells16 (x : St) : x.cells[16]? = some (.sl .no (St.rows x.body)) := by cases x; rfl
@[simp] theorem St.cellsG16 (x : St) (h : 16 < x.cells.length) : x.cells[16]'h = .sl .no (St.rows x.body) := by cases x; rfl
@[simp] theorem St.cells17 (x : St) : x.cells[17]? = some (.sl .no (St.rows x.els)) := by cases x; rfl
@[simp] theorem St.cellsG17 (x : St) (h : 17 < x.cells.length) : x.cells[17]'h = .sl .no (St.rows x.els) := by cases x; rfl
@[simp] theorem St.cells18 (x : St) : x.cells[18]? = some (.sl .no (Arm.rows x.arms)) := by cases x; rfl
@[simp] theorem St.cellsG18 (x : St) (h : 18 < x.cells.length) : x.cells[18]'h = .sl .no (Arm.rows x.arms) := by cases x; rfl
@[simp] theorem St.cellsE (x : St) : (x.cells.drop 4).take 5 = x.e.cells := by rw [Ex.cells_eq]; cases x; rfl
@[simp] theorem St.cellsI (x : St) : (x.cells.drop 9).take 5 = x.i.cells := by rw [Ex.cells_eq]; cases x; rfl
@[simp] theorem Arm.cells_length (x : Arm) : x.cells.length = 2 := by cases x; rfl
theorem Arm.cells_eq (x : Arm) : x.cells = [.sl .no (intRows x.labels), .sl .no (St.rows x.body)] := by cases x; rfl
@[simp] theorem Arm.cells0 (x : Arm) : x.cells[0]? = some (.sl .no (intRows x.labels)) := by cases x; rfl
@[simp] theorem Arm.cellsG0 (x : Arm) (h : 0 < x.cells.length) : x.cells[0]'h = .sl .no (intRows x.labels) := by cases x; rfl
@[simp] theorem Arm.cells1 (x : Arm) : x.cells[1]? = some (.sl .no (St.rows x.body)) := by cases x; rfl
@[simp] theorem Arm.cellsG1 (x : Arm) (h : 1 < x.cells.length) : x.cells[1]'h = .sl .no (St.rows x.body) := by cases x; rfl

def Arg.size (a : Arg) : Nat := 1 + a.e.size
def Arg.sizeL (l : List Arg) : Nat := (l.map Arg.size).sum
mutual
def St.size : St → Nat
  | .mk _ _ _ _ e i l args body els arms => 1 + e.size + i.size + Ex.sizeL l + Arg.sizeL args + St.sizeL body + St.sizeL els + Arm.sizeL arms
def Arm.size : Arm → Nat
  | .mk labels body => 1 + labels.length + St.sizeL body
def St.sizeL : List St → Nat
  | [] => 0
  | x :: r => x.size + St.sizeL r
def Arm.sizeL : List Arm → Nat
  | [] => 0
  | x :: r => x.size + Arm.sizeL r
end
theorem St.size_eq (x : St) : x.size = 1 + x.e.size + x.i.size + Ex.sizeL x.l + Arg.sizeL x.args + St.sizeL x.body + St.sizeL x.els + Arm.sizeL x.arms := by cases x; simp [St.size, St.e, St.i, St.l, St.args, St.body, St.els, St.arms]
theorem Arm.size_eq (x : Arm) : x.size = 1 + x.labels.length + St.sizeL x.body := by cases x; simp [Arm.size, Arm.labels, Arm.body]
theorem St.size_pos (x : St) : 1 ≤ x.size := by rw [St.size_eq]; omega
theorem Arm.size_pos (x : Arm) : 1 ≤ x.size := by rw [Arm.size_eq]; omega
theorem St.size_mem : ∀ {l : List St} {i : Nat} (h : i < l.length), l[i].size ≤ St.sizeL l
  | [], i, h => by simp at h
  | x :: r, 0, h => by simp [St.sizeL]
  | x :: r, i + 1, h => by have := St.size_mem (l := r) (i := i) (by simpa using h); simp [St.sizeL]; omega
theorem Arm.size_mem : ∀ {l : List Arm} {i : Nat} (h : i < l.length), l[i].size ≤ Arm.sizeL l
  | [], i, h => by simp at h
  | x :: r, 0, h => by simp [Arm.sizeL]
  | x :: r, i + 1, h => by have := Arm.size_mem (l := r) (i := i) (by simpa using h); simp [Arm.sizeL]; omega
theorem Arg.size_mem : ∀ {l : List Arg} {i : Nat} (h : i < l.length), l[i].size ≤ Arg.sizeL l
  | [], i, h => by simp at h
  | x :: r, 0, h => by simp [Arg.sizeL]
  | x :: r, i + 1, h => by have := Arg.size_mem (l := r) (i := i) (by simpa using h); simp [Arg.sizeL] at this ⊢; omega
theorem St.len_size : ∀ l : List St, l.length ≤ St.sizeL l
  | [] => by simp
  | x :: r => by have := St.len_size r; have := x.size_pos; simp [St.sizeL]; omega
theorem Arm.len_size : ∀ l : List Arm, l.length ≤ Arm.sizeL l
  | [] => by simp
  | x :: r => by have := Arm.len_size r; have := x.size_pos; simp [Arm.sizeL]; omega
theorem Arg.len_size : ∀ l : List Arg, l.length ≤ Arg.sizeL l
  | [] => by simp
  | x :: r => by have := Arg.len_size r; simp [Arg.sizeL, Arg.size] at this ⊢; omega
end Go.Proofs.YtjgkfgocgknjjaaDoor
