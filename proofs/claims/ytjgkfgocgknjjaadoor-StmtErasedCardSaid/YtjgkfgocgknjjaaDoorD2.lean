/- Data of the program: variables, blocks, signatures, scopes, instructions, units, programs, states; as rows of cells. -/
import Derived.Test.YtjgkfgocgknjjaaDoorD1
set_option linter.unusedVariables false
set_option linter.unusedSimpArgs false
namespace Go.Proofs.YtjgkfgocgknjjaaDoor
open Go Go.RowKit Go.Proofs.YtjgkfgocgknjjaaDoor.Abs

structure Vr where
  name : ByteArray
  t : Int
  n : Int
  area : Int
  init : Int
def Vr.cells (v : Vr) : List AV := [.str v.name, .int .i64 v.t, .int .i64 v.n, .int .i64 v.area, .int .i64 v.init]
def Vr.rows (l : List Vr) : List (List AV) := l.map Vr.cells
structure Bk where
  name : ByteArray
  kind : Int
def Bk.cells (b : Bk) : List AV := [.str b.name, .int .i64 b.kind]
def Bk.rows (l : List Bk) : List (List AV) := l.map Bk.cells
structure Sg where
  params : List Int
  result : Int
def Sg.cells (b : Sg) : List AV := [.sl .no (intRows b.params), .int .i64 b.result]
def Sg.rows (l : List Sg) : List (List AV) := l.map Sg.cells
structure Sc where
  vars : List Vr
  blocks : List Bk
  sigs : List Sg
  slots : List Int
def Sc.cells (s : Sc) : List AV := [.sl .no (Vr.rows s.vars), .sl .no (Bk.rows s.blocks), .sl .no (Sg.rows s.sigs), .sl .no (intRows s.slots)]
@[simp] theorem Vr.cells_length (v : Vr) : v.cells.length = 5 := rfl
@[simp] theorem Vr.cells0 (v : Vr) : v.cells[0]? = some (.str v.name) := rfl
@[simp] theorem Vr.cells1 (v : Vr) : v.cells[1]? = some (.int .i64 v.t) := rfl
@[simp] theorem Vr.cells2 (v : Vr) : v.cells[2]? = some (.int .i64 v.n) := rfl
@[simp] theorem Vr.cellsG0 (v : Vr) (h : 0 < v.cells.length) : v.cells[0]'h = .str v.name := rfl
@[simp] theorem Vr.cellsG1 (v : Vr) (h : 1 < v.cells.length) : v.cells[1]'h = .int .i64 v.t := rfl
@[simp] theorem Vr.cellsG2 (v : Vr) (h : 2 < v.cells.length) : v.cells[2]'h = .int .i64 v.n := rfl
@[simp] theorem Vr.rows_length (l : List Vr) : (Vr.rows l).length = l.length := by simp [Vr.rows]
@[simp] theorem Vr.rows_get (l : List Vr) (i : Nat) : (Vr.rows l)[i]? = (l[i]?).map Vr.cells := by simp [Vr.rows]
@[simp] theorem Bk.cells_length (v : Bk) : v.cells.length = 2 := rfl
@[simp] theorem Bk.cells0 (v : Bk) : v.cells[0]? = some (.str v.name) := rfl
@[simp] theorem Bk.cells1 (v : Bk) : v.cells[1]? = some (.int .i64 v.kind) := rfl
@[simp] theorem Bk.cellsG0 (v : Bk) (h : 0 < v.cells.length) : v.cells[0]'h = .str v.name := rfl
@[simp] theorem Bk.cellsG1 (v : Bk) (h : 1 < v.cells.length) : v.cells[1]'h = .int .i64 v.kind := rfl
@[simp] theorem Bk.rows_length (l : List Bk) : (Bk.rows l).length = l.length := by simp [Bk.rows]
@[simp] theorem Bk.rows_get (l : List Bk) (i : Nat) : (Bk.rows l)[i]? = (l[i]?).map Bk.cells := by simp [Bk.rows]
@[simp] theorem Sg.cells_length (v : Sg) : v.cells.length = 2 := rfl
@[simp] theorem Sg.cells0 (v : Sg) : v.cells[0]? = some (.sl .no (intRows v.params)) := rfl
@[simp] theorem Sg.cells1 (v : Sg) : v.cells[1]? = some (.int .i64 v.result) := rfl
@[simp] theorem Sg.cellsG0 (v : Sg) (h : 0 < v.cells.length) : v.cells[0]'h = .sl .no (intRows v.params) := rfl
@[simp] theorem Sg.cellsG1 (v : Sg) (h : 1 < v.cells.length) : v.cells[1]'h = .int .i64 v.result := rfl
@[simp] theorem Sg.rows_length (l : List Sg) : (Sg.rows l).length = l.length := by simp [Sg.rows]
@[simp] theorem Sg.rows_get (l : List Sg) (i : Nat) : (Sg.rows l)[i]? = (l[i]?).map Sg.cells := by simp [Sg.rows]
@[simp] theorem Vr.rows_getE (l : List Vr) (i : Nat) (h : i < (Vr.rows l).length) : (Vr.rows l)[i]'h = (l[i]'(by simpa using h)).cells := by simp [Vr.rows]
@[simp] theorem Bk.rows_getE (l : List Bk) (i : Nat) (h : i < (Bk.rows l).length) : (Bk.rows l)[i]'h = (l[i]'(by simpa using h)).cells := by simp [Bk.rows]
@[simp] theorem Sg.rows_getE (l : List Sg) (i : Nat) (h : i < (Sg.rows l).length) : (Sg.rows l)[i]'h = (l[i]'(by simpa using h)).cells := by simp [Sg.rows]
@[simp] theorem intRows_getE (l : List Int) (i : Nat) (h : i < (intRows l).length) : (intRows l)[i]'h = [.int .i64 (l[i]'(by simpa using h))] := by simp [intRows]
theorem Sg.rows_mem {l : List Sg} : ∀ r ∈ Sg.rows l, r.length = 2 := by
  intro r h; simp only [Sg.rows, List.mem_map] at h; obtain ⟨x, _, rfl⟩ := h; rfl
theorem Sg.rows_snoc (l : List Sg) (x : Sg) : Sg.rows (l ++ [x]) = Sg.rows l ++ [x.cells] := by simp [Sg.rows]
@[simp] theorem Sg.rows_nil : Sg.rows [] = [] := rfl
theorem intRows_mem {l : List Int} : ∀ r ∈ intRows l, r.length = 1 := by
  intro r h; simp only [intRows, List.mem_map] at h; obtain ⟨x, _, rfl⟩ := h; rfl
theorem intRows_snoc (l : List Int) (x : Int) : intRows (l ++ [x]) = intRows l ++ [[.int .i64 x]] := by simp [intRows]
theorem intRows_app (l m : List Int) : intRows (l ++ m) = intRows l ++ intRows m := by simp [intRows]
@[simp] theorem intRows_nil : intRows [] = [] := rfl
@[simp] theorem Sc.cells_length (v : Sc) : v.cells.length = 4 := rfl
@[simp] theorem Sc.cells0 (v : Sc) : v.cells[0]? = some (.sl .no (Vr.rows v.vars)) := rfl
@[simp] theorem Sc.cells1 (v : Sc) : v.cells[1]? = some (.sl .no (Bk.rows v.blocks)) := rfl
@[simp] theorem Sc.cells2 (v : Sc) : v.cells[2]? = some (.sl .no (Sg.rows v.sigs)) := rfl
@[simp] theorem Sc.cells3 (v : Sc) : v.cells[3]? = some (.sl .no (intRows v.slots)) := rfl
@[simp] theorem Sc.cellsG0 (v : Sc) (h : 0 < v.cells.length) : v.cells[0]'h = .sl .no (Vr.rows v.vars) := rfl
@[simp] theorem Sc.cellsG1 (v : Sc) (h : 1 < v.cells.length) : v.cells[1]'h = .sl .no (Bk.rows v.blocks) := rfl
@[simp] theorem Sc.cellsG2 (v : Sc) (h : 2 < v.cells.length) : v.cells[2]'h = .sl .no (Sg.rows v.sigs) := rfl
@[simp] theorem Sc.cellsG3 (v : Sc) (h : 3 < v.cells.length) : v.cells[3]'h = .sl .no (intRows v.slots) := rfl
end Go.Proofs.YtjgkfgocgknjjaaDoor
