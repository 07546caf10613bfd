/- Data of the program: units, programs, states, cases; as rows of cells. (Printed by gend3.py.) -/
import Derived.Test.YtjgkfgocgknjjaaDoorD2
set_option linter.unusedVariables false
set_option linter.unusedSimpArgs false
namespace Go.Proofs.YtjgkfgocgknjjaaDoor
open Go Go.RowKit Go.Proofs.YtjgkfgocgknjjaaDoor.Abs

def lsRows (l : List (List Int)) : List (List AV) := l.map fun x => [.sl .no (intRows x)]
@[simp] theorem lsRows_length (l : List (List Int)) : (lsRows l).length = l.length := by simp [lsRows]
@[simp] theorem lsRows_get (l : List (List Int)) (i : Nat) : (lsRows l)[i]? = (l[i]?).map fun x => [.sl .no (intRows x)] := by simp [lsRows]
@[simp] theorem lsRows_getE (l : List (List Int)) (i : Nat) (h : i < (lsRows l).length) : (lsRows l)[i]'h = [.sl .no (intRows (l[i]'(by simpa using h)))] := by simp [lsRows]
structure Un where
  name : ByteArray
  params : List Int
  result : Int
  locals : List Int
  code : List (List AV)
def Un.cells (v : Un) : List AV := [.str v.name, .sl .no (intRows v.params), .int .i64 v.result, .sl .no (intRows v.locals), .sl .no v.code]
def Un.rows (l : List Un) : List (List AV) := l.map Un.cells
@[simp] theorem Un.cells_length (v : Un) : v.cells.length = 5 := rfl
@[simp] theorem Un.cells0 (v : Un) : v.cells[0]? = some (.str v.name) := rfl
@[simp] theorem Un.cellsG0 (v : Un) (h : 0 < v.cells.length) : v.cells[0]'h = .str v.name := rfl
@[simp] theorem Un.cells1 (v : Un) : v.cells[1]? = some (.sl .no (intRows v.params)) := rfl
@[simp] theorem Un.cellsG1 (v : Un) (h : 1 < v.cells.length) : v.cells[1]'h = .sl .no (intRows v.params) := rfl
@[simp] theorem Un.cells2 (v : Un) : v.cells[2]? = some (.int .i64 v.result) := rfl
@[simp] theorem Un.cellsG2 (v : Un) (h : 2 < v.cells.length) : v.cells[2]'h = .int .i64 v.result := rfl
@[simp] theorem Un.cells3 (v : Un) : v.cells[3]? = some (.sl .no (intRows v.locals)) := rfl
@[simp] theorem Un.cellsG3 (v : Un) (h : 3 < v.cells.length) : v.cells[3]'h = .sl .no (intRows v.locals) := rfl
@[simp] theorem Un.cells4 (v : Un) : v.cells[4]? = some (.sl .no v.code) := rfl
@[simp] theorem Un.cellsG4 (v : Un) (h : 4 < v.cells.length) : v.cells[4]'h = .sl .no v.code := rfl
@[simp] theorem Un.rows_length (l : List Un) : (Un.rows l).length = l.length := by simp [Un.rows]
@[simp] theorem Un.rows_get (l : List Un) (i : Nat) : (Un.rows l)[i]? = (l[i]?).map Un.cells := by simp [Un.rows]
@[simp] theorem Un.rows_getE (l : List Un) (i : Nat) (h : i < (Un.rows l).length) : (Un.rows l)[i]'h = (l[i]'(by simpa using h)).cells := by simp [Un.rows]
structure Pg where
  consts : List (List AV)
  vars : List Vr
  blocks : List Bk
  units : List Un
def Pg.cells (v : Pg) : List AV := [.sl .no v.consts, .sl .no (Vr.rows v.vars), .sl .no (Bk.rows v.blocks), .sl .no (Un.rows v.units)]
def Pg.rows (l : List Pg) : List (List AV) := l.map Pg.cells
@[simp] theorem Pg.cells_length (v : Pg) : v.cells.length = 4 := rfl
@[simp] theorem Pg.cells0 (v : Pg) : v.cells[0]? = some (.sl .no v.consts) := rfl
@[simp] theorem Pg.cellsG0 (v : Pg) (h : 0 < v.cells.length) : v.cells[0]'h = .sl .no v.consts := rfl
@[simp] theorem Pg.cells1 (v : Pg) : v.cells[1]? = some (.sl .no (Vr.rows v.vars)) := rfl
@[simp] theorem Pg.cellsG1 (v : Pg) (h : 1 < v.cells.length) : v.cells[1]'h = .sl .no (Vr.rows v.vars) := rfl
@[simp] theorem Pg.cells2 (v : Pg) : v.cells[2]? = some (.sl .no (Bk.rows v.blocks)) := rfl
@[simp] theorem Pg.cellsG2 (v : Pg) (h : 2 < v.cells.length) : v.cells[2]'h = .sl .no (Bk.rows v.blocks) := rfl
@[simp] theorem Pg.cells3 (v : Pg) : v.cells[3]? = some (.sl .no (Un.rows v.units)) := rfl
@[simp] theorem Pg.cellsG3 (v : Pg) (h : 3 < v.cells.length) : v.cells[3]'h = .sl .no (Un.rows v.units) := rfl
@[simp] theorem Pg.rows_length (l : List Pg) : (Pg.rows l).length = l.length := by simp [Pg.rows]
@[simp] theorem Pg.rows_get (l : List Pg) (i : Nat) : (Pg.rows l)[i]? = (l[i]?).map Pg.cells := by simp [Pg.rows]
@[simp] theorem Pg.rows_getE (l : List Pg) (i : Nat) (h : i < (Pg.rows l).length) : (Pg.rows l)[i]'h = (l[i]'(by simpa using h)).cells := by simp [Pg.rows]
structure Sta where
  vars : List (List Int)
  blocks : List (List AV)
  now : Int
  fault : Int
def Sta.cells (v : Sta) : List AV := [.sl .no (lsRows v.vars), .sl .no v.blocks, .int .i64 v.now, .int .i64 v.fault]
def Sta.rows (l : List Sta) : List (List AV) := l.map Sta.cells
@[simp] theorem Sta.cells_length (v : Sta) : v.cells.length = 4 := rfl
@[simp] theorem Sta.cells0 (v : Sta) : v.cells[0]? = some (.sl .no (lsRows v.vars)) := rfl
@[simp] theorem Sta.cellsG0 (v : Sta) (h : 0 < v.cells.length) : v.cells[0]'h = .sl .no (lsRows v.vars) := rfl
@[simp] theorem Sta.cells1 (v : Sta) : v.cells[1]? = some (.sl .no v.blocks) := rfl
@[simp] theorem Sta.cellsG1 (v : Sta) (h : 1 < v.cells.length) : v.cells[1]'h = .sl .no v.blocks := rfl
@[simp] theorem Sta.cells2 (v : Sta) : v.cells[2]? = some (.int .i64 v.now) := rfl
@[simp] theorem Sta.cellsG2 (v : Sta) (h : 2 < v.cells.length) : v.cells[2]'h = .int .i64 v.now := rfl
@[simp] theorem Sta.cells3 (v : Sta) : v.cells[3]? = some (.int .i64 v.fault) := rfl
@[simp] theorem Sta.cellsG3 (v : Sta) (h : 3 < v.cells.length) : v.cells[3]'h = .int .i64 v.fault := rfl
@[simp] theorem Sta.rows_length (l : List Sta) : (Sta.rows l).length = l.length := by simp [Sta.rows]
@[simp] theorem Sta.rows_get (l : List Sta) (i : Nat) : (Sta.rows l)[i]? = (l[i]?).map Sta.cells := by simp [Sta.rows]
@[simp] theorem Sta.rows_getE (l : List Sta) (i : Nat) (h : i < (Sta.rows l).length) : (Sta.rows l)[i]'h = (l[i]'(by simpa using h)).cells := by simp [Sta.rows]

/-- What an expression is asked in. -/
structure Cs where
  p : Pg
  u : Int
  s : Sta
  slots : List Int
def Cs.cells (c : Cs) : List AV := [.sl .no c.p.consts, .sl .no (Vr.rows c.p.vars), .sl .no (Bk.rows c.p.blocks), .sl .no (Un.rows c.p.units), .int .i64 c.u, .sl .no (lsRows c.s.vars), .sl .no c.s.blocks, .int .i64 c.s.now, .int .i64 c.s.fault, .sl .no (intRows c.slots)]
@[simp] theorem Cs.cells_length (c : Cs) : c.cells.length = 10 := rfl
@[simp] theorem Cs.cells1 (c : Cs) : c.cells[1]? = some (.sl .no (Vr.rows c.p.vars)) := rfl
@[simp] theorem Cs.cells2 (c : Cs) : c.cells[2]? = some (.sl .no (Bk.rows c.p.blocks)) := rfl
@[simp] theorem Cs.cells4 (c : Cs) : c.cells[4]? = some (.int .i64 c.u) := rfl
@[simp] theorem Cs.cells9 (c : Cs) : c.cells[9]? = some (.sl .no (intRows c.slots)) := rfl
@[simp] theorem Cs.cellsG1 (c : Cs) (h : 1 < c.cells.length) : c.cells[1]'h = .sl .no (Vr.rows c.p.vars) := rfl
@[simp] theorem Cs.cellsG2 (c : Cs) (h : 2 < c.cells.length) : c.cells[2]'h = .sl .no (Bk.rows c.p.blocks) := rfl
@[simp] theorem Cs.cellsG4 (c : Cs) (h : 4 < c.cells.length) : c.cells[4]'h = .int .i64 c.u := rfl
@[simp] theorem Cs.cellsG9 (c : Cs) (h : 9 < c.cells.length) : c.cells[9]'h = .sl .no (intRows c.slots) := rfl
@[simp] theorem Cs.cellsP (c : Cs) : c.cells.take 4 = c.p.cells := rfl
@[simp] theorem Cs.cellsS (c : Cs) : (c.cells.drop 5).take 4 = c.s.cells := rfl
end Go.Proofs.YtjgkfgocgknjjaaDoor
