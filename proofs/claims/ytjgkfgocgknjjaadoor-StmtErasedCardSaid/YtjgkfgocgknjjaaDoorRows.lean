/-
  NARROWER THAN 'FOR EVERY INPUT', by the rows' own cells (each row's printed sentence says how): StmtTells: loops, laid · StmtErased: loops, laid.
  DERIVED. THE GIVEN ROWS OF THIS SEAT. 2 by the template 'for every input the law returns true; each argument reads behind the call as it read before'; 0 by the template 'total and deterministic' (their statements: YtjgkfgocgknjjaaDoorTotals.lean).
  GIVEN WITH THE SEED: the statements are not yours to turn. If you find one false, say at which input.
  Laid BY PROGRAM, IN A SANDBOX (cutbox-rows.mjs): the forced cells as the released guide's own fill.sh prints them over the translation e06a18c8b2468566… (all of the seat's roots in one cut). By AI agents, Wed Nov 11 2026. No macro, syntax, notation, axiom, sorry.
-/
import Derived.Test.YtjgkfgocgknjjaaDoorChecked
import GoSem.Claim
import GoSem.ClaimJoined
import GoSem.ClaimMapViews
import Derived.JoinedTies
import Derived.KernelRfl
namespace Go.Proofs.YtjgkfgocgknjjaaDoor
/- THE CELL 'sum', in the pinned program and in every row, IS THE sha256 OF THE DUMP (.gsa) THAT YtjgkfgocgknjjaaDoorProg.lean LOADS. Nothing in Lean hashes anything: it is a label: what it is worth is what the hold of that sum in a sandbox is worth. -/
noncomputable def Tryd.pinned : Pinned := { name := "ytjgkfgocgknjjaadoor", sum := "e06a18c8b246856639201e83a7ab0510fe09d4b83695af13dada57171ac06a74", checked := Tryd.checked }
namespace Rows
def none {H : Type} : Left H := { results := [], args := [] }

/- WHAT THE LISTED PACKAGE-LEVEL VARIABLES READ AS WHEN THE CALL BEGINS. Each datum BY PROGRAM (the guide's laid-datum.mjs) off the statement by which the dump's own 'gosem.cut.vars' lays the variable. In a bare row this is a premise. The card (YtjgkfgocgknjjaaDoorCards.lean) ties it to the program's text. -/
def laid_ladderback_alu_goes {H : Type} : DataW H := .agg [.lit (.int .i64 76), .lit (.int .i64 76), .lit (.int .i64 12), .lit (.int .i64 12), .lit (.int .i64 12), .lit (.int .i64 76), .lit (.int .i64 50), .lit (.int .i64 50), .lit (.int .i64 50), .lit (.int .i64 50), .lit (.int .i64 48), .lit (.int .i64 48), .lit (.int .i64 126), .lit (.int .i64 126), .lit (.int .i64 124), .lit (.int .i64 124), .lit (.int .i64 124), .lit (.int .i64 124)]
def laid_ladderback_block_rows {H : Type} : DataW H := .agg [.agg [.lit (.string []), .lit (.int .i64 0), .agg [.agg [.lit (.string []), .lit (.int .i64 0)], .agg [.lit (.string []), .lit (.int .i64 0)], .agg [.lit (.string []), .lit (.int .i64 0)], .agg [.lit (.string []), .lit (.int .i64 0)], .agg [.lit (.string []), .lit (.int .i64 0)], .agg [.lit (.string []), .lit (.int .i64 0)], .agg [.lit (.string []), .lit (.int .i64 0)], .agg [.lit (.string []), .lit (.int .i64 0)]]], .agg [.lit (.string [84, 79, 78]), .lit (.int .i64 2), .agg [.agg [.lit (.string [73, 78]), .lit (.int .i64 1)], .agg [.lit (.string [80, 84]), .lit (.int .i64 6)], .agg [.lit (.string [81]), .lit (.int .i64 1)], .agg [.lit (.string [69, 84]), .lit (.int .i64 6)], .agg [.lit (.string []), .lit (.int .i64 0)], .agg [.lit (.string []), .lit (.int .i64 0)], .agg [.lit (.string []), .lit (.int .i64 0)], .agg [.lit (.string []), .lit (.int .i64 0)]]], .agg [.lit (.string [84, 79, 70]), .lit (.int .i64 2), .agg [.agg [.lit (.string [73, 78]), .lit (.int .i64 1)], .agg [.lit (.string [80, 84]), .lit (.int .i64 6)], .agg [.lit (.string [81]), .lit (.int .i64 1)], .agg [.lit (.string [69, 84]), .lit (.int .i64 6)], .agg [.lit (.string []), .lit (.int .i64 0)], .agg [.lit (.string []), .lit (.int .i64 0)], .agg [.lit (.string []), .lit (.int .i64 0)], .agg [.lit (.string []), .lit (.int .i64 0)]]], .agg [.lit (.string [84, 80]), .lit (.int .i64 2), .agg [.agg [.lit (.string [73, 78]), .lit (.int .i64 1)], .agg [.lit (.string [80, 84]), .lit (.int .i64 6)], .agg [.lit (.string [81]), .lit (.int .i64 1)], .agg [.lit (.string [69, 84]), .lit (.int .i64 6)], .agg [.lit (.string []), .lit (.int .i64 0)], .agg [.lit (.string []), .lit (.int .i64 0)], .agg [.lit (.string []), .lit (.int .i64 0)], .agg [.lit (.string []), .lit (.int .i64 0)]]], .agg [.lit (.string [67, 84, 85]), .lit (.int .i64 3), .agg [.agg [.lit (.string [67, 85]), .lit (.int .i64 1)], .agg [.lit (.string [82]), .lit (.int .i64 1)], .agg [.lit (.string [80, 86]), .lit (.int .i64 2)], .agg [.lit (.string [81]), .lit (.int .i64 1)], .agg [.lit (.string [67, 86]), .lit (.int .i64 2)], .agg [.lit (.string []), .lit (.int .i64 0)], .agg [.lit (.string []), .lit (.int .i64 0)], .agg [.lit (.string []), .lit (.int .i64 0)]]], .agg [.lit (.string [67, 84, 68]), .lit (.int .i64 3), .agg [.agg [.lit (.string [67, 68]), .lit (.int .i64 1)], .agg [.lit (.string [76, 68]), .lit (.int .i64 1)], .agg [.lit (.string [80, 86]), .lit (.int .i64 2)], .agg [.lit (.string [81]), .lit (.int .i64 1)], .agg [.lit (.string [67, 86]), .lit (.int .i64 2)], .agg [.lit (.string []), .lit (.int .i64 0)], .agg [.lit (.string []), .lit (.int .i64 0)], .agg [.lit (.string []), .lit (.int .i64 0)]]], .agg [.lit (.string [67, 84, 85, 68]), .lit (.int .i64 5), .agg [.agg [.lit (.string [67, 85]), .lit (.int .i64 1)], .agg [.lit (.string [67, 68]), .lit (.int .i64 1)], .agg [.lit (.string [82]), .lit (.int .i64 1)], .agg [.lit (.string [76, 68]), .lit (.int .i64 1)], .agg [.lit (.string [80, 86]), .lit (.int .i64 2)], .agg [.lit (.string [81, 85]), .lit (.int .i64 1)], .agg [.lit (.string [81, 68]), .lit (.int .i64 1)], .agg [.lit (.string [67, 86]), .lit (.int .i64 2)]]], .agg [.lit (.string [82, 95, 84, 82, 73, 71]), .lit (.int .i64 1), .agg [.agg [.lit (.string [67, 76, 75]), .lit (.int .i64 1)], .agg [.lit (.string [81]), .lit (.int .i64 1)], .agg [.lit (.string []), .lit (.int .i64 0)], .agg [.lit (.string []), .lit (.int .i64 0)], .agg [.lit (.string []), .lit (.int .i64 0)], .agg [.lit (.string []), .lit (.int .i64 0)], .agg [.lit (.string []), .lit (.int .i64 0)], .agg [.lit (.string []), .lit (.int .i64 0)]]], .agg [.lit (.string [70, 95, 84, 82, 73, 71]), .lit (.int .i64 1), .agg [.agg [.lit (.string [67, 76, 75]), .lit (.int .i64 1)], .agg [.lit (.string [81]), .lit (.int .i64 1)], .agg [.lit (.string []), .lit (.int .i64 0)], .agg [.lit (.string []), .lit (.int .i64 0)], .agg [.lit (.string []), .lit (.int .i64 0)], .agg [.lit (.string []), .lit (.int .i64 0)], .agg [.lit (.string []), .lit (.int .i64 0)], .agg [.lit (.string []), .lit (.int .i64 0)]]]]

/-- 'ladderbacklaw28.StmtTells': WHATEVER THE INPUT: true; the input reads as it did. -/
def stmtTellsSpec : ChangeSpec := { name := "stmtTells", fn := fun _ => fun
  | [d1, d2] => { results := [.lit (.bool true)], args := [d1, d2] }
  | _ => none }
def stmtTellsRow : OpenClaim := { program := "ytjgkfgocgknjjaadoor", sum := "e06a18c8b246856639201e83a7ab0510fe09d4b83695af13dada57171ac06a74", func := "ladderback/ladderbacklaw28.StmtTells", spec := "stmtTells", unfollowed := true, recurses := true, named := ["ladderback/block.rows", "ladderback/alu.goes"], loops := true, apart := false, laid := [("ladderback/alu.goes", laid_ladderback_alu_goes), ("ladderback/block.rows", laid_ladderback_block_rows)] }
def StmtTellsSaid : Prop := stmtTellsRow.holds Tryd.pinned (OpenSpec.ofChange stmtTellsSpec)

/-- ITS FALSE NEIGHBOUR: 'it returns false'. Refute it at one input. -/
def stmtTellsWrong : ChangeSpec := { name := "stmtTells", fn := fun _ => fun
  | [d1, d2] => { results := [.lit (.bool false)], args := [d1, d2] }
  | _ => none }
def StmtTellsWrongFalsely : Prop := stmtTellsRow.holds Tryd.pinned (OpenSpec.ofChange stmtTellsWrong)

/-- 'ladderbacklaw28.StmtErased': WHATEVER THE INPUT: true; the input reads as it did. -/
def stmtErasedSpec : ChangeSpec := { name := "stmtErased", fn := fun _ => fun
  | [d1, d2, d3] => { results := [.lit (.bool true)], args := [d1, d2, d3] }
  | _ => none }
def stmtErasedRow : OpenClaim := { program := "ytjgkfgocgknjjaadoor", sum := "e06a18c8b246856639201e83a7ab0510fe09d4b83695af13dada57171ac06a74", func := "ladderback/ladderbacklaw28.StmtErased", spec := "stmtErased", unfollowed := true, recurses := true, named := ["ladderback/block.rows", "ladderback/alu.goes"], loops := true, apart := false, laid := [("ladderback/alu.goes", laid_ladderback_alu_goes), ("ladderback/block.rows", laid_ladderback_block_rows)] }
def StmtErasedSaid : Prop := stmtErasedRow.holds Tryd.pinned (OpenSpec.ofChange stmtErasedSpec)

/-- ITS FALSE NEIGHBOUR: 'it returns false'. Refute it at one input. -/
def stmtErasedWrong : ChangeSpec := { name := "stmtErased", fn := fun _ => fun
  | [d1, d2, d3] => { results := [.lit (.bool false)], args := [d1, d2, d3] }
  | _ => none }
def StmtErasedWrongFalsely : Prop := stmtErasedRow.holds Tryd.pinned (OpenSpec.ofChange stmtErasedWrong)

/- THE SECOND FORM. 'bulk': how many values and letters a reading holds, each counted each time it is reached (what is shared counts as often as it is met; a slice's spare places count too). A statement '..UptoSaid' is the law's where the arguments, and the package variables that the reading takes, are together of bulk at most 1048576: NARROWER than '..Said'. Prove '..Said' where nothing that the law and all that it calls make is longer than what came in: it says more and counts as full. Else prove '..UptoSaid'. A law counts once. -/
mutual
def uptoBulk {H : Type} : DataW H → Nat
  | .lit (.string bytes) => bytes.length + 1
  | .lit _ => 1
  | .nil => 1
  | .ptr d => uptoBulk d + 1
  | .slice elems spare => uptoBulkAll elems + uptoBulkAll spare + 1
  | .agg parts => uptoBulkAll parts + 1
  | .iface _ d => uptoBulk d + 1
  | .map entries => uptoBulkEntries entries + 1
  | .held _ => 1
def uptoBulkAll {H : Type} : List (DataW H) → Nat
  | [] => 0
  | d :: r => uptoBulk d + uptoBulkAll r
def uptoBulkEntries {H : Type} : List (Lit × DataW H) → Nat
  | [] => 0
  | x :: r => uptoBulkEntry x + uptoBulkEntries r
def uptoBulkEntry {H : Type} : Lit × DataW H → Nat
  | (.string bytes, d) => bytes.length + uptoBulk d + 1
  | (_, d) => uptoBulk d + 1
 end
def uptoSmall : (H : Type) → List (DataW H) → Bool := fun _ ds => decide (uptoBulkAll ds ≤ 1048576)
def OpenSpec.upto (s : _root_.Go.ChangeSpec) : _root_.Go.OpenSpec := { _root_.Go.OpenSpec.ofChange s with cond := some uptoSmall }

/-- 'ladderbacklaw28.StmtTells', WHERE WHAT IT READS IS OF BULK AT MOST 1048576: true; the input reads as it did. -/
def stmtTellsUptoRow : OpenClaim := { program := "ytjgkfgocgknjjaadoor", sum := "e06a18c8b246856639201e83a7ab0510fe09d4b83695af13dada57171ac06a74", func := "ladderback/ladderbacklaw28.StmtTells", spec := "stmtTells", unfollowed := true, recurses := true, named := ["ladderback/block.rows", "ladderback/alu.goes"], loops := true, apart := false, laid := [("ladderback/alu.goes", laid_ladderback_alu_goes), ("ladderback/block.rows", laid_ladderback_block_rows)], narrowed := true }
def StmtTellsUptoSaid : Prop := stmtTellsUptoRow.holds Tryd.pinned (OpenSpec.upto stmtTellsSpec)

/-- 'ladderbacklaw28.StmtErased', WHERE WHAT IT READS IS OF BULK AT MOST 1048576: true; the input reads as it did. -/
def stmtErasedUptoRow : OpenClaim := { program := "ytjgkfgocgknjjaadoor", sum := "e06a18c8b246856639201e83a7ab0510fe09d4b83695af13dada57171ac06a74", func := "ladderback/ladderbacklaw28.StmtErased", spec := "stmtErased", unfollowed := true, recurses := true, named := ["ladderback/block.rows", "ladderback/alu.goes"], loops := true, apart := false, laid := [("ladderback/alu.goes", laid_ladderback_alu_goes), ("ladderback/block.rows", laid_ladderback_block_rows)], narrowed := true }
def StmtErasedUptoSaid : Prop := stmtErasedUptoRow.holds Tryd.pinned (OpenSpec.upto stmtErasedSpec)

end Rows
end Go.Proofs.YtjgkfgocgknjjaaDoor
