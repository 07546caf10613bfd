/-
  DERIVED. GIVEN WITH THE SEED: THE CARDS: each row of YtjgkfgocgknjjaaDoorRows.lean that lists a variable, with what it lists TIED to the program's text (the seventh form; the later family's looks); each row that meets fmt, with fmt's text TOLD by the authors' own Lean function (tested against real Go, not proved from fmt's source: count such statements apart). THE CARD IS WHAT COUNTS. Prove the row's statement (the work); the ties are given (YtjgkfgocgknjjaaDoorTie.lean); close each card by the builder's one call (the guide's Derived/Test/ToyasCard.lean, 'card_holds'). Laid BY PROGRAM, IN A SANDBOX (cutbox-door.mjs). By AI agents, Wed Nov 11 2026. No macro, syntax, notation, axiom, sorry.
-/
import Derived.Test.YtjgkfgocgknjjaaDoorRows
import GoSem.ClaimSeven
namespace Go.Proofs.YtjgkfgocgknjjaaDoor
namespace Rows

/-- THE TIED CARD OF 'ladderbacklaw28.StmtTells'. -/
def stmtTellsCard : Claim7 := { stood := { row := stmtTellsRow, standIns := [], harness := (true, "c67860316b06dacb140093def9dcb8f132fa6631bc489d4ea9b9822bbd9fedcb"), looks := false }, kinds := [], alts := [], laidByText := true, laidKinds := [.data, .data], laidTests := true, laidLooks := .later }
def StmtTellsCardSaid : Prop := Claim7.holds Tryd.pinned (.plain (OpenSpec.ofChange stmtTellsSpec)) stmtTellsCard

/-- THE TIED CARD OF 'ladderbacklaw28.StmtErased'. -/
def stmtErasedCard : Claim7 := { stood := { row := stmtErasedRow, standIns := [], harness := (true, "c67860316b06dacb140093def9dcb8f132fa6631bc489d4ea9b9822bbd9fedcb"), looks := false }, kinds := [], alts := [], laidByText := true, laidKinds := [.data, .data], laidTests := true, laidLooks := .later }
def StmtErasedCardSaid : Prop := Claim7.holds Tryd.pinned (.plain (OpenSpec.ofChange stmtErasedSpec)) stmtErasedCard

/-- THE SECOND FORM's CARD OF 'ladderbacklaw28.StmtTells'. -/
def stmtTellsUptoCard : Claim7 := { stood := { row := stmtTellsUptoRow, standIns := [], harness := (true, "c67860316b06dacb140093def9dcb8f132fa6631bc489d4ea9b9822bbd9fedcb"), looks := false }, kinds := [], alts := [], laidByText := true, laidKinds := [.data, .data], laidTests := true, laidLooks := .later }
def StmtTellsUptoCardSaid : Prop := Claim7.holds Tryd.pinned (.plain (OpenSpec.upto stmtTellsSpec)) stmtTellsUptoCard

/-- THE SECOND FORM's CARD OF 'ladderbacklaw28.StmtErased'. -/
def stmtErasedUptoCard : Claim7 := { stood := { row := stmtErasedUptoRow, standIns := [], harness := (true, "c67860316b06dacb140093def9dcb8f132fa6631bc489d4ea9b9822bbd9fedcb"), looks := false }, kinds := [], alts := [], laidByText := true, laidKinds := [.data, .data], laidTests := true, laidLooks := .later }
def StmtErasedUptoCardSaid : Prop := Claim7.holds Tryd.pinned (.plain (OpenSpec.upto stmtErasedSpec)) stmtErasedUptoCard
end Rows
end Go.Proofs.YtjgkfgocgknjjaaDoor
