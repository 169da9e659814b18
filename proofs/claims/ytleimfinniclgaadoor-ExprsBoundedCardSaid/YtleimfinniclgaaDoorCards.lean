/-
  DERIVED. GIVEN WITH THE SEED: THE CARDS: each row of YtleimfinniclgaaDoorRows.lean that lists a variable, with what it lists TIED to the program's text (the seventh form; the later family's looks); each row that meets fmt, with fmt's text TOLD by the authors' own Lean function (tested against real Go, not proved from fmt's source: count such statements apart). THE CARD IS WHAT COUNTS. Prove the row's statement (the work); the ties are given (YtleimfinniclgaaDoorTie.lean); close each card by the builder's one call (the guide's Derived/Test/ToyasCard.lean, 'card_holds'). Laid BY PROGRAM, IN A SANDBOX (cutbox-door.mjs). By AI agents, Wed Nov 11 2026. No macro, syntax, notation, axiom, sorry.
-/
import Derived.Test.YtleimfinniclgaaDoorRows
import GoSem.ClaimSeven
namespace Go.Proofs.YtleimfinniclgaaDoor
namespace Rows

/-- THE TIED CARD OF 'pblaw1.ExprsBounded'. -/
def exprsBoundedCard : Claim7 := { stood := { row := exprsBoundedRow, standIns := [], harness := (true, "e18ecdcd7103d2a2f2b24e92943522daf4dbfbbe9a36aa3c108cec0e6eb1a3ae"), looks := false }, kinds := [], alts := [], laidByText := true, laidKinds := [.data, .pinned], laidTests := true, laidLooks := .later }
def ExprsBoundedCardSaid : Prop := Claim7.holds Tryd.pinned (.plain (OpenSpec.ofChange exprsBoundedSpec)) exprsBoundedCard

/-- THE SECOND FORM's CARD OF 'pblaw1.ExprsBounded'. -/
def exprsBoundedUptoCard : Claim7 := { stood := { row := exprsBoundedUptoRow, standIns := [], harness := (true, "e18ecdcd7103d2a2f2b24e92943522daf4dbfbbe9a36aa3c108cec0e6eb1a3ae"), looks := false }, kinds := [], alts := [], laidByText := true, laidKinds := [.data, .pinned], laidTests := true, laidLooks := .later }
def ExprsBoundedUptoCardSaid : Prop := Claim7.holds Tryd.pinned (.plain (OpenSpec.upto exprsBoundedSpec)) exprsBoundedUptoCard
end Rows
end Go.Proofs.YtleimfinniclgaaDoor
