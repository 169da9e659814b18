/-
  DERIVED. GIVEN WITH THE SEED: THE CARDS: each row of YtlkklaahnkcnkaaDoorRows.lean that lists a variable, with what it lists TIED to the program's text (the seventh form; the later family's looks); each row that meets fmt, with fmt's text TOLD by the authors' own Lean function (tested against real Go, not proved from fmt's source: count such statements apart). THE CARD IS WHAT COUNTS. Prove the row's statement (the work); the ties are given (YtlkklaahnkcnkaaDoorTie.lean); close each card by the builder's one call (the guide's Derived/Test/ToyasCard.lean, 'card_holds'). Laid BY PROGRAM, IN A SANDBOX (cutbox-door.mjs). By AI agents, Wed Nov 11 2026. No macro, syntax, notation, axiom, sorry.
-/
import Derived.Test.YtlkklaahnkcnkaaDoorRows
import GoSem.ClaimSeven
namespace Go.Proofs.YtlkklaahnkcnkaaDoor
namespace Rows

/-- THE TIED CARD OF 'pblaw1.LettersCarried'. -/
def lettersCarriedCard : Claim7 := { stood := { row := lettersCarriedRow, standIns := [], harness := (true, "351bf0553f25c7f143b36a8d59efa597aedcf676f29334927b45a3c6036008ef"), looks := false }, kinds := [], alts := [], laidByText := true, laidKinds := [.data, .pinned], laidTests := true, laidLooks := .later }
def LettersCarriedCardSaid : Prop := Claim7.holds Tryd.pinned (.plain (OpenSpec.ofChange lettersCarriedSpec)) lettersCarriedCard

/-- THE TIED CARD OF 'pblaw1.WindowsChosen'. -/
def windowsChosenCard : Claim7 := { stood := { row := windowsChosenRow, standIns := [], harness := (true, "351bf0553f25c7f143b36a8d59efa597aedcf676f29334927b45a3c6036008ef"), looks := false }, kinds := [], alts := [], laidByText := true, laidKinds := [.data, .pinned], laidTests := true, laidLooks := .later }
def WindowsChosenCardSaid : Prop := Claim7.holds Tryd.pinned (.plain (OpenSpec.ofChange windowsChosenSpec)) windowsChosenCard

/-- THE TIED CARD OF 'pblaw1.ExprsBounded'. -/
def exprsBoundedCard : Claim7 := { stood := { row := exprsBoundedRow, standIns := [], harness := (true, "351bf0553f25c7f143b36a8d59efa597aedcf676f29334927b45a3c6036008ef"), looks := false }, kinds := [], alts := [], laidByText := true, laidKinds := [.data, .pinned], laidTests := true, laidLooks := .later }
def ExprsBoundedCardSaid : Prop := Claim7.holds Tryd.pinned (.plain (OpenSpec.ofChange exprsBoundedSpec)) exprsBoundedCard

/-- THE SECOND FORM's CARD OF 'pblaw1.LettersCarried'. -/
def lettersCarriedUptoCard : Claim7 := { stood := { row := lettersCarriedUptoRow, standIns := [], harness := (true, "351bf0553f25c7f143b36a8d59efa597aedcf676f29334927b45a3c6036008ef"), looks := false }, kinds := [], alts := [], laidByText := true, laidKinds := [.data, .pinned], laidTests := true, laidLooks := .later }
def LettersCarriedUptoCardSaid : Prop := Claim7.holds Tryd.pinned (.plain (OpenSpec.upto lettersCarriedSpec)) lettersCarriedUptoCard

/-- THE SECOND FORM's CARD OF 'pblaw1.WindowsChosen'. -/
def windowsChosenUptoCard : Claim7 := { stood := { row := windowsChosenUptoRow, standIns := [], harness := (true, "351bf0553f25c7f143b36a8d59efa597aedcf676f29334927b45a3c6036008ef"), looks := false }, kinds := [], alts := [], laidByText := true, laidKinds := [.data, .pinned], laidTests := true, laidLooks := .later }
def WindowsChosenUptoCardSaid : Prop := Claim7.holds Tryd.pinned (.plain (OpenSpec.upto windowsChosenSpec)) windowsChosenUptoCard

/-- THE SECOND FORM's CARD OF 'pblaw1.ExprsBounded'. -/
def exprsBoundedUptoCard : Claim7 := { stood := { row := exprsBoundedUptoRow, standIns := [], harness := (true, "351bf0553f25c7f143b36a8d59efa597aedcf676f29334927b45a3c6036008ef"), looks := false }, kinds := [], alts := [], laidByText := true, laidKinds := [.data, .pinned], laidTests := true, laidLooks := .later }
def ExprsBoundedUptoCardSaid : Prop := Claim7.holds Tryd.pinned (.plain (OpenSpec.upto exprsBoundedSpec)) exprsBoundedUptoCard
end Rows
end Go.Proofs.YtlkklaahnkcnkaaDoor
