/-
  DERIVED. GIVEN WITH THE SEED: THE CARDS: each row of YtkpfkadjmijmlaaGreatDoorRows.lean that lists a variable, with what it lists TIED to the program's text (the seventh form; the later family's looks); each row that meets fmt, with fmt's text TOLD by the authors' own Lean function (tested against real Go, not proved from fmt's source: count such statements apart). THE CARD IS WHAT COUNTS. Prove the row's statement (the work); the ties are given (YtkpfkadjmijmlaaGreatDoorTie.lean); close each card by the builder's one call (the guide's Derived/Test/ToyasCard.lean, 'card_holds'). Laid BY PROGRAM, IN A SANDBOX (cutbox-door.mjs). By AI agents, Wed Nov 11 2026. No macro, syntax, notation, axiom, sorry.
-/
import Derived.Test.YtkpfkadjmijmlaaGreatDoorRows
import GoSem.ClaimSeven
namespace Go.Proofs.YtkpfkadjmijmlaaGreatDoor
namespace Rows

/-- THE TIED CARD OF 'pblaw1.CodesDone'. -/
def codesDoneCard : Claim7 := { stood := { row := codesDoneRow, standIns := [], harness := (true, "8455fa8af2688417c766570db7467747afc5d8af58bb290c1702cc023a3c4e48"), looks := true }, kinds := [], alts := [], laidByText := true, laidKinds := [.data, .pinned], laidTests := true, laidLooks := .later }
def CodesDoneCardSaid : Prop := Claim7.holds Tryz.pinned (.plain (OpenSpec.ofChange codesDoneSpec)) codesDoneCard

/-- THE TIED CARD OF 'pblaw1.ExprsWritten'. -/
def exprsWrittenCard : Claim7 := { stood := { row := exprsWrittenRow, standIns := [], harness := (true, "8455fa8af2688417c766570db7467747afc5d8af58bb290c1702cc023a3c4e48"), looks := true }, kinds := [], alts := [], laidByText := true, laidKinds := [.data, .data, .data, .data, .sentinel, .sentinel, .pinned], laidTests := true, laidLooks := .later }
def ExprsWrittenCardSaid : Prop := Claim7.holds Tryz.pinned (.plain (OpenSpec.ofChange exprsWrittenSpec)) exprsWrittenCard

/-- THE SECOND FORM's CARD OF 'pblaw1.CodesDone'. -/
def codesDoneUptoCard : Claim7 := { stood := { row := codesDoneUptoRow, standIns := [], harness := (true, "8455fa8af2688417c766570db7467747afc5d8af58bb290c1702cc023a3c4e48"), looks := true }, kinds := [], alts := [], laidByText := true, laidKinds := [.data, .pinned], laidTests := true, laidLooks := .later }
def CodesDoneUptoCardSaid : Prop := Claim7.holds Tryz.pinned (.plain (OpenSpec.upto codesDoneSpec)) codesDoneUptoCard

/-- THE SECOND FORM's CARD OF 'pblaw1.ExprsWritten'. -/
def exprsWrittenUptoCard : Claim7 := { stood := { row := exprsWrittenUptoRow, standIns := [], harness := (true, "8455fa8af2688417c766570db7467747afc5d8af58bb290c1702cc023a3c4e48"), looks := true }, kinds := [], alts := [], laidByText := true, laidKinds := [.data, .data, .data, .data, .sentinel, .sentinel, .pinned], laidTests := true, laidLooks := .later }
def ExprsWrittenUptoCardSaid : Prop := Claim7.holds Tryz.pinned (.plain (OpenSpec.upto exprsWrittenSpec)) exprsWrittenUptoCard
end Rows
end Go.Proofs.YtkpfkadjmijmlaaGreatDoor
