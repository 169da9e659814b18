/-
  DERIVED. GIVEN WITH THE SEED: THE CARDS: each row of YtleimfinniclgaaGreatDoorRows.lean that lists a variable, with what it lists TIED to the program's text (the seventh form; the later family's looks); each row that meets fmt, with fmt's text TOLD by the authors' own Lean function (tested against real Go, not proved from fmt's source: count such statements apart). THE CARD IS WHAT COUNTS. Prove the row's statement (the work); the ties are given (YtleimfinniclgaaGreatDoorTie.lean); close each card by the builder's one call (the guide's Derived/Test/ToyasCard.lean, 'card_holds'). Laid BY PROGRAM, IN A SANDBOX (cutbox-door.mjs). By AI agents, Wed Nov 11 2026. No macro, syntax, notation, axiom, sorry.
-/
import Derived.Test.YtleimfinniclgaaGreatDoorRows
import GoSem.ClaimSeven
namespace Go.Proofs.YtleimfinniclgaaGreatDoor
namespace Rows

/-- THE TIED CARD OF 'pblaw1.ExprsValued'. -/
def exprsValuedCard : Claim7 := { stood := { row := exprsValuedRow, standIns := [], harness := (true, "9ed60298431beaae4679a61091e12c9ef1df59edfd9e3527f582f7d8eed293c3"), looks := true }, kinds := [], alts := [], laidByText := true, laidKinds := [.data, .pinned], laidTests := true, laidLooks := .later }
def ExprsValuedCardSaid : Prop := Claim7.holds Tryz.pinned (.plain (OpenSpec.ofChange exprsValuedSpec)) exprsValuedCard

/-- THE TIED CARD OF 'pblaw1.CodesDone'. -/
def codesDoneCard : Claim7 := { stood := { row := codesDoneRow, standIns := [], harness := (true, "9ed60298431beaae4679a61091e12c9ef1df59edfd9e3527f582f7d8eed293c3"), looks := true }, kinds := [], alts := [], laidByText := true, laidKinds := [.data, .pinned], laidTests := true, laidLooks := .later }
def CodesDoneCardSaid : Prop := Claim7.holds Tryz.pinned (.plain (OpenSpec.ofChange codesDoneSpec)) codesDoneCard

/-- THE TIED CARD OF 'pblaw1.ExprsSimple'. -/
def exprsSimpleCard : Claim7 := { stood := { row := exprsSimpleRow, standIns := [], harness := (true, "9ed60298431beaae4679a61091e12c9ef1df59edfd9e3527f582f7d8eed293c3"), looks := true }, kinds := [], alts := [], laidByText := true, laidKinds := [.data, .pinned], laidTests := true, laidLooks := .later }
def ExprsSimpleCardSaid : Prop := Claim7.holds Tryz.pinned (.plain (OpenSpec.ofChange exprsSimpleSpec)) exprsSimpleCard

/-- THE TIED CARD OF 'pblaw1.ExprsWritten'. -/
def exprsWrittenCard : Claim7 := { stood := { row := exprsWrittenRow, standIns := [], harness := (true, "9ed60298431beaae4679a61091e12c9ef1df59edfd9e3527f582f7d8eed293c3"), looks := true }, kinds := [], alts := [], laidByText := true, laidKinds := [.data, .data, .data, .data, .sentinel, .sentinel, .pinned], laidTests := true, laidLooks := .later }
def ExprsWrittenCardSaid : Prop := Claim7.holds Tryz.pinned (.plain (OpenSpec.ofChange exprsWrittenSpec)) exprsWrittenCard

/-- THE TIED CARD OF 'pblaw1.PlaysCounted'. -/
def playsCountedCard : Claim7 := { stood := { row := playsCountedRow, standIns := [], harness := (true, "9ed60298431beaae4679a61091e12c9ef1df59edfd9e3527f582f7d8eed293c3"), looks := true }, kinds := [], alts := [], laidByText := true, laidKinds := [.data, .data, .data, .data, .pinned], laidTests := true, laidLooks := .later }
def PlaysCountedCardSaid : Prop := Claim7.holds Tryz.pinned (.plain (OpenSpec.ofChange playsCountedSpec)) playsCountedCard

/-- THE TIED CARD OF 'pblaw1.PlaysWritten'. -/
def playsWrittenCard : Claim7 := { stood := { row := playsWrittenRow, standIns := [], harness := (true, "9ed60298431beaae4679a61091e12c9ef1df59edfd9e3527f582f7d8eed293c3"), looks := true }, kinds := [], alts := [], laidByText := true, laidKinds := [.data, .data, .data, .data, .sentinel, .sentinel, .pinned], laidTests := true, laidLooks := .later }
def PlaysWrittenCardSaid : Prop := Claim7.holds Tryz.pinned (.plain (OpenSpec.ofChange playsWrittenSpec)) playsWrittenCard

/-- THE SECOND FORM's CARD OF 'pblaw1.ExprsValued'. -/
def exprsValuedUptoCard : Claim7 := { stood := { row := exprsValuedUptoRow, standIns := [], harness := (true, "9ed60298431beaae4679a61091e12c9ef1df59edfd9e3527f582f7d8eed293c3"), looks := true }, kinds := [], alts := [], laidByText := true, laidKinds := [.data, .pinned], laidTests := true, laidLooks := .later }
def ExprsValuedUptoCardSaid : Prop := Claim7.holds Tryz.pinned (.plain (OpenSpec.upto exprsValuedSpec)) exprsValuedUptoCard

/-- THE SECOND FORM's CARD OF 'pblaw1.CodesDone'. -/
def codesDoneUptoCard : Claim7 := { stood := { row := codesDoneUptoRow, standIns := [], harness := (true, "9ed60298431beaae4679a61091e12c9ef1df59edfd9e3527f582f7d8eed293c3"), looks := true }, kinds := [], alts := [], laidByText := true, laidKinds := [.data, .pinned], laidTests := true, laidLooks := .later }
def CodesDoneUptoCardSaid : Prop := Claim7.holds Tryz.pinned (.plain (OpenSpec.upto codesDoneSpec)) codesDoneUptoCard

/-- THE SECOND FORM's CARD OF 'pblaw1.ExprsSimple'. -/
def exprsSimpleUptoCard : Claim7 := { stood := { row := exprsSimpleUptoRow, standIns := [], harness := (true, "9ed60298431beaae4679a61091e12c9ef1df59edfd9e3527f582f7d8eed293c3"), looks := true }, kinds := [], alts := [], laidByText := true, laidKinds := [.data, .pinned], laidTests := true, laidLooks := .later }
def ExprsSimpleUptoCardSaid : Prop := Claim7.holds Tryz.pinned (.plain (OpenSpec.upto exprsSimpleSpec)) exprsSimpleUptoCard

/-- THE SECOND FORM's CARD OF 'pblaw1.ExprsWritten'. -/
def exprsWrittenUptoCard : Claim7 := { stood := { row := exprsWrittenUptoRow, standIns := [], harness := (true, "9ed60298431beaae4679a61091e12c9ef1df59edfd9e3527f582f7d8eed293c3"), looks := true }, kinds := [], alts := [], laidByText := true, laidKinds := [.data, .data, .data, .data, .sentinel, .sentinel, .pinned], laidTests := true, laidLooks := .later }
def ExprsWrittenUptoCardSaid : Prop := Claim7.holds Tryz.pinned (.plain (OpenSpec.upto exprsWrittenSpec)) exprsWrittenUptoCard

/-- THE SECOND FORM's CARD OF 'pblaw1.PlaysCounted'. -/
def playsCountedUptoCard : Claim7 := { stood := { row := playsCountedUptoRow, standIns := [], harness := (true, "9ed60298431beaae4679a61091e12c9ef1df59edfd9e3527f582f7d8eed293c3"), looks := true }, kinds := [], alts := [], laidByText := true, laidKinds := [.data, .data, .data, .data, .pinned], laidTests := true, laidLooks := .later }
def PlaysCountedUptoCardSaid : Prop := Claim7.holds Tryz.pinned (.plain (OpenSpec.upto playsCountedSpec)) playsCountedUptoCard

/-- THE SECOND FORM's CARD OF 'pblaw1.PlaysWritten'. -/
def playsWrittenUptoCard : Claim7 := { stood := { row := playsWrittenUptoRow, standIns := [], harness := (true, "9ed60298431beaae4679a61091e12c9ef1df59edfd9e3527f582f7d8eed293c3"), looks := true }, kinds := [], alts := [], laidByText := true, laidKinds := [.data, .data, .data, .data, .sentinel, .sentinel, .pinned], laidTests := true, laidLooks := .later }
def PlaysWrittenUptoCardSaid : Prop := Claim7.holds Tryz.pinned (.plain (OpenSpec.upto playsWrittenSpec)) playsWrittenUptoCard
end Rows
end Go.Proofs.YtleimfinniclgaaGreatDoor
