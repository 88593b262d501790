/-
  DERIVED. GIVEN WITH THE SEED: THE CARDS: each row of YtohmflkolmobmaaGreatDoorRows.lean that lists a variable, with what it lists TIED to the program's text (the seventh form; the later family's looks); each row that meets fmt, with fmt's text TOLD by the authors' own Lean function (tested against real Go, not proved from fmt's source: count such statements apart). THE CARD IS WHAT COUNTS. Prove the row's statement (the work); the ties are given (YtohmflkolmobmaaGreatDoorTie.lean); close each card by the builder's one call (the guide's Derived/Test/ToyasCard.lean, 'card_holds'). Laid BY PROGRAM, IN A SANDBOX (cutbox-door.mjs). By AI agents, Wed Nov 11 2026. No macro, syntax, notation, axiom, sorry.
-/
import Derived.Test.YtohmflkolmobmaaGreatDoorRows
import GoSem.ClaimSeven
namespace Go.Proofs.YtohmflkolmobmaaGreatDoor
namespace Rows

/-- THE TIED CARD OF 'sextantlaw04.ValueDecodes'. -/
def valueDecodesCard : Claim7 := { stood := { row := valueDecodesRow, standIns := [], harness := (true, "75215ae6dd5fbd7c38f587be6d3932d6ddab96f623b679bf2766ae82959b0a5f"), looks := true }, kinds := [], alts := [], laidByText := true, laidKinds := [.data, .data, .data, .data, .sentinel, .sentinel, .pinned], laidTests := true, laidLooks := .later }
def ValueDecodesCardSaid : Prop := Claim7.holds Tryz.pinned (.plain (OpenSpec.ofChange valueDecodesSpec)) valueDecodesCard

/-- THE TIED CARD OF 'sextantlaw04.ValueBack'. -/
def valueBackCard : Claim7 := { stood := { row := valueBackRow, standIns := [], harness := (true, "75215ae6dd5fbd7c38f587be6d3932d6ddab96f623b679bf2766ae82959b0a5f"), looks := true }, kinds := [], alts := [], laidByText := true, laidKinds := [.data, .data, .data, .data, .sentinel, .sentinel, .pinned], laidTests := true, laidLooks := .later }
def ValueBackCardSaid : Prop := Claim7.holds Tryz.pinned (.plain (OpenSpec.ofChange valueBackSpec)) valueBackCard

/-- THE TIED CARD OF 'sextantlaw04.ValueGiven'. -/
def valueGivenCard : Claim7 := { stood := { row := valueGivenRow, standIns := [], harness := (true, "75215ae6dd5fbd7c38f587be6d3932d6ddab96f623b679bf2766ae82959b0a5f"), looks := true }, kinds := [], alts := [], laidByText := true, laidKinds := [.data, .data, .data, .data, .sentinel, .sentinel, .pinned], laidTests := true, laidLooks := .later }
def ValueGivenCardSaid : Prop := Claim7.holds Tryz.pinned (.plain (OpenSpec.ofChange valueGivenSpec)) valueGivenCard

/-- THE TIED CARD OF 'sextantlaw04.ValueMakes'. -/
def valueMakesCard : Claim7 := { stood := { row := valueMakesRow, standIns := [], harness := (true, "75215ae6dd5fbd7c38f587be6d3932d6ddab96f623b679bf2766ae82959b0a5f"), looks := true }, kinds := [], alts := [], laidByText := true, laidKinds := [.data, .data, .data, .data, .sentinel, .sentinel, .pinned], laidTests := true, laidLooks := .later }
def ValueMakesCardSaid : Prop := Claim7.holds Tryz.pinned (.plain (OpenSpec.ofChange valueMakesSpec)) valueMakesCard

/-- THE TIED CARD OF 'sextantlaw04.ValueParts'. -/
def valuePartsCard : Claim7 := { stood := { row := valuePartsRow, standIns := [], harness := (true, "75215ae6dd5fbd7c38f587be6d3932d6ddab96f623b679bf2766ae82959b0a5f"), looks := true }, kinds := [], alts := [], laidByText := true, laidKinds := [.data, .data, .data, .data, .sentinel, .sentinel, .pinned], laidTests := true, laidLooks := .later }
def ValuePartsCardSaid : Prop := Claim7.holds Tryz.pinned (.plain (OpenSpec.ofChange valuePartsSpec)) valuePartsCard

/-- THE TIED CARD OF 'sextantlaw06.EventParses'. -/
def eventParsesCard : Claim7 := { stood := { row := eventParsesRow, standIns := [], harness := (true, "75215ae6dd5fbd7c38f587be6d3932d6ddab96f623b679bf2766ae82959b0a5f"), looks := true }, kinds := [], alts := [], laidByText := true, laidKinds := [.data, .data, .data, .data, .sentinel, .sentinel, .pinned], laidTests := true, laidLooks := .later }
def EventParsesCardSaid : Prop := Claim7.holds Tryz.pinned (.plain (OpenSpec.ofChange eventParsesSpec)) eventParsesCard

/-- THE TIED CARD OF 'sextantlaw06.EventDecodes'. -/
def eventDecodesCard : Claim7 := { stood := { row := eventDecodesRow, standIns := [], harness := (true, "75215ae6dd5fbd7c38f587be6d3932d6ddab96f623b679bf2766ae82959b0a5f"), looks := true }, kinds := [], alts := [], laidByText := true, laidKinds := [.data, .data, .data, .data, .sentinel, .sentinel, .pinned], laidTests := true, laidLooks := .later }
def EventDecodesCardSaid : Prop := Claim7.holds Tryz.pinned (.plain (OpenSpec.ofChange eventDecodesSpec)) eventDecodesCard

/-- THE TIED CARD OF 'sextantlaw06.EventBack'. -/
def eventBackCard : Claim7 := { stood := { row := eventBackRow, standIns := [], harness := (true, "75215ae6dd5fbd7c38f587be6d3932d6ddab96f623b679bf2766ae82959b0a5f"), looks := true }, kinds := [], alts := [], laidByText := true, laidKinds := [.data, .data, .data, .data, .sentinel, .sentinel, .pinned], laidTests := true, laidLooks := .later }
def EventBackCardSaid : Prop := Claim7.holds Tryz.pinned (.plain (OpenSpec.ofChange eventBackSpec)) eventBackCard

/-- THE TIED CARD OF 'sextantlaw06.EventSilent'. -/
def eventSilentCard : Claim7 := { stood := { row := eventSilentRow, standIns := [], harness := (true, "75215ae6dd5fbd7c38f587be6d3932d6ddab96f623b679bf2766ae82959b0a5f"), looks := true }, kinds := [], alts := [], laidByText := true, laidKinds := [.data, .data, .data, .data, .sentinel, .sentinel, .pinned], laidTests := true, laidLooks := .later }
def EventSilentCardSaid : Prop := Claim7.holds Tryz.pinned (.plain (OpenSpec.ofChange eventSilentSpec)) eventSilentCard

/-- THE TIED CARD OF 'sextantlaw06.EventFirst'. -/
def eventFirstCard : Claim7 := { stood := { row := eventFirstRow, standIns := [], harness := (true, "75215ae6dd5fbd7c38f587be6d3932d6ddab96f623b679bf2766ae82959b0a5f"), looks := true }, kinds := [], alts := [], laidByText := true, laidKinds := [.data, .data, .data, .data, .sentinel, .sentinel, .pinned], laidTests := true, laidLooks := .later }
def EventFirstCardSaid : Prop := Claim7.holds Tryz.pinned (.plain (OpenSpec.ofChange eventFirstSpec)) eventFirstCard

/-- THE SECOND FORM's CARD OF 'sextantlaw04.ValueDecodes'. -/
def valueDecodesUptoCard : Claim7 := { stood := { row := valueDecodesUptoRow, standIns := [], harness := (true, "75215ae6dd5fbd7c38f587be6d3932d6ddab96f623b679bf2766ae82959b0a5f"), looks := true }, kinds := [], alts := [], laidByText := true, laidKinds := [.data, .data, .data, .data, .sentinel, .sentinel, .pinned], laidTests := true, laidLooks := .later }
def ValueDecodesUptoCardSaid : Prop := Claim7.holds Tryz.pinned (.plain (OpenSpec.upto valueDecodesSpec)) valueDecodesUptoCard

/-- THE SECOND FORM's CARD OF 'sextantlaw04.ValueBack'. -/
def valueBackUptoCard : Claim7 := { stood := { row := valueBackUptoRow, standIns := [], harness := (true, "75215ae6dd5fbd7c38f587be6d3932d6ddab96f623b679bf2766ae82959b0a5f"), looks := true }, kinds := [], alts := [], laidByText := true, laidKinds := [.data, .data, .data, .data, .sentinel, .sentinel, .pinned], laidTests := true, laidLooks := .later }
def ValueBackUptoCardSaid : Prop := Claim7.holds Tryz.pinned (.plain (OpenSpec.upto valueBackSpec)) valueBackUptoCard

/-- THE SECOND FORM's CARD OF 'sextantlaw04.ValueGiven'. -/
def valueGivenUptoCard : Claim7 := { stood := { row := valueGivenUptoRow, standIns := [], harness := (true, "75215ae6dd5fbd7c38f587be6d3932d6ddab96f623b679bf2766ae82959b0a5f"), looks := true }, kinds := [], alts := [], laidByText := true, laidKinds := [.data, .data, .data, .data, .sentinel, .sentinel, .pinned], laidTests := true, laidLooks := .later }
def ValueGivenUptoCardSaid : Prop := Claim7.holds Tryz.pinned (.plain (OpenSpec.upto valueGivenSpec)) valueGivenUptoCard

/-- THE SECOND FORM's CARD OF 'sextantlaw04.ValueMakes'. -/
def valueMakesUptoCard : Claim7 := { stood := { row := valueMakesUptoRow, standIns := [], harness := (true, "75215ae6dd5fbd7c38f587be6d3932d6ddab96f623b679bf2766ae82959b0a5f"), looks := true }, kinds := [], alts := [], laidByText := true, laidKinds := [.data, .data, .data, .data, .sentinel, .sentinel, .pinned], laidTests := true, laidLooks := .later }
def ValueMakesUptoCardSaid : Prop := Claim7.holds Tryz.pinned (.plain (OpenSpec.upto valueMakesSpec)) valueMakesUptoCard

/-- THE SECOND FORM's CARD OF 'sextantlaw04.ValueParts'. -/
def valuePartsUptoCard : Claim7 := { stood := { row := valuePartsUptoRow, standIns := [], harness := (true, "75215ae6dd5fbd7c38f587be6d3932d6ddab96f623b679bf2766ae82959b0a5f"), looks := true }, kinds := [], alts := [], laidByText := true, laidKinds := [.data, .data, .data, .data, .sentinel, .sentinel, .pinned], laidTests := true, laidLooks := .later }
def ValuePartsUptoCardSaid : Prop := Claim7.holds Tryz.pinned (.plain (OpenSpec.upto valuePartsSpec)) valuePartsUptoCard

/-- THE SECOND FORM's CARD OF 'sextantlaw06.EventParses'. -/
def eventParsesUptoCard : Claim7 := { stood := { row := eventParsesUptoRow, standIns := [], harness := (true, "75215ae6dd5fbd7c38f587be6d3932d6ddab96f623b679bf2766ae82959b0a5f"), looks := true }, kinds := [], alts := [], laidByText := true, laidKinds := [.data, .data, .data, .data, .sentinel, .sentinel, .pinned], laidTests := true, laidLooks := .later }
def EventParsesUptoCardSaid : Prop := Claim7.holds Tryz.pinned (.plain (OpenSpec.upto eventParsesSpec)) eventParsesUptoCard

/-- THE SECOND FORM's CARD OF 'sextantlaw06.EventDecodes'. -/
def eventDecodesUptoCard : Claim7 := { stood := { row := eventDecodesUptoRow, standIns := [], harness := (true, "75215ae6dd5fbd7c38f587be6d3932d6ddab96f623b679bf2766ae82959b0a5f"), looks := true }, kinds := [], alts := [], laidByText := true, laidKinds := [.data, .data, .data, .data, .sentinel, .sentinel, .pinned], laidTests := true, laidLooks := .later }
def EventDecodesUptoCardSaid : Prop := Claim7.holds Tryz.pinned (.plain (OpenSpec.upto eventDecodesSpec)) eventDecodesUptoCard

/-- THE SECOND FORM's CARD OF 'sextantlaw06.EventBack'. -/
def eventBackUptoCard : Claim7 := { stood := { row := eventBackUptoRow, standIns := [], harness := (true, "75215ae6dd5fbd7c38f587be6d3932d6ddab96f623b679bf2766ae82959b0a5f"), looks := true }, kinds := [], alts := [], laidByText := true, laidKinds := [.data, .data, .data, .data, .sentinel, .sentinel, .pinned], laidTests := true, laidLooks := .later }
def EventBackUptoCardSaid : Prop := Claim7.holds Tryz.pinned (.plain (OpenSpec.upto eventBackSpec)) eventBackUptoCard

/-- THE SECOND FORM's CARD OF 'sextantlaw06.EventSilent'. -/
def eventSilentUptoCard : Claim7 := { stood := { row := eventSilentUptoRow, standIns := [], harness := (true, "75215ae6dd5fbd7c38f587be6d3932d6ddab96f623b679bf2766ae82959b0a5f"), looks := true }, kinds := [], alts := [], laidByText := true, laidKinds := [.data, .data, .data, .data, .sentinel, .sentinel, .pinned], laidTests := true, laidLooks := .later }
def EventSilentUptoCardSaid : Prop := Claim7.holds Tryz.pinned (.plain (OpenSpec.upto eventSilentSpec)) eventSilentUptoCard

/-- THE SECOND FORM's CARD OF 'sextantlaw06.EventFirst'. -/
def eventFirstUptoCard : Claim7 := { stood := { row := eventFirstUptoRow, standIns := [], harness := (true, "75215ae6dd5fbd7c38f587be6d3932d6ddab96f623b679bf2766ae82959b0a5f"), looks := true }, kinds := [], alts := [], laidByText := true, laidKinds := [.data, .data, .data, .data, .sentinel, .sentinel, .pinned], laidTests := true, laidLooks := .later }
def EventFirstUptoCardSaid : Prop := Claim7.holds Tryz.pinned (.plain (OpenSpec.upto eventFirstSpec)) eventFirstUptoCard
end Rows
end Go.Proofs.YtohmflkolmobmaaGreatDoor
