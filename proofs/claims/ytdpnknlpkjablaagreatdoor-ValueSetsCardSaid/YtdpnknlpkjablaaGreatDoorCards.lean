/-
  DERIVED. GIVEN WITH THE SEED: THE CARDS: each row of YtdpnknlpkjablaaGreatDoorRows.lean that lists a variable, with what it lists TIED to the program's text (the seventh form; the later family's looks); each row that meets fmt, with fmt's text TOLD by the authors' own Lean function (tested against real Go, not proved from fmt's source: count such statements apart). THE CARD IS WHAT COUNTS. Prove the row's statement (the work); the ties are given (YtdpnknlpkjablaaGreatDoorTie.lean); close each card by the builder's one call (the guide's Derived/Test/ToyasCard.lean, 'card_holds'). Laid BY PROGRAM, IN A SANDBOX (cutbox-door.mjs). By AI agents, Wed Nov 11 2026. No macro, syntax, notation, axiom, sorry.
-/
import Derived.Test.YtdpnknlpkjablaaGreatDoorRows
import GoSem.ClaimSeven
namespace Go.Proofs.YtdpnknlpkjablaaGreatDoor
namespace Rows

/-- THE TIED CARD OF 'bootjacklaw12.ValueInts'. -/
def valueIntsCard : Claim7 := { stood := { row := valueIntsRow, standIns := [], harness := (true, "64eefe2e3b063d453a00ecb096057d812709a564a920c10a39f0b6dbfbf205cb"), looks := true }, kinds := [], alts := [], laidByText := true, laidKinds := [.data, .data, .data, .data, .pinned, .pinned], laidTests := true, laidLooks := .later }
def ValueIntsCardSaid : Prop := Claim7.holds Tryz.pinned (.plain (OpenSpec.ofChange valueIntsSpec)) valueIntsCard

/-- THE TIED CARD OF 'bootjacklaw12.ValueSets'. -/
def valueSetsCard : Claim7 := { stood := { row := valueSetsRow, standIns := [], harness := (true, "64eefe2e3b063d453a00ecb096057d812709a564a920c10a39f0b6dbfbf205cb"), looks := true }, kinds := [], alts := [], laidByText := true, laidKinds := [.data, .data, .data, .data, .pinned, .pinned], laidTests := true, laidLooks := .later }
def ValueSetsCardSaid : Prop := Claim7.holds Tryz.pinned (.plain (OpenSpec.ofChange valueSetsSpec)) valueSetsCard

/-- THE TIED CARD OF 'bootjacklaw12.ValueLists'. -/
def valueListsCard : Claim7 := { stood := { row := valueListsRow, standIns := [], harness := (true, "64eefe2e3b063d453a00ecb096057d812709a564a920c10a39f0b6dbfbf205cb"), looks := true }, kinds := [], alts := [], laidByText := true, laidKinds := [.data, .data, .data, .data, .pinned, .pinned], laidTests := true, laidLooks := .later }
def ValueListsCardSaid : Prop := Claim7.holds Tryz.pinned (.plain (OpenSpec.ofChange valueListsSpec)) valueListsCard

/-- THE TIED CARD OF 'bootjacklaw12.ValueOrders'. -/
def valueOrdersCard : Claim7 := { stood := { row := valueOrdersRow, standIns := [], harness := (true, "64eefe2e3b063d453a00ecb096057d812709a564a920c10a39f0b6dbfbf205cb"), looks := true }, kinds := [], alts := [], laidByText := true, laidKinds := [.data, .data, .data, .data, .pinned, .pinned], laidTests := true, laidLooks := .later }
def ValueOrdersCardSaid : Prop := Claim7.holds Tryz.pinned (.plain (OpenSpec.ofChange valueOrdersSpec)) valueOrdersCard

/-- THE TIED CARD OF 'bootjacklaw12.ValueStrings'. -/
def valueStringsCard : Claim7 := { stood := { row := valueStringsRow, standIns := [], harness := (true, "64eefe2e3b063d453a00ecb096057d812709a564a920c10a39f0b6dbfbf205cb"), looks := true }, kinds := [], alts := [], laidByText := true, laidKinds := [.data, .data, .data, .data, .pinned, .pinned], laidTests := true, laidLooks := .later }
def ValueStringsCardSaid : Prop := Claim7.holds Tryz.pinned (.plain (OpenSpec.ofChange valueStringsSpec)) valueStringsCard

/-- THE TIED CARD OF 'bootjacklaw12.ValueDigits'. -/
def valueDigitsCard : Claim7 := { stood := { row := valueDigitsRow, standIns := [], harness := (true, "64eefe2e3b063d453a00ecb096057d812709a564a920c10a39f0b6dbfbf205cb"), looks := true }, kinds := [], alts := [], laidByText := true, laidKinds := [.data, .data, .data, .data, .sentinel, .sentinel, .pinned, .pinned], laidTests := true, laidLooks := .later }
def ValueDigitsCardSaid : Prop := Claim7.holds Tryz.pinned (.plain (OpenSpec.ofChange valueDigitsSpec)) valueDigitsCard

/-- THE SECOND FORM's CARD OF 'bootjacklaw12.ValueInts'. -/
def valueIntsUptoCard : Claim7 := { stood := { row := valueIntsUptoRow, standIns := [], harness := (true, "64eefe2e3b063d453a00ecb096057d812709a564a920c10a39f0b6dbfbf205cb"), looks := true }, kinds := [], alts := [], laidByText := true, laidKinds := [.data, .data, .data, .data, .pinned, .pinned], laidTests := true, laidLooks := .later }
def ValueIntsUptoCardSaid : Prop := Claim7.holds Tryz.pinned (.plain (OpenSpec.upto valueIntsSpec)) valueIntsUptoCard

/-- THE SECOND FORM's CARD OF 'bootjacklaw12.ValueSets'. -/
def valueSetsUptoCard : Claim7 := { stood := { row := valueSetsUptoRow, standIns := [], harness := (true, "64eefe2e3b063d453a00ecb096057d812709a564a920c10a39f0b6dbfbf205cb"), looks := true }, kinds := [], alts := [], laidByText := true, laidKinds := [.data, .data, .data, .data, .pinned, .pinned], laidTests := true, laidLooks := .later }
def ValueSetsUptoCardSaid : Prop := Claim7.holds Tryz.pinned (.plain (OpenSpec.upto valueSetsSpec)) valueSetsUptoCard

/-- THE SECOND FORM's CARD OF 'bootjacklaw12.ValueLists'. -/
def valueListsUptoCard : Claim7 := { stood := { row := valueListsUptoRow, standIns := [], harness := (true, "64eefe2e3b063d453a00ecb096057d812709a564a920c10a39f0b6dbfbf205cb"), looks := true }, kinds := [], alts := [], laidByText := true, laidKinds := [.data, .data, .data, .data, .pinned, .pinned], laidTests := true, laidLooks := .later }
def ValueListsUptoCardSaid : Prop := Claim7.holds Tryz.pinned (.plain (OpenSpec.upto valueListsSpec)) valueListsUptoCard

/-- THE SECOND FORM's CARD OF 'bootjacklaw12.ValueOrders'. -/
def valueOrdersUptoCard : Claim7 := { stood := { row := valueOrdersUptoRow, standIns := [], harness := (true, "64eefe2e3b063d453a00ecb096057d812709a564a920c10a39f0b6dbfbf205cb"), looks := true }, kinds := [], alts := [], laidByText := true, laidKinds := [.data, .data, .data, .data, .pinned, .pinned], laidTests := true, laidLooks := .later }
def ValueOrdersUptoCardSaid : Prop := Claim7.holds Tryz.pinned (.plain (OpenSpec.upto valueOrdersSpec)) valueOrdersUptoCard

/-- THE SECOND FORM's CARD OF 'bootjacklaw12.ValueStrings'. -/
def valueStringsUptoCard : Claim7 := { stood := { row := valueStringsUptoRow, standIns := [], harness := (true, "64eefe2e3b063d453a00ecb096057d812709a564a920c10a39f0b6dbfbf205cb"), looks := true }, kinds := [], alts := [], laidByText := true, laidKinds := [.data, .data, .data, .data, .pinned, .pinned], laidTests := true, laidLooks := .later }
def ValueStringsUptoCardSaid : Prop := Claim7.holds Tryz.pinned (.plain (OpenSpec.upto valueStringsSpec)) valueStringsUptoCard

/-- THE SECOND FORM's CARD OF 'bootjacklaw12.ValueDigits'. -/
def valueDigitsUptoCard : Claim7 := { stood := { row := valueDigitsUptoRow, standIns := [], harness := (true, "64eefe2e3b063d453a00ecb096057d812709a564a920c10a39f0b6dbfbf205cb"), looks := true }, kinds := [], alts := [], laidByText := true, laidKinds := [.data, .data, .data, .data, .sentinel, .sentinel, .pinned, .pinned], laidTests := true, laidLooks := .later }
def ValueDigitsUptoCardSaid : Prop := Claim7.holds Tryz.pinned (.plain (OpenSpec.upto valueDigitsSpec)) valueDigitsUptoCard
end Rows
end Go.Proofs.YtdpnknlpkjablaaGreatDoor
