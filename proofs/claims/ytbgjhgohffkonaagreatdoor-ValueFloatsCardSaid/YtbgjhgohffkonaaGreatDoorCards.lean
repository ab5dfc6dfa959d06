/-
  DERIVED. GIVEN WITH THE SEED: THE CARDS: each row of YtbgjhgohffkonaaGreatDoorRows.lean that lists a variable, with what it lists TIED to the program's text (the seventh form; the later family's looks); each row that meets fmt, with fmt's text TOLD by the authors' own Lean function (tested against real Go, not proved from fmt's source: count such statements apart). THE CARD IS WHAT COUNTS. Prove the row's statement (the work); the ties are given (YtbgjhgohffkonaaGreatDoorTie.lean); close each card by the builder's one call (the guide's Derived/Test/ToyasCard.lean, 'card_holds'). Laid BY PROGRAM, IN A SANDBOX (cutbox-door.mjs). By AI agents, Wed Nov 11 2026. No macro, syntax, notation, axiom, sorry.
-/
import Derived.Test.YtbgjhgohffkonaaGreatDoorRows
import GoSem.ClaimSeven
namespace Go.Proofs.YtbgjhgohffkonaaGreatDoor
namespace Rows

/-- THE TIED CARD OF 'bootjacklaw12.ValueFloats'. -/
def valueFloatsCard : Claim7 := { stood := { row := valueFloatsRow, standIns := [], harness := (true, "52dd6cf84e7bba20eeba45671e36ae71d4475243cc08888c74c6f2ce46d16b9f"), looks := true }, kinds := [], alts := [], laidByText := true, laidKinds := [.data, .data, .widerDeep, .widerDeep, .data, .data, .data, .data, .data, .sentinel, .sentinel, .pinned, .pinned], laidTests := true, laidLooks := .later }
def ValueFloatsCardSaid : Prop := Claim7.holds Tryz.pinned (.plain (OpenSpec.ofChange valueFloatsSpec)) valueFloatsCard

/-- THE SECOND FORM's CARD OF 'bootjacklaw12.ValueFloats'. -/
def valueFloatsUptoCard : Claim7 := { stood := { row := valueFloatsUptoRow, standIns := [], harness := (true, "52dd6cf84e7bba20eeba45671e36ae71d4475243cc08888c74c6f2ce46d16b9f"), looks := true }, kinds := [], alts := [], laidByText := true, laidKinds := [.data, .data, .widerDeep, .widerDeep, .data, .data, .data, .data, .data, .sentinel, .sentinel, .pinned, .pinned], laidTests := true, laidLooks := .later }
def ValueFloatsUptoCardSaid : Prop := Claim7.holds Tryz.pinned (.plain (OpenSpec.upto valueFloatsSpec)) valueFloatsUptoCard
end Rows
end Go.Proofs.YtbgjhgohffkonaaGreatDoor
