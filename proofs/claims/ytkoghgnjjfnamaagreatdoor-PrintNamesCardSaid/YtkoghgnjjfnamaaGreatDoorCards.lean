/-
  DERIVED. GIVEN WITH THE SEED: THE CARDS: each row of YtkoghgnjjfnamaaGreatDoorRows.lean that lists a variable, with what it lists TIED to the program's text (the seventh form; the later family's looks); each row that meets fmt, with fmt's text TOLD by the authors' own Lean function (tested against real Go, not proved from fmt's source: count such statements apart). THE CARD IS WHAT COUNTS. Prove the row's statement (the work); the ties are given (YtkoghgnjjfnamaaGreatDoorTie.lean); close each card by the builder's one call (the guide's Derived/Test/ToyasCard.lean, 'card_holds'). Laid BY PROGRAM, IN A SANDBOX (cutbox-door.mjs). By AI agents, Wed Nov 11 2026. No macro, syntax, notation, axiom, sorry.
-/
import Derived.Test.YtkoghgnjjfnamaaGreatDoorRows
import GoSem.ClaimSeven
namespace Go.Proofs.YtkoghgnjjfnamaaGreatDoor
namespace Rows

/-- THE TIED CARD OF 'bootjacklaw13.PrintBare'. -/
def printBareCard : Claim7 := { stood := { row := printBareRow, standIns := [], harness := (true, "0d17c2c2a84fac9150693978da52fbcd25416f26d4412fb40825e0fe80a253e3"), looks := true }, kinds := [], alts := [], laidByText := true, laidKinds := [.data, .data, .widerDeep, .widerDeep, .data, .data, .data, .data, .data, .sentinel, .sentinel, .pinned, .pinned], laidTests := true, laidLooks := .later }
def PrintBareCardSaid : Prop := Claim7.holds Tryz.pinned (.plain (OpenSpec.ofChange printBareSpec)) printBareCard

/-- THE TIED CARD OF 'bootjacklaw13.PrintUnlike'. -/
def printUnlikeCard : Claim7 := { stood := { row := printUnlikeRow, standIns := [], harness := (true, "0d17c2c2a84fac9150693978da52fbcd25416f26d4412fb40825e0fe80a253e3"), looks := true }, kinds := [], alts := [], laidByText := true, laidKinds := [.data, .data, .widerDeep, .widerDeep, .data, .data, .data, .data, .data, .sentinel, .sentinel, .pinned, .pinned], laidTests := true, laidLooks := .later }
def PrintUnlikeCardSaid : Prop := Claim7.holds Tryz.pinned (.plain (OpenSpec.ofChange printUnlikeSpec)) printUnlikeCard

/-- THE TIED CARD OF 'bootjacklaw13.PrintNames'. -/
def printNamesCard : Claim7 := { stood := { row := printNamesRow, standIns := [], harness := (true, "0d17c2c2a84fac9150693978da52fbcd25416f26d4412fb40825e0fe80a253e3"), looks := true }, kinds := [], alts := [], laidByText := true, laidKinds := [.data, .data, .widerDeep, .widerDeep, .data, .data, .data, .data, .data, .sentinel, .sentinel, .pinned, .pinned], laidTests := true, laidLooks := .later }
def PrintNamesCardSaid : Prop := Claim7.holds Tryz.pinned (.plain (OpenSpec.ofChange printNamesSpec)) printNamesCard

/-- THE TIED CARD OF 'bootjacklaw13.PrintChains'. -/
def printChainsCard : Claim7 := { stood := { row := printChainsRow, standIns := [], harness := (true, "0d17c2c2a84fac9150693978da52fbcd25416f26d4412fb40825e0fe80a253e3"), looks := true }, kinds := [], alts := [], laidByText := true, laidKinds := [.data, .data, .widerDeep, .widerDeep, .data, .data, .data, .data, .data, .sentinel, .sentinel, .pinned, .pinned], laidTests := true, laidLooks := .later }
def PrintChainsCardSaid : Prop := Claim7.holds Tryz.pinned (.plain (OpenSpec.ofChange printChainsSpec)) printChainsCard

/-- THE SECOND FORM's CARD OF 'bootjacklaw13.PrintBare'. -/
def printBareUptoCard : Claim7 := { stood := { row := printBareUptoRow, standIns := [], harness := (true, "0d17c2c2a84fac9150693978da52fbcd25416f26d4412fb40825e0fe80a253e3"), looks := true }, kinds := [], alts := [], laidByText := true, laidKinds := [.data, .data, .widerDeep, .widerDeep, .data, .data, .data, .data, .data, .sentinel, .sentinel, .pinned, .pinned], laidTests := true, laidLooks := .later }
def PrintBareUptoCardSaid : Prop := Claim7.holds Tryz.pinned (.plain (OpenSpec.upto printBareSpec)) printBareUptoCard

/-- THE SECOND FORM's CARD OF 'bootjacklaw13.PrintUnlike'. -/
def printUnlikeUptoCard : Claim7 := { stood := { row := printUnlikeUptoRow, standIns := [], harness := (true, "0d17c2c2a84fac9150693978da52fbcd25416f26d4412fb40825e0fe80a253e3"), looks := true }, kinds := [], alts := [], laidByText := true, laidKinds := [.data, .data, .widerDeep, .widerDeep, .data, .data, .data, .data, .data, .sentinel, .sentinel, .pinned, .pinned], laidTests := true, laidLooks := .later }
def PrintUnlikeUptoCardSaid : Prop := Claim7.holds Tryz.pinned (.plain (OpenSpec.upto printUnlikeSpec)) printUnlikeUptoCard

/-- THE SECOND FORM's CARD OF 'bootjacklaw13.PrintNames'. -/
def printNamesUptoCard : Claim7 := { stood := { row := printNamesUptoRow, standIns := [], harness := (true, "0d17c2c2a84fac9150693978da52fbcd25416f26d4412fb40825e0fe80a253e3"), looks := true }, kinds := [], alts := [], laidByText := true, laidKinds := [.data, .data, .widerDeep, .widerDeep, .data, .data, .data, .data, .data, .sentinel, .sentinel, .pinned, .pinned], laidTests := true, laidLooks := .later }
def PrintNamesUptoCardSaid : Prop := Claim7.holds Tryz.pinned (.plain (OpenSpec.upto printNamesSpec)) printNamesUptoCard

/-- THE SECOND FORM's CARD OF 'bootjacklaw13.PrintChains'. -/
def printChainsUptoCard : Claim7 := { stood := { row := printChainsUptoRow, standIns := [], harness := (true, "0d17c2c2a84fac9150693978da52fbcd25416f26d4412fb40825e0fe80a253e3"), looks := true }, kinds := [], alts := [], laidByText := true, laidKinds := [.data, .data, .widerDeep, .widerDeep, .data, .data, .data, .data, .data, .sentinel, .sentinel, .pinned, .pinned], laidTests := true, laidLooks := .later }
def PrintChainsUptoCardSaid : Prop := Claim7.holds Tryz.pinned (.plain (OpenSpec.upto printChainsSpec)) printChainsUptoCard
end Rows
end Go.Proofs.YtkoghgnjjfnamaaGreatDoor
