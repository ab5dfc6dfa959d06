/-
  No cell of these rows narrows 'for every input' (looked for: loops, veiled, ifaces, maps, wideKeys, modest, calm, conditions, laid).
  DERIVED. THE GIVEN ROWS OF THIS SEAT. 5 by the template 'for every input the law returns true; each argument reads behind the call as it read before'; 0 by the template 'total and deterministic' (their statements: YtlhlbckmifgeeaaTotals.lean).
  GIVEN WITH THE SEED: the statements are not yours to turn. If you find one false, say at which input.
  Laid BY PROGRAM, IN A SANDBOX (cutbox-rows.mjs): the forced cells as the released guide's own fill.sh prints them over the translation 602236438dc41db8… (all of the seat's roots in one cut). By AI agents, Wed Nov 11 2026. No macro, syntax, notation, axiom, sorry.
-/
import Derived.Test.YtlhlbckmifgeeaaChecked
import GoSem.Claim
import GoSem.ClaimJoined
import GoSem.ClaimMapViews
import Derived.JoinedTies
import Derived.KernelRfl
namespace Go.Proofs.Ytlhlbckmifgeeaa
/- THE CELL 'sum', in the pinned program and in every row, IS THE sha256 OF THE DUMP (.gsa) THAT YtlhlbckmifgeeaaProg.lean LOADS. Nothing in Lean hashes anything: it is a label: what it is worth is what the hold of that sum in a sandbox is worth. -/
noncomputable def Try.pinned : Pinned := { name := "ytlhlbckmifgeeaa", sum := "602236438dc41db8f084120e88a1f997b12fb442c6d42705b5b15f9d226f7086", checked := Try.checked }
namespace Rows
def none {H : Type} : Left H := { results := [], args := [] }

/-- 'bootjacklaw17.UnitsOrders': WHATEVER THE INPUT: true; the input reads as it did. -/
def unitsOrdersSpec : ChangeSpec := { name := "unitsOrders", fn := fun _ => fun
  | [d] => { results := [.lit (.bool true)], args := [d] }
  | _ => none }
def unitsOrdersRow : OpenClaim := { program := "ytlhlbckmifgeeaa", sum := "602236438dc41db8f084120e88a1f997b12fb442c6d42705b5b15f9d226f7086", func := "bootjack/bootjacklaw17.UnitsOrders", spec := "unitsOrders", unfollowed := true, recurses := true, apart := false }
def UnitsOrdersSaid : Prop := unitsOrdersRow.holds Try.pinned (OpenSpec.ofChange unitsOrdersSpec)

/-- ITS FALSE NEIGHBOUR: 'it returns false'. Refute it at one input. -/
def unitsOrdersWrong : ChangeSpec := { name := "unitsOrders", fn := fun _ => fun
  | [d] => { results := [.lit (.bool false)], args := [d] }
  | _ => none }
def UnitsOrdersWrongFalsely : Prop := unitsOrdersRow.holds Try.pinned (OpenSpec.ofChange unitsOrdersWrong)

/-- 'bootjacklaw17.UnitsWait': WHATEVER THE INPUT: true; the input reads as it did. -/
def unitsWaitSpec : ChangeSpec := { name := "unitsWait", fn := fun _ => fun
  | [d] => { results := [.lit (.bool true)], args := [d] }
  | _ => none }
def unitsWaitRow : OpenClaim := { program := "ytlhlbckmifgeeaa", sum := "602236438dc41db8f084120e88a1f997b12fb442c6d42705b5b15f9d226f7086", func := "bootjack/bootjacklaw17.UnitsWait", spec := "unitsWait", unfollowed := true, recurses := true, apart := false }
def UnitsWaitSaid : Prop := unitsWaitRow.holds Try.pinned (OpenSpec.ofChange unitsWaitSpec)

/-- ITS FALSE NEIGHBOUR: 'it returns false'. Refute it at one input. -/
def unitsWaitWrong : ChangeSpec := { name := "unitsWait", fn := fun _ => fun
  | [d] => { results := [.lit (.bool false)], args := [d] }
  | _ => none }
def UnitsWaitWrongFalsely : Prop := unitsWaitRow.holds Try.pinned (OpenSpec.ofChange unitsWaitWrong)

/-- 'bootjacklaw17.UnitsRings': WHATEVER THE INPUT: true; the input reads as it did. -/
def unitsRingsSpec : ChangeSpec := { name := "unitsRings", fn := fun _ => fun
  | [d1, d2, d3] => { results := [.lit (.bool true)], args := [d1, d2, d3] }
  | _ => none }
def unitsRingsRow : OpenClaim := { program := "ytlhlbckmifgeeaa", sum := "602236438dc41db8f084120e88a1f997b12fb442c6d42705b5b15f9d226f7086", func := "bootjack/bootjacklaw17.UnitsRings", spec := "unitsRings", unfollowed := true, recurses := true, apart := false }
def UnitsRingsSaid : Prop := unitsRingsRow.holds Try.pinned (OpenSpec.ofChange unitsRingsSpec)

/-- ITS FALSE NEIGHBOUR: 'it returns false'. Refute it at one input. -/
def unitsRingsWrong : ChangeSpec := { name := "unitsRings", fn := fun _ => fun
  | [d1, d2, d3] => { results := [.lit (.bool false)], args := [d1, d2, d3] }
  | _ => none }
def UnitsRingsWrongFalsely : Prop := unitsRingsRow.holds Try.pinned (OpenSpec.ofChange unitsRingsWrong)

/-- 'bootjacklaw17.UnitsDiffs': WHATEVER THE INPUT: true; the input reads as it did. -/
def unitsDiffsSpec : ChangeSpec := { name := "unitsDiffs", fn := fun _ => fun
  | [d1, d2] => { results := [.lit (.bool true)], args := [d1, d2] }
  | _ => none }
def unitsDiffsRow : OpenClaim := { program := "ytlhlbckmifgeeaa", sum := "602236438dc41db8f084120e88a1f997b12fb442c6d42705b5b15f9d226f7086", func := "bootjack/bootjacklaw17.UnitsDiffs", spec := "unitsDiffs", unfollowed := true, recurses := true, apart := false }
def UnitsDiffsSaid : Prop := unitsDiffsRow.holds Try.pinned (OpenSpec.ofChange unitsDiffsSpec)

/-- ITS FALSE NEIGHBOUR: 'it returns false'. Refute it at one input. -/
def unitsDiffsWrong : ChangeSpec := { name := "unitsDiffs", fn := fun _ => fun
  | [d1, d2] => { results := [.lit (.bool false)], args := [d1, d2] }
  | _ => none }
def UnitsDiffsWrongFalsely : Prop := unitsDiffsRow.holds Try.pinned (OpenSpec.ofChange unitsDiffsWrong)

/-- 'bootjacklaw17.UnitsParted': WHATEVER THE INPUT: true; the input reads as it did. -/
def unitsPartedSpec : ChangeSpec := { name := "unitsParted", fn := fun _ => fun
  | [d1, d2] => { results := [.lit (.bool true)], args := [d1, d2] }
  | _ => none }
def unitsPartedRow : OpenClaim := { program := "ytlhlbckmifgeeaa", sum := "602236438dc41db8f084120e88a1f997b12fb442c6d42705b5b15f9d226f7086", func := "bootjack/bootjacklaw17.UnitsParted", spec := "unitsParted", unfollowed := true, recurses := true, apart := false }
def UnitsPartedSaid : Prop := unitsPartedRow.holds Try.pinned (OpenSpec.ofChange unitsPartedSpec)

/-- ITS FALSE NEIGHBOUR: 'it returns false'. Refute it at one input. -/
def unitsPartedWrong : ChangeSpec := { name := "unitsParted", fn := fun _ => fun
  | [d1, d2] => { results := [.lit (.bool false)], args := [d1, d2] }
  | _ => none }
def UnitsPartedWrongFalsely : Prop := unitsPartedRow.holds Try.pinned (OpenSpec.ofChange unitsPartedWrong)

/- THE SECOND FORM. 'bulk': how many values and letters a reading holds, each counted each time it is reached (what is shared counts as often as it is met; a slice's spare places count too). A statement '..UptoSaid' is the law's where the arguments, and the package variables that the reading takes, are together of bulk at most 1048576: NARROWER than '..Said'. Prove '..Said' where nothing that the law and all that it calls make is longer than what came in: it says more and counts as full. Else prove '..UptoSaid'. A law counts once. -/
mutual
def uptoBulk {H : Type} : DataW H → Nat
  | .lit (.string bytes) => bytes.length + 1
  | .lit _ => 1
  | .nil => 1
  | .ptr d => uptoBulk d + 1
  | .slice elems spare => uptoBulkAll elems + uptoBulkAll spare + 1
  | .agg parts => uptoBulkAll parts + 1
  | .iface _ d => uptoBulk d + 1
  | .map entries => uptoBulkEntries entries + 1
  | .held _ => 1
def uptoBulkAll {H : Type} : List (DataW H) → Nat
  | [] => 0
  | d :: r => uptoBulk d + uptoBulkAll r
def uptoBulkEntries {H : Type} : List (Lit × DataW H) → Nat
  | [] => 0
  | x :: r => uptoBulkEntry x + uptoBulkEntries r
def uptoBulkEntry {H : Type} : Lit × DataW H → Nat
  | (.string bytes, d) => bytes.length + uptoBulk d + 1
  | (_, d) => uptoBulk d + 1
 end
def uptoSmall : (H : Type) → List (DataW H) → Bool := fun _ ds => decide (uptoBulkAll ds ≤ 1048576)
def OpenSpec.upto (s : _root_.Go.ChangeSpec) : _root_.Go.OpenSpec := { _root_.Go.OpenSpec.ofChange s with cond := some uptoSmall }

/-- 'bootjacklaw17.UnitsOrders', WHERE WHAT IT READS IS OF BULK AT MOST 1048576: true; the input reads as it did. -/
def unitsOrdersUptoRow : OpenClaim := { program := "ytlhlbckmifgeeaa", sum := "602236438dc41db8f084120e88a1f997b12fb442c6d42705b5b15f9d226f7086", func := "bootjack/bootjacklaw17.UnitsOrders", spec := "unitsOrders", unfollowed := true, recurses := true, apart := false, narrowed := true }
def UnitsOrdersUptoSaid : Prop := unitsOrdersUptoRow.holds Try.pinned (OpenSpec.upto unitsOrdersSpec)

/-- 'bootjacklaw17.UnitsWait', WHERE WHAT IT READS IS OF BULK AT MOST 1048576: true; the input reads as it did. -/
def unitsWaitUptoRow : OpenClaim := { program := "ytlhlbckmifgeeaa", sum := "602236438dc41db8f084120e88a1f997b12fb442c6d42705b5b15f9d226f7086", func := "bootjack/bootjacklaw17.UnitsWait", spec := "unitsWait", unfollowed := true, recurses := true, apart := false, narrowed := true }
def UnitsWaitUptoSaid : Prop := unitsWaitUptoRow.holds Try.pinned (OpenSpec.upto unitsWaitSpec)

/-- 'bootjacklaw17.UnitsRings', WHERE WHAT IT READS IS OF BULK AT MOST 1048576: true; the input reads as it did. -/
def unitsRingsUptoRow : OpenClaim := { program := "ytlhlbckmifgeeaa", sum := "602236438dc41db8f084120e88a1f997b12fb442c6d42705b5b15f9d226f7086", func := "bootjack/bootjacklaw17.UnitsRings", spec := "unitsRings", unfollowed := true, recurses := true, apart := false, narrowed := true }
def UnitsRingsUptoSaid : Prop := unitsRingsUptoRow.holds Try.pinned (OpenSpec.upto unitsRingsSpec)

/-- 'bootjacklaw17.UnitsDiffs', WHERE WHAT IT READS IS OF BULK AT MOST 1048576: true; the input reads as it did. -/
def unitsDiffsUptoRow : OpenClaim := { program := "ytlhlbckmifgeeaa", sum := "602236438dc41db8f084120e88a1f997b12fb442c6d42705b5b15f9d226f7086", func := "bootjack/bootjacklaw17.UnitsDiffs", spec := "unitsDiffs", unfollowed := true, recurses := true, apart := false, narrowed := true }
def UnitsDiffsUptoSaid : Prop := unitsDiffsUptoRow.holds Try.pinned (OpenSpec.upto unitsDiffsSpec)

/-- 'bootjacklaw17.UnitsParted', WHERE WHAT IT READS IS OF BULK AT MOST 1048576: true; the input reads as it did. -/
def unitsPartedUptoRow : OpenClaim := { program := "ytlhlbckmifgeeaa", sum := "602236438dc41db8f084120e88a1f997b12fb442c6d42705b5b15f9d226f7086", func := "bootjack/bootjacklaw17.UnitsParted", spec := "unitsParted", unfollowed := true, recurses := true, apart := false, narrowed := true }
def UnitsPartedUptoSaid : Prop := unitsPartedUptoRow.holds Try.pinned (OpenSpec.upto unitsPartedSpec)

end Rows
end Go.Proofs.Ytlhlbckmifgeeaa
