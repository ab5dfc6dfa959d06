/- Texts that are put together; ints that came in. -/
import Derived.Test.YtppljgallbmgcaaGreatDoorGs
namespace Go.Proofs.YtppljgallbmgcaaGreatDoor
open Go.RowKit Go.Shelf
def baL (l : List UInt8) : ByteArray := ⟨l.toArray⟩
theorem baL_app (a : List UInt8) (b : ByteArray) : baL a ++ b = baL (a ++ b.data.toList) := by
  apply ba_ext
  rw [nw_app]
  simp [baL]
theorem baL_app2 (a : ByteArray) (b : List UInt8) : a ++ baL b = baL (a.data.toList ++ b) := by
  apply ba_ext
  rw [nw_app]
  simp [baL]
/-- Ints that came in. -/
def NZ (w : World) (v : Value) (len : Nat) (ns : Nat → Int) : Prop := (v = .slice none 0 0 ∧ len = 0) ∨ ∃ a cap, v = .slice (some a) len cap ∧ len ≤ 9223372036854775807 ∧ ∀ j, j < len → w.cell? (a.add j) = some (.int .i64 (ns j)) ∧ -9223372036854775808 ≤ ns j ∧ ns j ≤ 9223372036854775807
theorem ba_size (a b : ByteArray) : (a ++ b).size = a.size + b.size := ByteArray.size_append
end Go.Proofs.YtppljgallbmgcaaGreatDoor
