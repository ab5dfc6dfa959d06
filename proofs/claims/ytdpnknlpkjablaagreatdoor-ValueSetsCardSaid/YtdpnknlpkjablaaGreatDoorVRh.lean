/- Whether a value is right. -/
import Derived.Test.YtdpnknlpkjablaaGreatDoorVFn
import Derived.Test.YtdpnknlpkjablaaGreatDoorInf
import Derived.Deep.DeepCutAuto
import Derived.StillTailTactics
namespace Go.Proofs.YtdpnknlpkjablaaGreatDoor
open Go.RowKit Go.Shelf
attribute [local go_sem] run_bits64 run_frombits64 store_flt

theorem empty_of_size {t : ByteArray} (h : t.size = 0) : t = ⟨#[]⟩ := by
  cases t with
  | mk data => congr 1; exact Array.eq_empty_of_size_eq_zero h
theorem size_ne {t : ByteArray} (h : t ≠ ⟨#[]⟩) : t.size ≠ 0 := fun e => h (empty_of_size e)
theorem toList_ne {t : ByteArray} (h : t ≠ ⟨#[]⟩) : (([] : List UInt8) == t.toList) = false := by
  have : ((⟨#[]⟩ : ByteArray).toList == t.toList) = false := eqs_false.2 (fun e => h e.symm)
  simpa using this
/-- What right tells of a value of so many levels. -/
def RightAt (d : Nat) : Prop := ∀ {v : V} {r f : Value} {w : World} (deep : Nat), deep ≤ 32 → VI d w v r f →
    Calls Tryz.prog 31 #[.agg #[.int .i64 v.kind, .int .i64 v.int, .float .f64 v.flt, .string v.text, r, f], .int .i64 (deep : Int)] w fun e w' => e = .returned (.bool (rightP d deep v)) ∧ Below w.heap.size w w'

end Go.Proofs.YtdpnknlpkjablaaGreatDoor
