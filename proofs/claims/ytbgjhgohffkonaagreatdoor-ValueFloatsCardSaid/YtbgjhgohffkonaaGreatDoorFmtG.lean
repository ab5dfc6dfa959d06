/- internal/strconv.setDigits: the walk. -/
import Derived.Test.YtbgjhgohffkonaaGreatDoorM07
import Derived.Lib.ItoaMem
import Derived.Lib.ItoaLen
import Derived.Lib.OwnBridge
namespace Go.Proofs.YtbgjhgohffkonaaGreatDoor
open Go.RowKit Go.Shelf Go.Sort
set_option linter.unusedSimpArgs false
set_option linter.unusedVariables false
/-- Without noughts at the end. -/
def stripZ (l : List UInt8) : List UInt8 := (l.reverse.dropWhile (· == 48)).reverse
theorem stripZ_48 (l : List UInt8) : stripZ (l ++ [48]) = stripZ l := by simp [stripZ]
theorem stripZ_no {l : List UInt8} {b : UInt8} (h : b ≠ 48) : stripZ (l ++ [b]) = l ++ [b] := by simp [stripZ, h]
theorem stripZ_nil : stripZ [] = [] := rfl
theorem dig_read {w w' : World} {bb n v' : Nat} {d : Nat} {dk : Array UInt8} {D0 : Array UInt8} (hH : Holds (fun (b : UInt8) => Value.int .u8 (b.toNat : Int)) w bb 0 D0) (hs : D0.size = Lib.nDigits d) (hf : Lib.FmtInv D0.size d 0 v' dk)
    (hw : w' = (putRow (fun (b : UInt8) => Value.int .u8 (b.toNat : Int)) w bb 0 dk).drewN n) : ∀ (j : Nat) (b : UInt8), (Lib.decDigits d)[j]? = some b → w'.cell? ⟨bb, j, none⟩ = some (.int .u8 b.toNat) := by
  intro j b hj
  subst hw
  obtain ⟨hlt, hb⟩ := List.getElem?_eq_some_iff.1 hj
  have hl := Lib.decDigits_length d
  rw [World.cell?_drewN]
  have h1 := cell?_putRow (fun (b : UInt8) => Value.int .u8 (b.toNat : Int)) w bb 0 D0 dk hH hf.size j (by rw [hf.size]; omega)
  rw [Nat.zero_add] at h1
  rw [h1]
  rw [hs] at hf
  have h2 := Lib.row_is_numeral hf j hlt
  rw [← hb, h2]
theorem nd_range {d : Nat} (h2 : d < 9223372036854775808) : 1 ≤ Lib.nDigits d ∧ Lib.nDigits d ≤ 20 := by
  refine ⟨?_, Lib.nDigits_le20 d (by omega)⟩
  by_cases h : d < 10
  · rw [Lib.nDigits_small h]; omega
  · rw [Lib.nDigits_big h]; omega
set_option maxHeartbeats 1000000 in
set_option maxRecDepth 100000 in
theorem setDig_any {w : World} {bb d : Nat} {p : Int} (h1 : 1 ≤ d) (h2 : d < 9223372036854775808) (hp1 : -1000 ≤ p) (hp2 : p ≤ 1000) (hb : bb < w.heap.size) (hz : ∀ j, j < 32 → w.cell? ⟨bb, j, none⟩ = some (.int .u8 0) ∧ w.frozen? ⟨bb, j, none⟩ = false) :
    Calls Tryz.prog 87 #[.slice (some ⟨bb, 0, none⟩) 32 32, .int .u64 d, .int .i64 p, .int .i64 (Lib.nDigits d : Nat)] w fun e w' =>
      e = .returned (.tuple #[.int .i64 ((Lib.nDigits d : Nat) + p), .int .i64 ((stripZ (Lib.decDigits d)).length : Nat)]) ∧ (∀ (j : Nat) (b : UInt8), (stripZ (Lib.decDigits d))[j]? = some b → w'.cell? ⟨bb, j, none⟩ = some (.int .u8 b.toNat)) ∧ Below bb w w' ∧ w'.heap.size = w.heap.size := by
  obtain ⟨nd, hnd⟩ : ∃ nd, Lib.nDigits d = nd := ⟨_, rfl⟩
  have hn19 : 1 ≤ nd ∧ nd ≤ 20 := by rw [← hnd]; exact nd_range h2
  have HH : Holds (fun (b : UInt8) => Value.int .u8 (b.toNat : Int)) w bb 0 (Array.replicate nd (0 : UInt8)) := fun j hj => by
    rw [Array.size_replicate] at hj
    have := hz j (by omega)
    rw [Nat.zero_add, getElem!_pos _ j (by rw [Array.size_replicate]; exact hj), Array.getElem_replicate]
    exact this
  have HFB := Lib.hid (Tryz.internal_strconv_formatBase10 bb 0 32 d (Array.replicate nd (0 : UInt8)) w HH (by rw [Array.size_replicate, ← hnd]; exact Lib.lt_pow_nDigits d) (by omega) (by rw [Array.size_replicate]; omega))
  rw [Array.size_replicate] at HFB
  obtain ⟨L, hL⟩ : ∃ L, Lib.decDigits d = L := ⟨_, rfl⟩
  have hLl : L.length = nd := by rw [← hL, ← hnd]; exact Lib.decDigits_length d
  have HRD := Lib.hid (fun (w' : World) (n v' : Nat) (dk : Array UInt8) (hf : Lib.FmtInv (Array.replicate nd (0 : UInt8)).size d 0 v' dk) (hw : w' = (putRow (fun (b : UInt8) => Value.int .u8 (b.toNat : Int)) w bb 0 dk).drewN n) => dig_read HH (by rw [Array.size_replicate, hnd]) hf hw)
  rw [Array.size_replicate] at HRD
  rw [hL] at HRD ⊢
  rw [hnd]
  have HLL := Lib.hid hLl
  clear hnd hL hLl hz HH
  go_enter Tryz.func87, Tryz.ntmps87
  go_wp2_with fail
  refine HFB.out.mono ?_
  rintro e w1 ⟨rfl, n, v', dk, hw1, hf⟩
  have hrd := HRD.out w1 n v' dk hf hw1
  have hB1 : Below bb w w1 := by rw [hw1]; exact below_drewN (Lib.below_putRow (q := 0) (Below.refl bb w) (Nat.le_refl _)) _
  have hs1 : w1.heap.size = w.heap.size := by rw [hw1]; simp
  clear hw1 hf HFB HRD
  go_wp2_with fail
  go_loopw [3] (fun nv wr => ∃ k : Nat, k ≤ nd ∧ nv = .int .i64 (k : Int) ∧ stripZ (L.take k) = stripZ L ∧ wr = w1) (fun nv _ => (intOf nv).toNat)
  case atStart => exact ⟨nd, Nat.le_refl _, rfl, by rw [List.take_of_length_le (by rw [HLL.out]; exact Nat.le_refl _)], rfl⟩
  case round =>
    obtain ⟨k, hk, rfl, hst, rfl⟩ := hrel
    have HST := Lib.hid hst
    clear hst
    cases k with
    | zero =>
      go_wp2_with fail
      go_ret2
      have e : stripZ L = [] := by rw [← HST.out]; rfl
      rw [e]
      exact ⟨rfl, fun j b hj => by simp at hj, hB1, hs1⟩
    | succ k =>
      obtain ⟨b, hb2⟩ : ∃ b, L[k]? = some b := ⟨L[k]'(by have := HLL.out; omega), List.getElem?_eq_getElem _⟩
      have hc := hrd k b hb2
      have htk : L.take (k + 1) = L.take k ++ [b] := by rw [List.take_add_one, hb2]; rfl
      have HTK := Lib.hid htk
      have hk32 : k < 32 := by omega
      have hkI : (k : Int) < 32 := by omega
      clear htk hb2
      by_cases hb48 : b = 48
      · subst hb48
        have hst2 : Hid (stripZ (L.take k) = stripZ L) := Lib.hid (by rw [← HST.out, HTK.out, stripZ_48])
        go_wp2_with fail
        go_roundw
        case rel => exact ⟨k, by omega, by go_num, hst2.out, trivial⟩
        case measure => simp [intOf]
      · have hne : ((b.toNat : Int) == 48) = false := by
          rw [beq_eq_false_iff_ne]
          intro e
          exact hb48 (UInt8.toNat_inj.1 (by first | (show b.toNat = 48; omega) | (show b.toNat = 48)))
        have hst2 : Hid (stripZ L = L.take (k + 1)) := Lib.hid (by rw [← HST.out, HTK.out, stripZ_no hb48])
        clear hb48
        go_wp2_with fail
        go_ret2
        rw [hst2.out]
        have hl : (L.take (k + 1)).length = k + 1 := by rw [List.length_take, HLL.out]; omega
        rw [hl]
        refine ⟨rfl, fun j c hj => ?_, hB1, hs1⟩
        rw [List.getElem?_take] at hj
        split at hj
        · exact hrd j c hj
        · cases hj
end Go.Proofs.YtbgjhgohffkonaaGreatDoor

