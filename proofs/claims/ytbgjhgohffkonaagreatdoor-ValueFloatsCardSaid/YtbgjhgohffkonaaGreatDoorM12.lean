/- internal/strconv.shortFloat[float64] in every case; the bounds of its answer; digits without noughts. -/
import Derived.Test.YtbgjhgohffkonaaGreatDoorFmtG
import Derived.Test.YtbgjhgohffkonaaGreatDoorFmtS
import Derived.Test.YtbgjhgohffkonaaGreatDoorM03
import Derived.Test.YtbgjhgohffkonaaGreatDoorFmtE
import Derived.Test.YtbgjhgohffkonaaGreatDoorFmtF
import Derived.Deep.RegionWith
import Derived.Lib.SmallJoins
namespace Go.Proofs.YtbgjhgohffkonaaGreatDoor
open Go.RowKit Go.Shelf Go.Sort
set_option linter.unusedSimpArgs false
set_option linter.unusedVariables false
theorem pwR_hi_all : (Go.Pinned.pow10Rows).all (fun x => Nat.ble 9223372036854775808 x.1) = true := by kernel_rfl
theorem pwR_len : (Go.Pinned.pow10Rows).length = 696 := by kernel_rfl
theorem pwR_hi {i : Nat} (h : i < 696) : 9223372036854775808 ≤ (pwR i).1 := by
  have hl := pwR_len
  obtain ⟨x, hx⟩ : ∃ x, (Go.Pinned.pow10Rows)[i]? = some x := ⟨_, List.getElem?_eq_getElem (by omega)⟩
  have hm : x ∈ Go.Pinned.pow10Rows := List.mem_of_getElem? hx
  have := List.all_eq_true.1 pwR_hi_all x hm
  unfold pwR
  rw [hx]
  exact Nat.le_of_ble_eq_true this
theorem uscN_ge {x h l s : Nat} (hx : 4611686018427387904 ≤ x) (hh : 9223372036854775808 ≤ h) (hx2 : x < 18446744073709551616) (hh2 : h < 18446744073709551616) (hs : s ≤ 58) : 7 ≤ uscN x h l s := by
  have h1 : 4611686018427387904 * 9223372036854775808 ≤ x * h := Nat.mul_le_mul hx hh
  have h2 : x * h < 18446744073709551616 * 18446744073709551616 := Nat.mul_lt_mul'' hx2 hh2
  obtain ⟨q, hq⟩ : ∃ q, x * h / 18446744073709551616 = q := ⟨_, rfl⟩
  have hq1 : 2305843009213693952 ≤ q := by rw [← hq, Nat.le_div_iff_mul_le (by decide)]; omega
  have hq2 : q < 18446744073709551616 := by rw [← hq, Nat.div_lt_iff_lt_mul (by decide)]; omega
  have hp : 2 ^ s ≤ 288230376151711744 := Nat.pow_le_pow_right (show 1 ≤ 2 by decide) hs
  have hp0 : 0 < 2 ^ s := Nat.pos_of_ne_zero (by simp)
  have key : ∀ r, 2305843009213693951 ≤ r → ∀ b, 7 ≤ r / 2 ^ s ||| b := fun r hr b => by
    refine Nat.le_trans ?_ Nat.left_le_or
    rw [Nat.le_div_iff_mul_le hp0]
    omega
  unfold uscN
  rw [hq]
  split
  · exact key q (by omega) _
  · refine key _ ?_ _
    split <;> omega
theorem sfR_bd {m i s mn mx odd : Nat} (h1 : 7 ≤ uscN mn (pwR i).1 (pwR i).2 s) (h1' : uscN mn (pwR i).1 (pwR i).2 s < 1152921504606846976) (h2 : 7 ≤ uscN mx (pwR i).1 (pwR i).2 s) (h2' : uscN mx (pwR i).1 (pwR i).2 s < 1152921504606846976)
    (h3 : 7 ≤ uscN m (pwR i).1 (pwR i).2 s) (h3' : uscN m (pwR i).1 (pwR i).2 s < 1152921504606846976) (ho : odd ≤ 1) (hi : i < 696) : 1 ≤ (sfR m i s mn mx odd).1 ∧ (sfR m i s mn mx odd).1 < 1152921504606846976 ∧ -347 ≤ (sfR m i s mn mx odd).2 ∧ (sfR m i s mn mx odd).2 ≤ 349 := by
  unfold sfR
  generalize uscN mn (pwR i).1 (pwR i).2 s = u1 at *
  generalize uscN mx (pwR i).1 (pwR i).2 s = u2 at *
  generalize uscN m (pwR i).1 (pwR i).2 s = u3 at *
  have hq : 6 ≤ nudN u2 odd ∧ nudN u2 odd < 1152921504606846976 := by unfold nudN; split <;> omega
  have hr : 1 ≤ rndN u3 ∧ rndN u3 < 1152921504606846976 := by unfold rndN; omega
  generalize nudN u2 odd = q at *
  generalize rndN u3 = r at *
  by_cases hc : (u1 + odd + 3) / 4 ≤ q / 4 / 10 * 10
  · rw [if_pos hc]
    refine ⟨?_, ?_, ?_, ?_⟩
    · show 1 ≤ q / 4 / 10; omega
    · show q / 4 / 10 < _; omega
    · show _ ≤ 349 - (i : Int); omega
    · show 349 - (i : Int) ≤ _; omega
  · rw [if_neg hc]
    by_cases hd : (u1 + odd + 3) / 4 < q / 4
    · rw [if_pos hd]
      refine ⟨hr.1, hr.2, ?_, ?_⟩
      · show _ ≤ 348 - (i : Int); omega
      · show 348 - (i : Int) ≤ _; omega
    · rw [if_neg hd]
      refine ⟨?_, ?_, ?_, ?_⟩
      · show 1 ≤ (u1 + odd + 3) / 4; omega
      · show (u1 + odd + 3) / 4 < _; omega
      · show _ ≤ 348 - (i : Int); omega
      · show 348 - (i : Int) ≤ _; omega
/-- What m and e are, of a finite float. -/
def SfOK (m : Nat) (e : Int) : Prop := 9223372036854775808 ≤ m ∧ m < 18446744073709551616 ∧
  ((-1085 ≤ e ∧ e ≤ 960 ∧ m ≤ 18446744073709549568) ∨ (-1137 ≤ e ∧ e < -1085 ∧ m + 2 ^ (-1075 - e).toNat < 18446744073709551616))
theorem short_any {w : World} {B m : Nat} {e : Int} (hG : PwG B w) (hB : B ≤ w.heap.size) (h : SfOK m e) :
    Calls Tryz.prog 93 #[.int .u64 m, .int .i64 e] w fun en w' => en = .returned (.tuple #[.int .u64 (shortP m e).1, .int .i64 (shortP m e).2]) ∧ Below w.heap.size w w' := by
  obtain ⟨h1, h2, ⟨h3, h4, h5⟩ | ⟨h3, h4, h5⟩⟩ := h
  · by_cases hm : m = 9223372036854775808
    · by_cases he : -1085 < e
      · exact short_A hG hB hm he h4
      · exact short_B2 hG hB hm (by omega) h3 h4
    · exact short_B hG hB (by omega) h2 h5 h3 h4
  · exact short_C hG hB h1 h2 h5 h3 h4
theorem short_bd {m : Nat} {e : Int} (h : SfOK m e) : 1 ≤ (shortP m e).1 ∧ (shortP m e).1 < 1152921504606846976 ∧ -347 ≤ (shortP m e).2 ∧ (shortP m e).2 ≤ 349 := by
  obtain ⟨h1, h2, h3⟩ := h
  have hodd : sfOdd m e ≤ 1 := by unfold sfOdd; split <;> omega
  have hmn : 4611686018427387904 ≤ sfMn m e ∧ sfMn m e < 18446744073709551616 := by
    unfold sfMn
    split
    · omega
    · split
      · omega
      · rename_i hc
        have hk : 2 ^ (-1075 - e).toNat ≤ 4611686018427387904 := Nat.pow_le_pow_right (show 1 ≤ 2 by decide) (show (-1075 - e).toNat ≤ 62 by omega)
        generalize 2 ^ (-1075 - e).toNat = K at *
        omega
  have hmx : 4611686018427387904 ≤ sfMx m e ∧ sfMx m e < 18446744073709551616 := by
    unfold sfMx
    generalize 2 ^ (-1075 - e).toNat = K at *
    split
    · omega
    · split
      · omega
      · omega
  have his : sfI m e < 696 ∧ 4 ≤ sfS m e ∧ sfS m e ≤ 58 := by
    unfold sfS sfI
    split
    · omega
    · split
      · omega
      · omega
  have hp := pwR_hi his.1
  have hl := pwR_lt (sfI m e)
  exact sfR_bd (uscN_ge hmn.1 hp hmn.2 hl.1 his.2.2) (uscS_lt hmn.2 hl.1 his.2.1) (uscN_ge hmx.1 hp hmx.2 hl.1 his.2.2) (uscS_lt hmx.2 hl.1 his.2.1) (uscN_ge (by omega) hp h2 hl.1 his.2.2) (uscS_lt h2 hl.1 his.2.1) hodd his.1
theorem stripZ_len (l : List UInt8) : (stripZ l).length ≤ l.length := by
  unfold stripZ
  rw [List.length_reverse]
  exact Nat.le_trans (List.Sublist.length_le (List.dropWhile_sublist _)) (by rw [List.length_reverse]; exact Nat.le_refl _)
theorem stripZ_pos : ∀ (n d : Nat), d ≤ n → 1 ≤ d → 1 ≤ (stripZ (Lib.decDigits d)).length
  | 0, d, h, h1 => by omega
  | n + 1, d, h, h1 => by
    rw [Lib.decDigits]
    split
    · rename_i h10
      have hne : UInt8.ofNat (48 + d) ≠ 48 := by
        intro e
        have := congrArg UInt8.toNat e
        rw [UInt8.toNat_ofNat'] at this
        have h48 : (48 : UInt8).toNat = 48 := rfl
        omega
      rw [show [UInt8.ofNat (48 + d)] = [] ++ [UInt8.ofNat (48 + d)] from rfl, stripZ_no hne]
      simp
    · rename_i h10
      by_cases hz : UInt8.ofNat (48 + d % 10) = 48
      · rw [hz, stripZ_48]
        exact stripZ_pos n (d / 10) (by omega) (by omega)
      · rw [stripZ_no hz]
        simp
end Go.Proofs.YtbgjhgohffkonaaGreatDoor

/- internal/strconv.ftoa64 at -1: the walk. -/
namespace Go.Proofs.YtbgjhgohffkonaaGreatDoor
open Go.RowKit Go.Shelf Go.Sort
set_option linter.unusedSimpArgs false
set_option linter.unusedVariables false
def ftE (b : Nat) : Nat := b / 4503599627370496 % 2048
def ftM (b : Nat) : Nat := if ftE b = 0 then b % 4503599627370496 else b % 4503599627370496 + 4503599627370496
def ftX (b : Nat) : Int := if ftE b = 0 then -1022 else (ftE b : Int) - 1023
def ftS (b : Nat) : Nat := 64 - Lib.bitLen (ftM b)
def ftW (b : Nat) : Nat := ftM b * 2 ^ ftS b
def ftP (b : Nat) : Nat × Int := shortP (ftW b) (ftX b - ftS b - 52)
def ftD (b : Nat) : List UInt8 := stripZ (Lib.decDigits (ftP b).1)
def ftQ (b : Nat) : Int := (Lib.nDigits (ftP b).1 : Nat) + (ftP b).2
def ftN (b : Nat) : Bool := decide (9223372036854775808 ≤ b)
theorem ft_ok {b : Nat} (hb : b < 18446744073709551616) (hE : ftE b ≠ 2047) (hM : ftM b ≠ 0) :
    1 ≤ Lib.bitLen (ftM b) ∧ Lib.bitLen (ftM b) ≤ 53 ∧ ftW b < 18446744073709551616 ∧ SfOK (ftW b) (ftX b - ftS b - 52) := by
  have hM2 : ftM b < 9007199254740992 := by unfold ftM; split <;> omega
  obtain ⟨h1, h2, h3⟩ := Lib.bitLenAux_bounds 64 (ftM b) (by omega) hM
  have hS : Lib.bitLen (ftM b) = Lib.bitLenAux 64 (ftM b) := rfl
  rw [← hS] at h1 h2 h3
  obtain ⟨L, hL⟩ : ∃ L, Lib.bitLen (ftM b) = L + 1 := ⟨_, (Nat.sub_add_cancel h1).symm⟩
  rw [hL] at h1 h2 h3
  rw [Nat.add_sub_cancel] at h2
  have hL53 : L ≤ 52 := by
    by_cases h : L ≤ 52
    · exact h
    · exfalso
      have : 2 ^ 53 ≤ 2 ^ L := Nat.pow_le_pow_right (by decide) (by omega)
      omega
  have hSS : ftS b = 63 - L := by unfold ftS; rw [hL]; omega
  have hp : 2 ^ (63 - L) * 2 ^ L = 9223372036854775808 := by rw [← Nat.pow_add]; show 2 ^ (63 - L + L) = 2 ^ 63; congr 1; omega
  have hp2 : 2 ^ (63 - L) * 2 ^ (L + 1) = 18446744073709551616 := by rw [← Nat.pow_add]; show 2 ^ (63 - L + (L + 1)) = 2 ^ 64; congr 1; omega
  have hW1 : 9223372036854775808 ≤ ftW b := by
    unfold ftW; rw [hSS, ← hp, Nat.mul_comm]; exact Nat.mul_le_mul_right _ h2
  have hW2 : ftW b + 2 ^ (63 - L) ≤ 18446744073709551616 := by
    unfold ftW; rw [hSS, ← hp2, Nat.mul_comm (2 ^ (63 - L)), ← Nat.succ_mul]
    exact Nat.mul_le_mul_right _ h3
  have hpp : 0 < 2 ^ (63 - L) := Nat.pos_of_ne_zero (by simp)
  refine ⟨by omega, by omega, by omega, hW1, by omega, ?_⟩
  by_cases hE0 : ftE b = 0
  · by_cases hL52 : L = 52
    · exfalso
      subst hL52
      have : ftM b < 4503599627370496 := by unfold ftM; rw [if_pos hE0]; omega
      omega
    · right
      have hX : ftX b = -1022 := by unfold ftX; rw [if_pos hE0]
      rw [hX, hSS]
      refine ⟨by omega, by omega, ?_⟩
      rw [show (-1075 - (-1022 - ((63 - L : Nat) : Int) - 52)).toNat = 62 - L by omega]
      have : 2 ^ (62 - L) * 2 = 2 ^ (63 - L) := by rw [← Nat.pow_succ]; congr 1; omega
      omega
  · left
    have hM3 : 4503599627370496 ≤ ftM b := by unfold ftM; rw [if_neg hE0]; omega
    have hL52 : L = 52 := by
      by_cases h : L = 52
      · exact h
      · exfalso
        have : 2 ^ (L + 1) ≤ 2 ^ 52 := Nat.pow_le_pow_right (by decide) (by omega)
        omega
    subst hL52
    have hEb : ftE b < 2048 := Nat.mod_lt _ (by decide)
    have hX : ftX b = (ftE b : Int) - 1023 := by unfold ftX; rw [if_neg hE0]
    rw [hX, hSS]
    refine ⟨by omega, by omega, ?_⟩
    have : (2 : Nat) ^ (63 - 52) = 2048 := rfl
    omega
end Go.Proofs.YtbgjhgohffkonaaGreatDoor

