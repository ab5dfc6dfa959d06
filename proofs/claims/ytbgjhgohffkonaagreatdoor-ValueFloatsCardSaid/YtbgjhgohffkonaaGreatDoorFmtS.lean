/- The shortest digits of a float: the walk, as a plain function of its bits. -/
import Derived.Test.YtbgjhgohffkonaaGreatDoorFltP
import Derived.Test.YtbgjhgohffkonaaGreatDoorFltQ
namespace Go.Proofs.YtbgjhgohffkonaaGreatDoor
open Go.RowKit
set_option linter.unusedSimpArgs false
set_option linter.unusedVariables false
attribute [local go_sem] run_frombits
set_option maxHeartbeats 1000000 in
set_option maxRecDepth 100000 in
theorem uscaleS_any {w : World} {g : Nat} {x h l s : Nat} (hx : x < 18446744073709551616) (hh : h < 18446744073709551616) (hl : l < 18446744073709551616) (h8 : 1 ≤ s) (h63 : s < 64)
    (hg : w.heap[g]? = some (.cells #[.int .u64 (h : Nat), .int .u64 (l : Nat), .int .i64 (s : Nat)] 196 (0, 0))) :
    Calls Tryz.prog 134 #[.int .u64 x, .pointer (some ⟨g, 0, none⟩)] w fun en w' => en = .returned (.int .u64 (uscN x h l s : Nat)) ∧ ∃ n, w' = w.drewN n := by
  have c0 : w.cell? ⟨g, 0, none⟩ = some (.int .u64 (h : Nat)) := block_cell hg rfl
  have c1 : w.cell? ⟨g, 1, none⟩ = some (.int .u64 (l : Nat)) := block_cell hg rfl
  have c2 : w.cell? ⟨g, 2, none⟩ = some (.int .i64 (s : Nat)) := block_cell hg rfl
  have hH := hi_lt hx hh
  have hL := hi_lt hx hl
  have hM : x * h % 18446744073709551616 < 18446744073709551616 := Nat.mod_lt _ (by decide)
  have HMH := Lib.hid (fun w => Tryz.bits_Mul64 x h hx hh w)
  have HML := Lib.hid (fun w => Tryz.bits_Mul64 x l hx hl w)
  have hs63 : bits .and .i64 ((s : Nat) : Int) 63 = ((s : Nat) : Int) := by
    have : ∀ n : Fin 64, bits .and .i64 ((n.val : Nat) : Int) 63 = ((n.val : Nat) : Int) := by decide
    exact this ⟨s, h63⟩
  obtain ⟨P, hP⟩ : ∃ P : Nat, P = 2 ^ s := ⟨_, rfl⟩
  have hPI : (2 : Int) ^ s = (P : Int) := by rw [hP]; simp
  have hP8 : 2 ≤ P := by rw [hP]; exact Nat.pow_le_pow_right (show 1 ≤ 2 by decide) h8
  have HU : Hid (uscN x h l s = if x * h / 18446744073709551616 / P * P ≠ x * h / 18446744073709551616 then x * h / 18446744073709551616 / P ||| 1
    else ((if x * h % 18446744073709551616 < x * l / 18446744073709551616 then (x * h / 18446744073709551616 + 18446744073709551615) % 18446744073709551616 else x * h / 18446744073709551616) / P) |||
    (if 1 < (x * h % 18446744073709551616 + 18446744073709551616 - x * l / 18446744073709551616) % 18446744073709551616 then 1 else 0)) := Lib.hid (by rw [hP]; rfl)
  obtain ⟨U, hU⟩ : ∃ U, uscN x h l s = U := ⟨_, rfl⟩
  rw [hU] at HU ⊢
  clear hP hU
  generalize x * h / 18446744073709551616 = H at *
  generalize x * h % 18446744073709551616 = M at *
  generalize x * l / 18446744073709551616 = L at *
  generalize x * l % 18446744073709551616 = L2 at *
  have hdiv : (H : Int) / (P : Int) = ((H / P : Nat) : Int) := by simp
  have hle : H / P * P ≤ H := Nat.div_mul_le_self H P
  have hle2 : H / P ≤ H := Nat.div_le_self H P
  have hmulI : ((H / P : Nat) : Int) * (P : Int) = ((H / P * P : Nat) : Int) := by simp
  obtain ⟨Q, hQ⟩ : ∃ Q, H / P = Q := ⟨_, rfl⟩
  obtain ⟨R, hR⟩ : ∃ R, H / P * P = R := ⟨_, rfl⟩
  rw [hR] at hmulI hle HU
  rw [hQ] at hdiv hmulI hle2 HU
  by_cases hne : R ≠ H
  · have hneI : ((R : Int) != (H : Int)) = true := by simp; omega
    have hor := u64_or_nat Q 1 (by omega) (by decide)
    rw [show ((1 : Nat) : Int) = 1 from rfl] at hor
    have HE : Hid (U = Q ||| 1) := Lib.hid (by rw [HU.out, if_pos hne])
    clear HU hQ hR hne
    go_enter Tryz.func134, Tryz.ntmps134
    go_wp2_with fail
    refine (HMH.out _).mono ?_
    rintro e w2 ⟨rfl, rfl⟩
    go_wp2_with fail
    go_ret
    exact ⟨by rw [HE.out]; rfl, 0, rfl⟩
  · have hneI : ((R : Int) != (H : Int)) = false := by simp; omega
    have HE : Hid (U = ((if M < L then (H + 18446744073709551615) % 18446744073709551616 else H) / P) ||| (if 1 < (M + 18446744073709551616 - L) % 18446744073709551616 then 1 else 0)) := Lib.hid (by rw [HU.out, if_neg hne])
    clear HU hQ hR hne
    have HB := Lib.hid bool2_any
    obtain ⟨D, hD⟩ : ∃ D, (M + 18446744073709551616 - L) % 18446744073709551616 = D := ⟨_, rfl⟩
    have hDI : IntKind.u64.wrap ((M : Int) - (L : Int)) = ((D : Nat) : Int) := by
      rw [← hD]
      simp [IntKind.wrap, IntKind.bits, IntKind.signed]
      omega
    have hDl : D < 18446744073709551616 := by rw [← hD]; exact Nat.mod_lt _ (by decide)
    rw [hD] at HE
    obtain ⟨H2, hH2⟩ : ∃ H2, (if M < L then (H + 18446744073709551615) % 18446744073709551616 else H) = H2 := ⟨_, rfl⟩
    rw [hH2] at HE
    have hH2l : H2 < 18446744073709551616 := by
      rw [← hH2]
      split
      · exact Nat.mod_lt _ (by decide)
      · exact hH
    have hHI : ∀ b : Bool, b = decide (M < L) → IntKind.u64.wrap ((H : Int) - (if b = true then 1 else 0)) = ((H2 : Nat) : Int) := by
      intro b hb
      subst hb
      rw [← hH2]
      by_cases hlt : M < L
      · simp [hlt, IntKind.wrap, IntKind.bits, IntKind.signed]
        omega
      · simp [hlt, IntKind.wrap, IntKind.bits, IntKind.signed]
        omega
    have HHI := Lib.hid hHI
    have HQ2 : (H2 : Int) / (P : Int) = ((H2 / P : Nat) : Int) := by simp
    obtain ⟨Q2, hQ2⟩ : ∃ Q2, H2 / P = Q2 := ⟨_, rfl⟩
    have hQ2l : Q2 < 18446744073709551616 := by rw [← hQ2]; exact Nat.lt_of_le_of_lt (Nat.div_le_self _ _) hH2l
    rw [hQ2] at HQ2 HE
    have hH2f : ¬ M < L → H2 = H := fun h => by rw [← hH2, if_neg h]
    clear hHI hQ2 hD hH2
    have HBQ : Hid (∀ (b : Bool) (w : World) (n : Nat), Calls Tryz.prog 106 #[.bool b] (w.drewN n) fun e w' => e = .returned (.int .u64 (if b then 1 else 0)) ∧ ∃ n, w' = w.drewN n) := Lib.hid fun b w n =>
      (bool2_any b (w.drewN n)).mono fun _ _ ⟨h1, h2⟩ => ⟨h1, n, h2.symm⟩
    by_cases hML : M < L
    · have hb1 : IntKind.u64.wrap ((H : Int) - 1) = ((H2 : Nat) : Int) := HHI.out true (by simp [hML])
      have hMLI : (M : Int) < (L : Int) := by omega
      clear hML HHI
      by_cases hD1 : 1 < D
      · skip
        have hDI1 : (1 : Int) < (D : Int) := by omega
        have hor := u64_or_nat Q2 1 (by omega) (by decide)
        rw [show ((1 : Nat) : Int) = 1 from rfl] at hor
        have HE2 : Hid (U = Q2 ||| 1) := Lib.hid (by rw [HE.out, if_pos hD1])
        clear HE hD1
        go_enter Tryz.func134, Tryz.ntmps134
        go_wp2_with fail
        refine (HMH.out _).mono ?_
        rintro e w2 ⟨rfl, rfl⟩
        go_wp2_with fail
        refine (HML.out _).mono ?_
        rintro e w3 ⟨rfl, rfl⟩
        go_wp2_with fail
        refine (HB.out _ _).mono ?_
        rintro e w4 ⟨rfl, rfl⟩
        go_wp2_with fail
        go_quiet ((go_at_call 106; exact HBQ.out _ _ _))
        go_wp2_with fail
        all_goals first
          | (exfalso; omega)
          | (go_ret; exact ⟨by rw [HE2.out]; rfl, _, rfl⟩)
      · skip
        have hDI1 : ¬ ((1 : Int) < (D : Int)) := by omega
        have hor := u64_or_nat Q2 0 (by omega) (by decide)
        rw [show ((0 : Nat) : Int) = 0 from rfl, Nat.or_zero] at hor
        have HE2 : Hid (U = Q2) := Lib.hid (by rw [HE.out, if_neg hD1, Nat.or_zero])
        clear HE hD1
        go_enter Tryz.func134, Tryz.ntmps134
        go_wp2_with fail
        refine (HMH.out _).mono ?_
        rintro e w2 ⟨rfl, rfl⟩
        go_wp2_with fail
        refine (HML.out _).mono ?_
        rintro e w3 ⟨rfl, rfl⟩
        go_wp2_with fail
        refine (HB.out _ _).mono ?_
        rintro e w4 ⟨rfl, rfl⟩
        go_wp2_with fail
        go_quiet ((go_at_call 106; exact HBQ.out _ _ _))
        go_wp2_with fail
        all_goals first
          | (exfalso; omega)
          | (go_ret; exact ⟨by rw [HE2.out]; rfl, _, rfl⟩)
    · have hb1 : H2 = H := by rw [hH2f hML]
      have hq2 : Q2 = Q := by
        have := HQ2
        rw [hb1, hdiv] at this
        omega
      clear HQ2 hb1
      subst hq2
      have hMLI : ¬ ((M : Int) < (L : Int)) := by omega
      clear hML HHI
      by_cases hD1 : 1 < D
      · skip
        have hDI1 : (1 : Int) < (D : Int) := by omega
        have hor := u64_or_nat Q2 1 (by omega) (by decide)
        rw [show ((1 : Nat) : Int) = 1 from rfl] at hor
        have HE2 : Hid (U = Q2 ||| 1) := Lib.hid (by rw [HE.out, if_pos hD1])
        clear HE hD1
        go_enter Tryz.func134, Tryz.ntmps134
        go_wp2_with fail
        refine (HMH.out _).mono ?_
        rintro e w2 ⟨rfl, rfl⟩
        go_wp2_with fail
        refine (HML.out _).mono ?_
        rintro e w3 ⟨rfl, rfl⟩
        go_wp2_with fail
        refine (HB.out _ _).mono ?_
        rintro e w4 ⟨rfl, rfl⟩
        go_wp2_with fail
        go_quiet ((go_at_call 106; exact HBQ.out _ _ _))
        go_wp2_with fail
        all_goals first
          | (exfalso; omega)
          | (go_ret; exact ⟨by rw [HE2.out]; rfl, _, rfl⟩)
      · skip
        have hDI1 : ¬ ((1 : Int) < (D : Int)) := by omega
        have hor := u64_or_nat Q2 0 (by omega) (by decide)
        rw [show ((0 : Nat) : Int) = 0 from rfl, Nat.or_zero] at hor
        have HE2 : Hid (U = Q2) := Lib.hid (by rw [HE.out, if_neg hD1, Nat.or_zero])
        clear HE hD1
        go_enter Tryz.func134, Tryz.ntmps134
        go_wp2_with fail
        refine (HMH.out _).mono ?_
        rintro e w2 ⟨rfl, rfl⟩
        go_wp2_with fail
        refine (HML.out _).mono ?_
        rintro e w3 ⟨rfl, rfl⟩
        go_wp2_with fail
        refine (HB.out _ _).mono ?_
        rintro e w4 ⟨rfl, rfl⟩
        go_wp2_with fail
        go_quiet ((go_at_call 106; exact HBQ.out _ _ _))
        go_wp2_with fail
        all_goals first
          | (exfalso; omega)
          | (go_ret; exact ⟨by rw [HE2.out]; rfl, _, rfl⟩)
theorem orS_small {a b P : Nat} (ha : a < 18446744073709551616) (hb : b ≤ 1) (hP : 16 ≤ P) : a / P ||| b < 1152921504606846976 := by
  have h1 : a / P < 2 ^ 60 := by
    rw [Nat.div_lt_iff_lt_mul (by omega)]
    calc a < 2 ^ 60 * 16 := by omega
      _ ≤ 2 ^ 60 * P := Nat.mul_le_mul_left _ hP
  exact Nat.or_lt_two_pow h1 (by omega)
theorem uscS_lt {x h l s : Nat} (hx : x < 18446744073709551616) (hh : h < 18446744073709551616) (hs : 4 ≤ s) : uscN x h l s < 1152921504606846976 := by
  have hP : 16 ≤ 2 ^ s := Nat.pow_le_pow_right (show 1 ≤ 2 by decide) hs
  have hH := hi_lt hx hh
  unfold uscN
  generalize x * h / 18446744073709551616 = H at *
  split
  · exact orS_small hH (Nat.le_refl _) hP
  · refine orS_small ?_ ?_ hP
    · split
      · exact Nat.mod_lt _ (by decide)
      · exact hH
    · split <;> omega
set_option maxRecDepth 100000 in
theorem log10_any {x : Int} (h1 : -1000000 ≤ x) (h2 : x ≤ 1000000) (w : World) : Calls Tryz.prog 88 #[.int .i64 x] w fun e w' => e = .returned (.int .i64 (x * 78913 / 262144)) ∧ w = w' := by
  go_enter Tryz.func88, Tryz.ntmps88
  go_wp2_with fail
  go_ret
  exact ⟨rfl, rfl⟩
set_option maxRecDepth 100000 in
theorem skewed_any {x : Int} (h1 : -1000000 ≤ x) (h2 : x ≤ 1000000) (w : World) : Calls Tryz.prog 131 #[.int .i64 x] w fun e w' => e = .returned (.int .i64 ((x * 631305 - 261663) / 2097152)) ∧ w = w' := by
  go_enter Tryz.func131, Tryz.ntmps131
  go_wp2_with fail
  go_ret
  exact ⟨rfl, rfl⟩
def nudN (u odd : Nat) : Nat := (u + (if odd = 1 then 18446744073709551615 else 0)) % 18446744073709551616
set_option maxRecDepth 100000 in
theorem nudgeU_any {u odd : Nat} (h : u < 1152921504606846976) (hd : odd = 0 ∨ odd = 1) (w : World) : Calls Tryz.prog 135 #[.int .u64 u, .int .i64 (odd : Int)] w fun e w' => e = .returned (.int .u64 ((u + odd : Nat) : Int)) ∧ w = w' := by
  rcases hd with rfl | rfl
  all_goals
    go_enter Tryz.func135, Tryz.ntmps135
    go_wp2_with fail
    go_ret
    exact ⟨ret_int (by omega), rfl⟩
set_option maxRecDepth 100000 in
theorem nudgeD_any {u odd : Nat} (h : u < 1152921504606846976) (hd : odd = 0 ∨ odd = 1) (w : World) : Calls Tryz.prog 135 #[.int .u64 u, .int .i64 (-(odd : Int))] w fun e w' => e = .returned (.int .u64 (nudN u odd : Nat)) ∧ w = w' := by
  rcases hd with rfl | rfl
  · have e : nudN u 0 = u := by unfold nudN; rw [if_neg (by decide)]; omega
    rw [e]
    clear e
    go_enter Tryz.func135, Tryz.ntmps135
    go_wp2_with fail
    go_ret
    exact ⟨ret_int (by omega), rfl⟩
  · have e : IntKind.u64.wrap ((u : Int) + IntKind.u64.wrap (-1)) = ((nudN u 1 : Nat) : Int) := by
      unfold nudN
      simp [IntKind.wrap, IntKind.bits, IntKind.signed]
    have HE := Lib.hid e
    clear e
    go_enter Tryz.func135, Tryz.ntmps135
    go_wp2_with fail
    go_ret
    exact ⟨ret_int HE.out, rfl⟩
set_option maxRecDepth 100000 in
theorem ceil_any {u : Nat} (h : u < 1152921504606846977) (w : World) : Calls Tryz.prog 136 #[.int .u64 u] w fun e w' => e = .returned (.int .u64 ((u + 3) / 4 : Nat)) ∧ w = w' := by
  go_enter Tryz.func136, Tryz.ntmps136
  go_wp2_with fail
  go_ret
  exact ⟨ret_int (by omega), rfl⟩
set_option maxRecDepth 100000 in
theorem floor_any {u : Nat} (h : u < 18446744073709551616) (w : World) : Calls Tryz.prog 137 #[.int .u64 u] w fun e w' => e = .returned (.int .u64 (u / 4 : Nat)) ∧ w = w' := by
  go_enter Tryz.func137, Tryz.ntmps137
  go_wp2_with fail
  go_ret
  exact ⟨ret_int (by omega), rfl⟩
set_option maxRecDepth 100000 in
theorem roundS_any {u : Nat} (h : u < 1152921504606846976) (w : World) : Calls Tryz.prog 138 #[.int .u64 u] w fun e w' => e = .returned (.int .u64 (rndN u : Nat)) ∧ w = w' := by
  have hb : bits .and .u64 ((u : Int) / 4) 1 = ((u / 4 % 2 : Nat) : Int) := by
    have := u64_and_nat (u / 4) 1 (by omega) (by decide)
    rw [nat_mask1] at this
    exact this
  have h2 : (0 : Int) ≤ ((u / 4 % 2 : Nat) : Int) ∧ ((u / 4 % 2 : Nat) : Int) ≤ 1 := by omega
  have HR : Hid (rndN u = (u + 1 + u / 4 % 2) / 4) := Lib.hid rfl
  generalize u / 4 % 2 = b at *
  go_enter Tryz.func138, Tryz.ntmps138
  go_wp2_with fail
  go_ret
  refine ⟨?_, rfl⟩
  rw [HR.out]
  exact ret_int (by omega)
def sfR (m : Nat) (i s mn mx odd : Nat) : Nat × Int :=
  if (uscN mn (pwR i).1 (pwR i).2 s + odd + 3) / 4 ≤ nudN (uscN mx (pwR i).1 (pwR i).2 s) odd / 4 / 10 * 10 then (nudN (uscN mx (pwR i).1 (pwR i).2 s) odd / 4 / 10, 349 - (i : Int))
  else (if (uscN mn (pwR i).1 (pwR i).2 s + odd + 3) / 4 < nudN (uscN mx (pwR i).1 (pwR i).2 s) odd / 4 then rndN (uscN m (pwR i).1 (pwR i).2 s) else (uscN mn (pwR i).1 (pwR i).2 s + odd + 3) / 4, 348 - (i : Int))
def sfI (m : Nat) (e : Int) : Nat :=
  if m = 9223372036854775808 ∧ -1085 < e then (348 - ((e + 11) * 631305 - 261663) / 2097152).toNat
  else if -1085 ≤ e then (348 - (e + 11) * 78913 / 262144).toNat else 672
def sfS (m : Nat) (e : Int) : Nat := (-(e + ((sfI m e : Int) - 348) * 108853 / 32768 + 3)).toNat
def sfMn (m : Nat) (e : Int) : Nat := if m = 9223372036854775808 ∧ -1085 < e then m - 512 else if -1085 ≤ e then m - 1024 else m - 2 ^ (-1075 - e).toNat
def sfMx (m : Nat) (e : Int) : Nat := if m = 9223372036854775808 ∧ -1085 < e then m + 1024 else if -1085 ≤ e then m + 1024 else m + 2 ^ (-1075 - e).toNat
def sfOdd (m : Nat) (e : Int) : Nat := if -1085 ≤ e then m / 2048 % 2 else m / 2 ^ (-1074 - e).toNat % 2
def shortP (m : Nat) (e : Int) : Nat × Int := sfR m (sfI m e) (sfS m e) (sfMn m e) (sfMx m e) (sfOdd m e)
theorem sfA {e : Int} (h1 : -1137 ≤ e) (h2 : e ≤ 960) : 0 ≤ 348 - ((e + 11) * 631305 - 261663) / 2097152 ∧ 348 - ((e + 11) * 631305 - 261663) / 2097152 < 696 ∧ 4 ≤ -(e + (-(((e + 11) * 631305 - 261663) / 2097152)) * 108853 / 32768 + 3) ∧ -(e + (-(((e + 11) * 631305 - 261663) / 2097152)) * 108853 / 32768 + 3) < 64 := by
  omega
theorem sfB {e : Int} (h1 : -1085 ≤ e) (h2 : e ≤ 960) : 0 ≤ 348 - (e + 11) * 78913 / 262144 ∧ 348 - (e + 11) * 78913 / 262144 < 696 ∧ 4 ≤ -(e + (-((e + 11) * 78913 / 262144)) * 108853 / 32768 + 3) ∧ -(e + (-((e + 11) * 78913 / 262144)) * 108853 / 32768 + 3) < 64 := by
  omega
theorem and1_i64 (n : Int) : bits .and .i64 n 1 = n % 2 := by
  have h1 : (BitVec.ofInt 64 1).toNat = 2 ^ 1 - 1 := by decide
  have key : (BitVec.ofInt 64 n &&& BitVec.ofInt 64 1).toNat = (n % ((2 ^ 64 : Nat) : Int)).toNat % 2 ^ 1 := by
    rw [BitVec.toNat_and, BitVec.toNat_ofInt, h1, Nat.and_two_pow_sub_one_eq_mod]
  show IntKind.i64.wrap ((BitVec.ofInt 64 n &&& BitVec.ofInt 64 1).toNat : Nat) = n % 2
  rw [key, IntKind.wrap_i64]
  omega
theorem retU2 {a b c d : Int} (h : a = b) (h2 : c = d) : Ending.returned (Value.tuple #[.int .u64 a, .int .i64 c]) = .returned (.tuple #[.int .u64 b, .int .i64 d]) := by rw [h, h2]
set_option maxHeartbeats 1000000 in
set_option maxRecDepth 100000 in
theorem short_B {w : World} {B m : Nat} {e : Int} (hG : PwG B w) (hB : B ≤ w.heap.size) (hm1 : 9223372036854775808 < m) (hm2 : m < 18446744073709551616) (hm0 : m ≤ 18446744073709549568) (h1 : -1085 ≤ e) (h2 : e ≤ 960) :
    Calls Tryz.prog 93 #[.int .u64 m, .int .i64 e] w fun en w' => en = .returned (.tuple #[.int .u64 (shortP m e).1, .int .i64 (shortP m e).2]) ∧ Below w.heap.size w w' := by
  have hA : ¬ (m = 9223372036854775808 ∧ -1085 < e) := by omega
  have hmne : ((m : Int) == 9223372036854775808) = false := by simp; omega
  obtain ⟨b1, b2, b3, b4⟩ := sfB h1 h2
  obtain ⟨L, hL⟩ : ∃ L, (e + 11) * 78913 / 262144 = L := ⟨_, rfl⟩
  obtain ⟨i, hi⟩ : ∃ i, sfI m e = i := ⟨_, rfl⟩
  have hiI : (i : Int) = 348 - L := by
    rw [← hi, ← hL]
    unfold sfI
    rw [if_neg hA, if_pos h1]
    omega
  rw [hL] at b1 b2 b3 b4
  obtain ⟨s, hs⟩ : ∃ s, sfS m e = s := ⟨_, rfl⟩
  have hsI : (s : Int) = -(e + (-L) * 108853 / 32768 + 3) := by
    rw [← hs]
    unfold sfS
    rw [hi, show (i : Int) - 348 = -L by omega]
    omega
  have HLP := Lib.hid (show ((i : Int) - 348) * 108853 / 32768 = (-L) * 108853 / 32768 by rw [show (i : Int) - 348 = -L by omega])
  obtain ⟨lp, hlp⟩ : ∃ lp, (-L) * 108853 / 32768 = lp := ⟨_, rfl⟩
  rw [hlp] at HLP hsI b3 b4
  have hlp1 : -100000 ≤ lp ∧ lp ≤ 100000 := by omega
  have hneg : IntKind.i64.wrap (-L) = (i : Int) - 348 := by rw [IntWalk.i64_in _ (by omega)]; omega
  have hi696 : i < 696 := by omega
  have hs4 : 4 ≤ s := by omega
  have hs64 : s < 64 := by omega
  have HPS := Lib.hid (fun (W : World) {a b c : Value} (h : W.heap[w.heap.size]? = some (.cells #[a, b, c] 196 (0, 0))) (hb : Below w.heap.size w W) => prescale_any (PwG.keeps hB hb hG) hB h (e := e) (lp := lp) hi696 (by omega) (by omega) (by omega) (by omega))
  have hpw := pwR_lt i
  have HL10 := Lib.hid (fun W => log10_any (x := e + 11) (by omega) (by omega) W)
  rw [hL] at HL10
  obtain ⟨mn, hmn⟩ : ∃ mn, m - 1024 = mn := ⟨_, rfl⟩
  obtain ⟨mx, hmx⟩ : ∃ mx, m + 1024 = mx := ⟨_, rfl⟩
  obtain ⟨odd, hodd⟩ : ∃ odd, m / 2048 % 2 = odd := ⟨_, rfl⟩
  have hm3 : m ≤ 18446744073709549568 := hm0
  have emn : (m : Int) - 1024 = (mn : Int) := by omega
  have emx : (m : Int) + 1024 = (mx : Int) := by omega
  have hand : bits .and .i64 ((m : Int) / 2048) 1 = (odd : Int) := by rw [and1_i64]; omega
  have hod : odd = 0 ∨ odd = 1 := by omega
  have HSP : shortP m e = sfR m i s mn mx odd := by
    unfold shortP
    rw [hi, hs]
    unfold sfMn sfMx sfOdd
    rw [if_neg hA, if_pos h1, if_neg hA, if_pos h1, if_pos h1, hmn, hmx, hodd]
  unfold sfR at HSP
  generalize pwR i = pr at *
  clear hL hlp b1 b2 b3 b4 hi hs hA hG hm1
  obtain ⟨hU1, hU2, hU3⟩ : uscN mn pr.1 pr.2 s < 1152921504606846976 ∧ uscN mx pr.1 pr.2 s < 1152921504606846976 ∧ uscN m pr.1 pr.2 s < 1152921504606846976 := ⟨uscS_lt (by omega) hpw.1 hs4, uscS_lt (by omega) hpw.1 hs4, uscS_lt hm2 hpw.1 hs4⟩
  have HU1 := Lib.hid (fun (W : World) (g : Nat) (h : W.heap[g]? = some (.cells #[.int .u64 (pr.1 : Nat), .int .u64 (pr.2 : Nat), .int .i64 (s : Nat)] 196 (0, 0))) => uscaleS_any (x := mn) (by omega) hpw.1 hpw.2 (by omega) hs64 h)
  have HU2 := Lib.hid (fun (W : World) (g : Nat) (h : W.heap[g]? = some (.cells #[.int .u64 (pr.1 : Nat), .int .u64 (pr.2 : Nat), .int .i64 (s : Nat)] 196 (0, 0))) => uscaleS_any (x := mx) (by omega) hpw.1 hpw.2 (by omega) hs64 h)
  have HU3 := Lib.hid (fun (W : World) (g : Nat) (h : W.heap[g]? = some (.cells #[.int .u64 (pr.1 : Nat), .int .u64 (pr.2 : Nat), .int .i64 (s : Nat)] 196 (0, 0))) => uscaleS_any (x := m) hm2 hpw.1 hpw.2 (by omega) hs64 h)
  have HSH : Hid (shortP m e = if (uscN mn pr.1 pr.2 s + odd + 3) / 4 ≤ nudN (uscN mx pr.1 pr.2 s) odd / 4 / 10 * 10 then (nudN (uscN mx pr.1 pr.2 s) odd / 4 / 10, 349 - (i : Int))
    else (if (uscN mn pr.1 pr.2 s + odd + 3) / 4 < nudN (uscN mx pr.1 pr.2 s) odd / 4 then rndN (uscN m pr.1 pr.2 s) else (uscN mn pr.1 pr.2 s + odd + 3) / 4, 348 - (i : Int))) := Lib.hid HSP
  have HSS := Lib.hid (show -(e + lp + 3) = (s : Int) by omega)
  obtain ⟨P, hP⟩ : ∃ P, shortP m e = P := ⟨_, rfl⟩
  rw [hP] at HSH ⊢
  clear HSP hP
  generalize uscN mn pr.1 pr.2 s = u1 at *
  generalize uscN mx pr.1 pr.2 s = u2 at *
  generalize uscN m pr.1 pr.2 s = u3 at *
  have HN1 := Lib.hid (fun W => nudgeU_any hU1 hod W)
  have HC1 := Lib.hid (fun W => ceil_any (u := u1 + odd) (by omega) W)
  have HN2 := Lib.hid (fun W => nudgeD_any hU2 hod W)
  have hnl : nudN u2 odd < 18446744073709551616 := by unfold nudN; omega
  have HF2 := Lib.hid (fun W => floor_any hnl W)
  have HR3 := Lib.hid (fun W => roundS_any hU3 W)
  obtain ⟨dn, hdn⟩ : ∃ dn, (u1 + odd + 3) / 4 = dn := ⟨_, rfl⟩
  obtain ⟨dx, hdx⟩ : ∃ dx, nudN u2 odd / 4 = dx := ⟨_, rfl⟩
  rw [hdn] at HC1 HSH
  rw [hdx] at HF2 HSH
  have hdx2 : dx < 4611686018427387904 := by omega
  have hdn2 : dn < 4611686018427387904 := by omega
  have HR3L : rndN u3 < 4611686018427387904 := by unfold rndN; omega
  generalize rndN u3 = d3 at *
  have hpI : (i : Int) - 348 = (i : Int) - 348 := rfl
  have hneg1 : IntKind.i64.wrap (-((i : Int) - 348 - 1)) = 349 - (i : Int) := by rw [IntWalk.i64_in _ (by omega)]; omega
  have hneg2 : IntKind.i64.wrap (-((i : Int) - 348)) = 348 - (i : Int) := by rw [IntWalk.i64_in _ (by omega)]; omega
  clear hiI hsI hU1 hU2 hU3 hmn hmx hodd hdn hdx hnl hpI
  go_enter Tryz.func93, Tryz.ntmps93
  go_wp2_with fail
  refine (HL10.out _).mono ?_
  rintro en w1 ⟨rfl, rfl⟩
  go_wp2_with fail
  refine (log2_any (by omega) (by omega) _).mono ?_
  rintro en w1 ⟨rfl, rfl⟩
  rw [HLP.out]
  go_wp2_with fail
  refine (HPS.out _ (block_new _ _ rfl) ((Below.refl _ _).alloc (Nat.le_refl _) _)).mono ?_
  rintro en w2 ⟨⟨v, rfl⟩, hbk, hb2⟩
  rw [HSS.out] at hbk
  have hB2 : Below w.heap.size w w2 := ((Below.refl _ _).alloc (Nat.le_refl _) _).trans hb2
  clear hb2
  go_wp2_with fail
  refine (HU1.out _ _ hbk).mono ?_
  rintro en w3 ⟨rfl, n3, rfl⟩
  go_wp2_with fail
  refine (HN1.out _).mono ?_
  rintro en w4 ⟨rfl, rfl⟩
  go_wp2_with fail
  refine (HC1.out _).mono ?_
  rintro en w5 ⟨rfl, rfl⟩
  go_wp2_with fail
  have hbk3 : (w2.drewN n3).heap[w.heap.size]? = some (.cells #[.int .u64 (pr.1 : Nat), .int .u64 (pr.2 : Nat), .int .i64 (s : Nat)] 196 (0, 0)) := by simpa using hbk
  refine (HU2.out _ _ hbk3).mono ?_
  rintro en w6 ⟨rfl, n6, rfl⟩
  go_wp2_with fail
  refine (HN2.out _).mono ?_
  rintro en w7 ⟨rfl, rfl⟩
  go_wp2_with fail
  refine (HF2.out _).mono ?_
  rintro en w8 ⟨rfl, rfl⟩
  have hbk6 : (w2.drewN (n3 + n6)).heap[w.heap.size]? = some (.cells #[.int .u64 (pr.1 : Nat), .int .u64 (pr.2 : Nat), .int .i64 (s : Nat)] 196 (0, 0)) := by simpa using hbk
  by_cases hc1 : dn ≤ dx / 10 * 10
  · have hc1I : (dn : Int) ≤ (dx : Int) / 10 * 10 := by omega
    rw [if_pos hc1] at HSH
    clear hc1
    go_wp2_with fail
    go_ret2
    refine ⟨?_, below_drewN hB2 _⟩
    rw [HSH.out]
    exact retU2 (by omega) rfl
  · have hc1I : ¬ ((dn : Int) ≤ (dx : Int) / 10 * 10) := by omega
    rw [if_neg hc1] at HSH
    clear hc1
    by_cases hc2 : dn < dx
    · have hc2I : (dn : Int) < (dx : Int) := by omega
      rw [if_pos hc2] at HSH
      clear hc2
      go_wp2_with fail
      refine (HU3.out _ _ hbk6).mono ?_
      rintro en w9 ⟨rfl, n9, rfl⟩
      go_wp2_with fail
      refine (HR3.out _).mono ?_
      rintro en w10 ⟨rfl, rfl⟩
      go_wp2_with fail
      go_ret2
      refine ⟨?_, (by (repeat' (first | (with_reducible exact Below.refl _ _) | (with_reducible assumption) | (with_reducible refine below_drewN ?_ _) | (with_reducible refine Below.drew ?_) | (with_reducible refine Below.alloc ?_ ?_ _) | (with_reducible refine Below.setCell ?_ ?_ _) | omega | (simp; done) | (simp; omega))))⟩
      rw [HSH.out]
      exact retU2 (by omega) rfl
    · have hc2I : ¬ (dn : Int) < (dx : Int) := by omega
      rw [if_neg hc2] at HSH
      clear hc2
      go_wp2_with fail
      go_ret2
      refine ⟨?_, (by (repeat' (first | (with_reducible exact Below.refl _ _) | (with_reducible assumption) | (with_reducible refine below_drewN ?_ _) | (with_reducible refine Below.drew ?_) | (with_reducible refine Below.alloc ?_ ?_ _) | (with_reducible refine Below.setCell ?_ ?_ _) | omega | (simp; done) | (simp; omega))))⟩
      rw [HSH.out]
      exact retU2 (by omega) rfl
set_option maxHeartbeats 1000000 in
set_option maxRecDepth 100000 in
theorem short_A {w : World} {B m : Nat} {e : Int} (hG : PwG B w) (hB : B ≤ w.heap.size) (hm1 : m = 9223372036854775808) (h1 : -1085 < e) (h2 : e ≤ 960) :
    Calls Tryz.prog 93 #[.int .u64 m, .int .i64 e] w fun en w' => en = .returned (.tuple #[.int .u64 (shortP m e).1, .int .i64 (shortP m e).2]) ∧ Below w.heap.size w w' := by
  have hA : m = 9223372036854775808 ∧ -1085 < e := ⟨hm1, h1⟩
  have hmne : ((m : Int) == 9223372036854775808) = true := by rw [hm1]; rfl
  have hm2 : m < 18446744073709551616 := by omega
  obtain ⟨b1, b2, b3, b4⟩ := sfA (e := e) (by omega) h2
  obtain ⟨L, hL⟩ : ∃ L, ((e + 11) * 631305 - 261663) / 2097152 = L := ⟨_, rfl⟩
  obtain ⟨i, hi⟩ : ∃ i, sfI m e = i := ⟨_, rfl⟩
  have hiI : (i : Int) = 348 - L := by
    rw [← hi, ← hL]
    unfold sfI
    rw [if_pos hA]
    omega
  rw [hL] at b1 b2 b3 b4
  obtain ⟨s, hs⟩ : ∃ s, sfS m e = s := ⟨_, rfl⟩
  have hsI : (s : Int) = -(e + (-L) * 108853 / 32768 + 3) := by
    rw [← hs]
    unfold sfS
    rw [hi, show (i : Int) - 348 = -L by omega]
    omega
  have HLP := Lib.hid (show ((i : Int) - 348) * 108853 / 32768 = (-L) * 108853 / 32768 by rw [show (i : Int) - 348 = -L by omega])
  obtain ⟨lp, hlp⟩ : ∃ lp, (-L) * 108853 / 32768 = lp := ⟨_, rfl⟩
  rw [hlp] at HLP hsI b3 b4
  have hlp1 : -100000 ≤ lp ∧ lp ≤ 100000 := by omega
  have hneg : IntKind.i64.wrap (-L) = (i : Int) - 348 := by rw [IntWalk.i64_in _ (by omega)]; omega
  have hi696 : i < 696 := by omega
  have hs4 : 4 ≤ s := by omega
  have hs64 : s < 64 := by omega
  have HPS := Lib.hid (fun (W : World) {a b c : Value} (h : W.heap[w.heap.size]? = some (.cells #[a, b, c] 196 (0, 0))) (hb : Below w.heap.size w W) => prescale_any (PwG.keeps hB hb hG) hB h (e := e) (lp := lp) hi696 (by omega) (by omega) (by omega) (by omega))
  have hpw := pwR_lt i
  have HL10 := Lib.hid (fun W => skewed_any (x := e + 11) (by omega) (by omega) W)
  rw [hL] at HL10
  obtain ⟨mn, hmn⟩ : ∃ mn, m - 512 = mn := ⟨_, rfl⟩
  obtain ⟨mx, hmx⟩ : ∃ mx, m + 1024 = mx := ⟨_, rfl⟩
  obtain ⟨odd, hodd⟩ : ∃ odd, m / 2048 % 2 = odd := ⟨_, rfl⟩
  have emn : (m : Int) - 512 = (mn : Int) := by omega
  have emx : (m : Int) + 1024 = (mx : Int) := by omega
  have hand : bits .and .i64 ((m : Int) / 2048) 1 = (odd : Int) := by rw [and1_i64]; omega
  have hod : odd = 0 ∨ odd = 1 := by omega
  have HSP : shortP m e = sfR m i s mn mx odd := by
    unfold shortP
    rw [hi, hs]
    unfold sfMn sfMx sfOdd
    rw [if_pos hA, if_pos hA, if_pos (by omega), hmn, hmx, hodd]
  unfold sfR at HSP
  generalize pwR i = pr at *
  have hm3 : 9223372036854775808 ≤ m ∧ m ≤ 9223372036854775808 := by omega
  clear hL hlp b1 b2 b3 b4 hi hs hA hG hm1
  obtain ⟨hU1, hU2, hU3⟩ : uscN mn pr.1 pr.2 s < 1152921504606846976 ∧ uscN mx pr.1 pr.2 s < 1152921504606846976 ∧ uscN m pr.1 pr.2 s < 1152921504606846976 := ⟨uscS_lt (by omega) hpw.1 hs4, uscS_lt (by omega) hpw.1 hs4, uscS_lt hm2 hpw.1 hs4⟩
  have HU1 := Lib.hid (fun (W : World) (g : Nat) (h : W.heap[g]? = some (.cells #[.int .u64 (pr.1 : Nat), .int .u64 (pr.2 : Nat), .int .i64 (s : Nat)] 196 (0, 0))) => uscaleS_any (x := mn) (by omega) hpw.1 hpw.2 (by omega) hs64 h)
  have HU2 := Lib.hid (fun (W : World) (g : Nat) (h : W.heap[g]? = some (.cells #[.int .u64 (pr.1 : Nat), .int .u64 (pr.2 : Nat), .int .i64 (s : Nat)] 196 (0, 0))) => uscaleS_any (x := mx) (by omega) hpw.1 hpw.2 (by omega) hs64 h)
  have HU3 := Lib.hid (fun (W : World) (g : Nat) (h : W.heap[g]? = some (.cells #[.int .u64 (pr.1 : Nat), .int .u64 (pr.2 : Nat), .int .i64 (s : Nat)] 196 (0, 0))) => uscaleS_any (x := m) hm2 hpw.1 hpw.2 (by omega) hs64 h)
  have HSH : Hid (shortP m e = if (uscN mn pr.1 pr.2 s + odd + 3) / 4 ≤ nudN (uscN mx pr.1 pr.2 s) odd / 4 / 10 * 10 then (nudN (uscN mx pr.1 pr.2 s) odd / 4 / 10, 349 - (i : Int))
    else (if (uscN mn pr.1 pr.2 s + odd + 3) / 4 < nudN (uscN mx pr.1 pr.2 s) odd / 4 then rndN (uscN m pr.1 pr.2 s) else (uscN mn pr.1 pr.2 s + odd + 3) / 4, 348 - (i : Int))) := Lib.hid HSP
  have HSS := Lib.hid (show -(e + lp + 3) = (s : Int) by omega)
  obtain ⟨P, hP⟩ : ∃ P, shortP m e = P := ⟨_, rfl⟩
  rw [hP] at HSH ⊢
  clear HSP hP
  generalize uscN mn pr.1 pr.2 s = u1 at *
  generalize uscN mx pr.1 pr.2 s = u2 at *
  generalize uscN m pr.1 pr.2 s = u3 at *
  have HN1 := Lib.hid (fun W => nudgeU_any hU1 hod W)
  have HC1 := Lib.hid (fun W => ceil_any (u := u1 + odd) (by omega) W)
  have HN2 := Lib.hid (fun W => nudgeD_any hU2 hod W)
  have hnl : nudN u2 odd < 18446744073709551616 := by unfold nudN; omega
  have HF2 := Lib.hid (fun W => floor_any hnl W)
  have HR3 := Lib.hid (fun W => roundS_any hU3 W)
  obtain ⟨dn, hdn⟩ : ∃ dn, (u1 + odd + 3) / 4 = dn := ⟨_, rfl⟩
  obtain ⟨dx, hdx⟩ : ∃ dx, nudN u2 odd / 4 = dx := ⟨_, rfl⟩
  rw [hdn] at HC1 HSH
  rw [hdx] at HF2 HSH
  have hdx2 : dx < 4611686018427387904 := by omega
  have hdn2 : dn < 4611686018427387904 := by omega
  have HR3L : rndN u3 < 4611686018427387904 := by unfold rndN; omega
  generalize rndN u3 = d3 at *
  have hpI : (i : Int) - 348 = (i : Int) - 348 := rfl
  have hneg1 : IntKind.i64.wrap (-((i : Int) - 348 - 1)) = 349 - (i : Int) := by rw [IntWalk.i64_in _ (by omega)]; omega
  have hneg2 : IntKind.i64.wrap (-((i : Int) - 348)) = 348 - (i : Int) := by rw [IntWalk.i64_in _ (by omega)]; omega
  clear hiI hsI hU1 hU2 hU3 hmn hmx hodd hdn hdx hnl hpI
  go_enter Tryz.func93, Tryz.ntmps93
  go_wp2_with fail
  refine (HL10.out _).mono ?_
  rintro en w1 ⟨rfl, rfl⟩
  go_wp2_with fail
  refine (log2_any (by omega) (by omega) _).mono ?_
  rintro en w1 ⟨rfl, rfl⟩
  rw [HLP.out]
  go_wp2_with fail
  refine (HPS.out _ (block_new _ _ rfl) ((Below.refl _ _).alloc (Nat.le_refl _) _)).mono ?_
  rintro en w2 ⟨⟨v, rfl⟩, hbk, hb2⟩
  rw [HSS.out] at hbk
  have hB2 : Below w.heap.size w w2 := ((Below.refl _ _).alloc (Nat.le_refl _) _).trans hb2
  clear hb2
  go_wp2_with fail
  refine (HU1.out _ _ hbk).mono ?_
  rintro en w3 ⟨rfl, n3, rfl⟩
  go_wp2_with fail
  refine (HN1.out _).mono ?_
  rintro en w4 ⟨rfl, rfl⟩
  go_wp2_with fail
  refine (HC1.out _).mono ?_
  rintro en w5 ⟨rfl, rfl⟩
  go_wp2_with fail
  have hbk3 : (w2.drewN n3).heap[w.heap.size]? = some (.cells #[.int .u64 (pr.1 : Nat), .int .u64 (pr.2 : Nat), .int .i64 (s : Nat)] 196 (0, 0)) := by simpa using hbk
  refine (HU2.out _ _ hbk3).mono ?_
  rintro en w6 ⟨rfl, n6, rfl⟩
  go_wp2_with fail
  refine (HN2.out _).mono ?_
  rintro en w7 ⟨rfl, rfl⟩
  go_wp2_with fail
  refine (HF2.out _).mono ?_
  rintro en w8 ⟨rfl, rfl⟩
  have hbk6 : (w2.drewN (n3 + n6)).heap[w.heap.size]? = some (.cells #[.int .u64 (pr.1 : Nat), .int .u64 (pr.2 : Nat), .int .i64 (s : Nat)] 196 (0, 0)) := by simpa using hbk
  by_cases hc1 : dn ≤ dx / 10 * 10
  · have hc1I : (dn : Int) ≤ (dx : Int) / 10 * 10 := by omega
    rw [if_pos hc1] at HSH
    clear hc1
    go_wp2_with fail
    go_ret2
    refine ⟨?_, below_drewN hB2 _⟩
    rw [HSH.out]
    exact retU2 (by omega) rfl
  · have hc1I : ¬ ((dn : Int) ≤ (dx : Int) / 10 * 10) := by omega
    rw [if_neg hc1] at HSH
    clear hc1
    by_cases hc2 : dn < dx
    · have hc2I : (dn : Int) < (dx : Int) := by omega
      rw [if_pos hc2] at HSH
      clear hc2
      go_wp2_with fail
      refine (HU3.out _ _ hbk6).mono ?_
      rintro en w9 ⟨rfl, n9, rfl⟩
      go_wp2_with fail
      refine (HR3.out _).mono ?_
      rintro en w10 ⟨rfl, rfl⟩
      go_wp2_with fail
      go_ret2
      refine ⟨?_, (by (repeat' (first | (with_reducible exact Below.refl _ _) | (with_reducible assumption) | (with_reducible refine below_drewN ?_ _) | (with_reducible refine Below.drew ?_) | (with_reducible refine Below.alloc ?_ ?_ _) | (with_reducible refine Below.setCell ?_ ?_ _) | omega | (simp; done) | (simp; omega))))⟩
      rw [HSH.out]
      exact retU2 (by omega) rfl
    · have hc2I : ¬ (dn : Int) < (dx : Int) := by omega
      rw [if_neg hc2] at HSH
      clear hc2
      go_wp2_with fail
      go_ret2
      refine ⟨?_, (by (repeat' (first | (with_reducible exact Below.refl _ _) | (with_reducible assumption) | (with_reducible refine below_drewN ?_ _) | (with_reducible refine Below.drew ?_) | (with_reducible refine Below.alloc ?_ ?_ _) | (with_reducible refine Below.setCell ?_ ?_ _) | omega | (simp; done) | (simp; omega))))⟩
      rw [HSH.out]
      exact retU2 (by omega) rfl
set_option maxHeartbeats 1000000 in
set_option maxRecDepth 100000 in
theorem short_B2 {w : World} {B m : Nat} {e : Int} (hG : PwG B w) (hB : B ≤ w.heap.size) (hm1 : m = 9223372036854775808) (he : e = -1085) (h1 : -1085 ≤ e) (h2 : e ≤ 960) :
    Calls Tryz.prog 93 #[.int .u64 m, .int .i64 e] w fun en w' => en = .returned (.tuple #[.int .u64 (shortP m e).1, .int .i64 (shortP m e).2]) ∧ Below w.heap.size w w' := by
  have hA : ¬ (m = 9223372036854775808 ∧ -1085 < e) := by omega
  have hmne : ((m : Int) == 9223372036854775808) = true := by rw [hm1]; rfl
  have hlt : decide (-1085 < e) = false := decide_eq_false (by omega)
  have hm2 : m < 18446744073709551616 := by omega
  have hm4 : 9223372036854775808 ≤ m ∧ m ≤ 9223372036854775808 := by omega
  have hm0 : m ≤ 18446744073709549568 := by omega
  obtain ⟨b1, b2, b3, b4⟩ := sfB h1 h2
  obtain ⟨L, hL⟩ : ∃ L, (e + 11) * 78913 / 262144 = L := ⟨_, rfl⟩
  obtain ⟨i, hi⟩ : ∃ i, sfI m e = i := ⟨_, rfl⟩
  have hiI : (i : Int) = 348 - L := by
    rw [← hi, ← hL]
    unfold sfI
    rw [if_neg hA, if_pos h1]
    omega
  rw [hL] at b1 b2 b3 b4
  obtain ⟨s, hs⟩ : ∃ s, sfS m e = s := ⟨_, rfl⟩
  have hsI : (s : Int) = -(e + (-L) * 108853 / 32768 + 3) := by
    rw [← hs]
    unfold sfS
    rw [hi, show (i : Int) - 348 = -L by omega]
    omega
  have HLP := Lib.hid (show ((i : Int) - 348) * 108853 / 32768 = (-L) * 108853 / 32768 by rw [show (i : Int) - 348 = -L by omega])
  obtain ⟨lp, hlp⟩ : ∃ lp, (-L) * 108853 / 32768 = lp := ⟨_, rfl⟩
  rw [hlp] at HLP hsI b3 b4
  have hlp1 : -100000 ≤ lp ∧ lp ≤ 100000 := by omega
  have hneg : IntKind.i64.wrap (-L) = (i : Int) - 348 := by rw [IntWalk.i64_in _ (by omega)]; omega
  have hi696 : i < 696 := by omega
  have hs4 : 4 ≤ s := by omega
  have hs64 : s < 64 := by omega
  have HPS := Lib.hid (fun (W : World) {a b c : Value} (h : W.heap[w.heap.size]? = some (.cells #[a, b, c] 196 (0, 0))) (hb : Below w.heap.size w W) => prescale_any (PwG.keeps hB hb hG) hB h (e := e) (lp := lp) hi696 (by omega) (by omega) (by omega) (by omega))
  have hpw := pwR_lt i
  have HL10 := Lib.hid (fun W => log10_any (x := e + 11) (by omega) (by omega) W)
  rw [hL] at HL10
  obtain ⟨mn, hmn⟩ : ∃ mn, m - 1024 = mn := ⟨_, rfl⟩
  obtain ⟨mx, hmx⟩ : ∃ mx, m + 1024 = mx := ⟨_, rfl⟩
  obtain ⟨odd, hodd⟩ : ∃ odd, m / 2048 % 2 = odd := ⟨_, rfl⟩
  have hm3 : m ≤ 18446744073709549568 := hm0
  have emn : (m : Int) - 1024 = (mn : Int) := by omega
  have emx : (m : Int) + 1024 = (mx : Int) := by omega
  have hand : bits .and .i64 ((m : Int) / 2048) 1 = (odd : Int) := by rw [and1_i64]; omega
  have hod : odd = 0 ∨ odd = 1 := by omega
  have HSP : shortP m e = sfR m i s mn mx odd := by
    unfold shortP
    rw [hi, hs]
    unfold sfMn sfMx sfOdd
    rw [if_neg hA, if_pos h1, if_neg hA, if_pos h1, if_pos h1, hmn, hmx, hodd]
  unfold sfR at HSP
  generalize pwR i = pr at *
  clear hL hlp b1 b2 b3 b4 hi hs hA hG hm1 he
  obtain ⟨hU1, hU2, hU3⟩ : uscN mn pr.1 pr.2 s < 1152921504606846976 ∧ uscN mx pr.1 pr.2 s < 1152921504606846976 ∧ uscN m pr.1 pr.2 s < 1152921504606846976 := ⟨uscS_lt (by omega) hpw.1 hs4, uscS_lt (by omega) hpw.1 hs4, uscS_lt hm2 hpw.1 hs4⟩
  have HU1 := Lib.hid (fun (W : World) (g : Nat) (h : W.heap[g]? = some (.cells #[.int .u64 (pr.1 : Nat), .int .u64 (pr.2 : Nat), .int .i64 (s : Nat)] 196 (0, 0))) => uscaleS_any (x := mn) (by omega) hpw.1 hpw.2 (by omega) hs64 h)
  have HU2 := Lib.hid (fun (W : World) (g : Nat) (h : W.heap[g]? = some (.cells #[.int .u64 (pr.1 : Nat), .int .u64 (pr.2 : Nat), .int .i64 (s : Nat)] 196 (0, 0))) => uscaleS_any (x := mx) (by omega) hpw.1 hpw.2 (by omega) hs64 h)
  have HU3 := Lib.hid (fun (W : World) (g : Nat) (h : W.heap[g]? = some (.cells #[.int .u64 (pr.1 : Nat), .int .u64 (pr.2 : Nat), .int .i64 (s : Nat)] 196 (0, 0))) => uscaleS_any (x := m) hm2 hpw.1 hpw.2 (by omega) hs64 h)
  have HSH : Hid (shortP m e = if (uscN mn pr.1 pr.2 s + odd + 3) / 4 ≤ nudN (uscN mx pr.1 pr.2 s) odd / 4 / 10 * 10 then (nudN (uscN mx pr.1 pr.2 s) odd / 4 / 10, 349 - (i : Int))
    else (if (uscN mn pr.1 pr.2 s + odd + 3) / 4 < nudN (uscN mx pr.1 pr.2 s) odd / 4 then rndN (uscN m pr.1 pr.2 s) else (uscN mn pr.1 pr.2 s + odd + 3) / 4, 348 - (i : Int))) := Lib.hid HSP
  have HSS := Lib.hid (show -(e + lp + 3) = (s : Int) by omega)
  obtain ⟨P, hP⟩ : ∃ P, shortP m e = P := ⟨_, rfl⟩
  rw [hP] at HSH ⊢
  clear HSP hP
  generalize uscN mn pr.1 pr.2 s = u1 at *
  generalize uscN mx pr.1 pr.2 s = u2 at *
  generalize uscN m pr.1 pr.2 s = u3 at *
  have HN1 := Lib.hid (fun W => nudgeU_any hU1 hod W)
  have HC1 := Lib.hid (fun W => ceil_any (u := u1 + odd) (by omega) W)
  have HN2 := Lib.hid (fun W => nudgeD_any hU2 hod W)
  have hnl : nudN u2 odd < 18446744073709551616 := by unfold nudN; omega
  have HF2 := Lib.hid (fun W => floor_any hnl W)
  have HR3 := Lib.hid (fun W => roundS_any hU3 W)
  obtain ⟨dn, hdn⟩ : ∃ dn, (u1 + odd + 3) / 4 = dn := ⟨_, rfl⟩
  obtain ⟨dx, hdx⟩ : ∃ dx, nudN u2 odd / 4 = dx := ⟨_, rfl⟩
  rw [hdn] at HC1 HSH
  rw [hdx] at HF2 HSH
  have hdx2 : dx < 4611686018427387904 := by omega
  have hdn2 : dn < 4611686018427387904 := by omega
  have HR3L : rndN u3 < 4611686018427387904 := by unfold rndN; omega
  generalize rndN u3 = d3 at *
  have hpI : (i : Int) - 348 = (i : Int) - 348 := rfl
  have hneg1 : IntKind.i64.wrap (-((i : Int) - 348 - 1)) = 349 - (i : Int) := by rw [IntWalk.i64_in _ (by omega)]; omega
  have hneg2 : IntKind.i64.wrap (-((i : Int) - 348)) = 348 - (i : Int) := by rw [IntWalk.i64_in _ (by omega)]; omega
  clear hiI hsI hU1 hU2 hU3 hmn hmx hodd hdn hdx hnl hpI
  go_enter Tryz.func93, Tryz.ntmps93
  go_wp2_with fail
  refine (HL10.out _).mono ?_
  rintro en w1 ⟨rfl, rfl⟩
  go_wp2_with fail
  refine (log2_any (by omega) (by omega) _).mono ?_
  rintro en w1 ⟨rfl, rfl⟩
  rw [HLP.out]
  go_wp2_with fail
  refine (HPS.out _ (block_new _ _ rfl) ((Below.refl _ _).alloc (Nat.le_refl _) _)).mono ?_
  rintro en w2 ⟨⟨v, rfl⟩, hbk, hb2⟩
  rw [HSS.out] at hbk
  have hB2 : Below w.heap.size w w2 := ((Below.refl _ _).alloc (Nat.le_refl _) _).trans hb2
  clear hb2
  go_wp2_with fail
  refine (HU1.out _ _ hbk).mono ?_
  rintro en w3 ⟨rfl, n3, rfl⟩
  go_wp2_with fail
  refine (HN1.out _).mono ?_
  rintro en w4 ⟨rfl, rfl⟩
  go_wp2_with fail
  refine (HC1.out _).mono ?_
  rintro en w5 ⟨rfl, rfl⟩
  go_wp2_with fail
  have hbk3 : (w2.drewN n3).heap[w.heap.size]? = some (.cells #[.int .u64 (pr.1 : Nat), .int .u64 (pr.2 : Nat), .int .i64 (s : Nat)] 196 (0, 0)) := by simpa using hbk
  refine (HU2.out _ _ hbk3).mono ?_
  rintro en w6 ⟨rfl, n6, rfl⟩
  go_wp2_with fail
  refine (HN2.out _).mono ?_
  rintro en w7 ⟨rfl, rfl⟩
  go_wp2_with fail
  refine (HF2.out _).mono ?_
  rintro en w8 ⟨rfl, rfl⟩
  have hbk6 : (w2.drewN (n3 + n6)).heap[w.heap.size]? = some (.cells #[.int .u64 (pr.1 : Nat), .int .u64 (pr.2 : Nat), .int .i64 (s : Nat)] 196 (0, 0)) := by simpa using hbk
  by_cases hc1 : dn ≤ dx / 10 * 10
  · have hc1I : (dn : Int) ≤ (dx : Int) / 10 * 10 := by omega
    rw [if_pos hc1] at HSH
    clear hc1
    go_wp2_with fail
    go_ret2
    refine ⟨?_, below_drewN hB2 _⟩
    rw [HSH.out]
    exact retU2 (by omega) rfl
  · have hc1I : ¬ ((dn : Int) ≤ (dx : Int) / 10 * 10) := by omega
    rw [if_neg hc1] at HSH
    clear hc1
    by_cases hc2 : dn < dx
    · have hc2I : (dn : Int) < (dx : Int) := by omega
      rw [if_pos hc2] at HSH
      clear hc2
      go_wp2_with fail
      refine (HU3.out _ _ hbk6).mono ?_
      rintro en w9 ⟨rfl, n9, rfl⟩
      go_wp2_with fail
      refine (HR3.out _).mono ?_
      rintro en w10 ⟨rfl, rfl⟩
      go_wp2_with fail
      go_ret2
      refine ⟨?_, (by (repeat' (first | (with_reducible exact Below.refl _ _) | (with_reducible assumption) | (with_reducible refine below_drewN ?_ _) | (with_reducible refine Below.drew ?_) | (with_reducible refine Below.alloc ?_ ?_ _) | (with_reducible refine Below.setCell ?_ ?_ _) | omega | (simp; done) | (simp; omega))))⟩
      rw [HSH.out]
      exact retU2 (by omega) rfl
    · have hc2I : ¬ (dn : Int) < (dx : Int) := by omega
      rw [if_neg hc2] at HSH
      clear hc2
      go_wp2_with fail
      go_ret2
      refine ⟨?_, (by (repeat' (first | (with_reducible exact Below.refl _ _) | (with_reducible assumption) | (with_reducible refine below_drewN ?_ _) | (with_reducible refine Below.drew ?_) | (with_reducible refine Below.alloc ?_ ?_ _) | (with_reducible refine Below.setCell ?_ ?_ _) | omega | (simp; done) | (simp; omega))))⟩
      rw [HSH.out]
      exact retU2 (by omega) rfl
set_option maxHeartbeats 1000000 in
set_option maxRecDepth 100000 in
theorem short_C {w : World} {B m : Nat} {e : Int} (hG : PwG B w) (hB : B ≤ w.heap.size) (hm1 : 9223372036854775808 ≤ m) (hm2 : m < 18446744073709551616) (hm0 : m + 2 ^ (-1075 - e).toNat < 18446744073709551616) (h1 : -1137 ≤ e) (h2 : e < -1085) :
    Calls Tryz.prog 93 #[.int .u64 m, .int .i64 e] w fun en w' => en = .returned (.tuple #[.int .u64 (shortP m e).1, .int .i64 (shortP m e).2]) ∧ Below w.heap.size w w' := by
  have hA : ¬ (m = 9223372036854775808 ∧ -1085 < e) := by omega
  have hlt : decide (-1085 < e) = false := decide_eq_false (by omega)
  have hge : ¬ (-1085 ≤ e) := by omega
  obtain ⟨L, hL⟩ : ∃ L : Int, (-324 : Int) = L := ⟨_, rfl⟩
  have b1 : 0 ≤ 348 - L := by omega
  have b2 : 348 - L < 696 := by omega
  have b3 : 4 ≤ -(e + (-L) * 108853 / 32768 + 3) := by omega
  have b4 : -(e + (-L) * 108853 / 32768 + 3) < 64 := by omega
  obtain ⟨i, hi⟩ : ∃ i, sfI m e = i := ⟨_, rfl⟩
  have hiI : (i : Int) = 348 - L := by
    rw [← hi, ← hL]
    unfold sfI
    rw [if_neg hA, if_neg hge]
    omega
  obtain ⟨s, hs⟩ : ∃ s, sfS m e = s := ⟨_, rfl⟩
  have hsI : (s : Int) = -(e + (-L) * 108853 / 32768 + 3) := by
    rw [← hs]
    unfold sfS
    rw [hi, show (i : Int) - 348 = -L by omega]
    omega
  have HLP := Lib.hid (show ((i : Int) - 348) * 108853 / 32768 = (-L) * 108853 / 32768 by rw [show (i : Int) - 348 = -L by omega])
  obtain ⟨lp, hlp⟩ : ∃ lp, (-L) * 108853 / 32768 = lp := ⟨_, rfl⟩
  rw [hlp] at HLP hsI b3 b4
  have hlp1 : -100000 ≤ lp ∧ lp ≤ 100000 := by omega
  have hneg : IntKind.i64.wrap (-L) = (i : Int) - 348 := by rw [IntWalk.i64_in _ (by omega)]; omega
  have hi696 : i < 696 := by omega
  have hs4 : 4 ≤ s := by omega
  have hs64 : s < 64 := by omega
  have HPS := Lib.hid (fun (W : World) {a b c : Value} (h : W.heap[w.heap.size]? = some (.cells #[a, b, c] 196 (0, 0))) (hb : Below w.heap.size w W) => prescale_any (PwG.keeps hB hb hG) hB h (e := e) (lp := lp) hi696 (by omega) (by omega) (by omega) (by omega))
  have hpw := pwR_lt i
  have HL10 := Lib.hid (fun W => log10_any (x := -1074) (by omega) (by omega) W)
  rw [show (-1074 : Int) * 78913 / 262144 = L by rw [← hL]; rfl] at HL10
  obtain ⟨k, hk⟩ : ∃ k : Nat, (-1075 - e).toNat = k := ⟨_, rfl⟩
  have hkI : e = -1075 - (k : Int) := by omega
  rw [hk] at hm0
  obtain ⟨K, hK⟩ : ∃ K : Nat, 2 ^ k = K := ⟨_, rfl⟩
  rw [hK] at hm0
  have hKI : (2 : Int) ^ k = (K : Int) := by rw [← hK]; simp
  have hK2 : (2 : Int) ^ (k + 1) = ((2 * K : Nat) : Int) := by rw [← hK, ← Nat.pow_succ']; simp
  have hKl : K ≤ 4611686018427387904 := by rw [← hK]; exact Nat.pow_le_pow_right (show 1 ≤ 2 by decide) (show k ≤ 62 by omega)
  have hKp : 1 ≤ K := by rw [← hK]; exact Nat.pos_of_ne_zero (by simp)
  obtain ⟨mn, hmn⟩ : ∃ mn, m - K = mn := ⟨_, rfl⟩
  obtain ⟨mx, hmx⟩ : ∃ mx, m + K = mx := ⟨_, rfl⟩
  obtain ⟨odd, hodd⟩ : ∃ odd, m / (2 * K) % 2 = odd := ⟨_, rfl⟩
  have emn : (m : Int) - (K : Int) = (mn : Int) := by omega
  have emx : (m : Int) + (K : Int) = (mx : Int) := by omega
  obtain ⟨Q, hQ⟩ : ∃ Q, m / (2 * K) = Q := ⟨_, rfl⟩
  have hQl : Q < 9223372036854775808 := by
    rw [← hQ, Nat.div_lt_iff_lt_mul (by omega)]
    omega
  have hdiv : (m : Int) / (2 * (K : Int)) = (Q : Int) := by rw [← hQ]; simp
  have hand : bits .and .i64 (Q : Int) 1 = (odd : Int) := by rw [and1_i64, ← hodd, hQ]; omega
  have hz1 : 11 + (-1085 - e) = (k : Int) + 1 := by omega
  have hz2 : e + ((k : Int) + 1) = -1074 := by omega
  have hkl : k ≤ 62 := by omega
  have hk10 : 11 ≤ k := by omega
  have hod : odd = 0 ∨ odd = 1 := by omega
  have HSP : shortP m e = sfR m i s mn mx odd := by
    unfold shortP
    rw [hi, hs]
    unfold sfMn sfMx sfOdd
    rw [if_neg hA, if_neg hge, if_neg hA, if_neg hge, if_neg hge, show (-1074 - e).toNat = k + 1 by omega, hk, Nat.pow_succ', hK, hmn, hmx, hodd]
  unfold sfR at HSP
  generalize pwR i = pr at *
  clear hQ hkI hk hK hL hlp b1 b2 b3 b4 hi hs hA hG hm1
  obtain ⟨hU1, hU2, hU3⟩ : uscN mn pr.1 pr.2 s < 1152921504606846976 ∧ uscN mx pr.1 pr.2 s < 1152921504606846976 ∧ uscN m pr.1 pr.2 s < 1152921504606846976 := ⟨uscS_lt (by omega) hpw.1 hs4, uscS_lt (by omega) hpw.1 hs4, uscS_lt hm2 hpw.1 hs4⟩
  have HU1 := Lib.hid (fun (W : World) (g : Nat) (h : W.heap[g]? = some (.cells #[.int .u64 (pr.1 : Nat), .int .u64 (pr.2 : Nat), .int .i64 (s : Nat)] 196 (0, 0))) => uscaleS_any (x := mn) (by omega) hpw.1 hpw.2 (by omega) hs64 h)
  have HU2 := Lib.hid (fun (W : World) (g : Nat) (h : W.heap[g]? = some (.cells #[.int .u64 (pr.1 : Nat), .int .u64 (pr.2 : Nat), .int .i64 (s : Nat)] 196 (0, 0))) => uscaleS_any (x := mx) (by omega) hpw.1 hpw.2 (by omega) hs64 h)
  have HU3 := Lib.hid (fun (W : World) (g : Nat) (h : W.heap[g]? = some (.cells #[.int .u64 (pr.1 : Nat), .int .u64 (pr.2 : Nat), .int .i64 (s : Nat)] 196 (0, 0))) => uscaleS_any (x := m) hm2 hpw.1 hpw.2 (by omega) hs64 h)
  have HSH : Hid (shortP m e = if (uscN mn pr.1 pr.2 s + odd + 3) / 4 ≤ nudN (uscN mx pr.1 pr.2 s) odd / 4 / 10 * 10 then (nudN (uscN mx pr.1 pr.2 s) odd / 4 / 10, 349 - (i : Int))
    else (if (uscN mn pr.1 pr.2 s + odd + 3) / 4 < nudN (uscN mx pr.1 pr.2 s) odd / 4 then rndN (uscN m pr.1 pr.2 s) else (uscN mn pr.1 pr.2 s + odd + 3) / 4, 348 - (i : Int))) := Lib.hid HSP
  have HSS := Lib.hid (show -(e + lp + 3) = (s : Int) by omega)
  obtain ⟨P, hP⟩ : ∃ P, shortP m e = P := ⟨_, rfl⟩
  rw [hP] at HSH ⊢
  clear HSP hP
  generalize uscN mn pr.1 pr.2 s = u1 at *
  generalize uscN mx pr.1 pr.2 s = u2 at *
  generalize uscN m pr.1 pr.2 s = u3 at *
  have HN1 := Lib.hid (fun W => nudgeU_any hU1 hod W)
  have HC1 := Lib.hid (fun W => ceil_any (u := u1 + odd) (by omega) W)
  have HN2 := Lib.hid (fun W => nudgeD_any hU2 hod W)
  have hnl : nudN u2 odd < 18446744073709551616 := by unfold nudN; omega
  have HF2 := Lib.hid (fun W => floor_any hnl W)
  have HR3 := Lib.hid (fun W => roundS_any hU3 W)
  obtain ⟨dn, hdn⟩ : ∃ dn, (u1 + odd + 3) / 4 = dn := ⟨_, rfl⟩
  obtain ⟨dx, hdx⟩ : ∃ dx, nudN u2 odd / 4 = dx := ⟨_, rfl⟩
  rw [hdn] at HC1 HSH
  rw [hdx] at HF2 HSH
  have hdx2 : dx < 4611686018427387904 := by omega
  have hdn2 : dn < 4611686018427387904 := by omega
  have HR3L : rndN u3 < 4611686018427387904 := by unfold rndN; omega
  generalize rndN u3 = d3 at *
  have hpI : (i : Int) - 348 = (i : Int) - 348 := rfl
  have hneg1 : IntKind.i64.wrap (-((i : Int) - 348 - 1)) = 349 - (i : Int) := by rw [IntWalk.i64_in _ (by omega)]; omega
  have hneg2 : IntKind.i64.wrap (-((i : Int) - 348)) = 348 - (i : Int) := by rw [IntWalk.i64_in _ (by omega)]; omega
  clear hiI hsI hU1 hU2 hU3 hmn hmx hodd hdn hdx hnl hpI
  cases hmb : ((m : Int) == 9223372036854775808)
  all_goals
    go_enter Tryz.func93, Tryz.ntmps93
    go_wp2_with fail
    refine (HL10.out _).mono ?_
    rintro en w1 ⟨rfl, rfl⟩
    go_wp2_with fail
    refine (log2_any (by omega) (by omega) _).mono ?_
    rintro en w1 ⟨rfl, rfl⟩
    rw [HLP.out]
    go_wp2_with fail
    refine (HPS.out _ (block_new _ _ rfl) ((Below.refl _ _).alloc (Nat.le_refl _) _)).mono ?_
    rintro en w2 ⟨⟨v, rfl⟩, hbk, hb2⟩
    rw [HSS.out] at hbk
    have hB2 : Below w.heap.size w w2 := ((Below.refl _ _).alloc (Nat.le_refl _) _).trans hb2
    clear hb2
    go_wp2_with fail
    refine (HU1.out _ _ hbk).mono ?_
    rintro en w3 ⟨rfl, n3, rfl⟩
    go_wp2_with fail
    refine (HN1.out _).mono ?_
    rintro en w4 ⟨rfl, rfl⟩
    go_wp2_with fail
    refine (HC1.out _).mono ?_
    rintro en w5 ⟨rfl, rfl⟩
    go_wp2_with fail
    have hbk3 : (w2.drewN n3).heap[w.heap.size]? = some (.cells #[.int .u64 (pr.1 : Nat), .int .u64 (pr.2 : Nat), .int .i64 (s : Nat)] 196 (0, 0)) := by simpa using hbk
    refine (HU2.out _ _ hbk3).mono ?_
    rintro en w6 ⟨rfl, n6, rfl⟩
    go_wp2_with fail
    refine (HN2.out _).mono ?_
    rintro en w7 ⟨rfl, rfl⟩
    go_wp2_with fail
    refine (HF2.out _).mono ?_
    rintro en w8 ⟨rfl, rfl⟩
    have hbk6 : (w2.drewN (n3 + n6)).heap[w.heap.size]? = some (.cells #[.int .u64 (pr.1 : Nat), .int .u64 (pr.2 : Nat), .int .i64 (s : Nat)] 196 (0, 0)) := by simpa using hbk
    by_cases hc1 : dn ≤ dx / 10 * 10
    · have hc1I : (dn : Int) ≤ (dx : Int) / 10 * 10 := by omega
      rw [if_pos hc1] at HSH
      clear hc1
      go_wp2_with fail
      go_ret2
      refine ⟨?_, below_drewN hB2 _⟩
      rw [HSH.out]
      exact retU2 (by omega) rfl
    · have hc1I : ¬ ((dn : Int) ≤ (dx : Int) / 10 * 10) := by omega
      rw [if_neg hc1] at HSH
      clear hc1
      by_cases hc2 : dn < dx
      · have hc2I : (dn : Int) < (dx : Int) := by omega
        rw [if_pos hc2] at HSH
        clear hc2
        go_wp2_with fail
        refine (HU3.out _ _ hbk6).mono ?_
        rintro en w9 ⟨rfl, n9, rfl⟩
        go_wp2_with fail
        refine (HR3.out _).mono ?_
        rintro en w10 ⟨rfl, rfl⟩
        go_wp2_with fail
        go_ret2
        refine ⟨?_, (by (repeat' (first | (with_reducible exact Below.refl _ _) | (with_reducible assumption) | (with_reducible refine below_drewN ?_ _) | (with_reducible refine Below.drew ?_) | (with_reducible refine Below.alloc ?_ ?_ _) | (with_reducible refine Below.setCell ?_ ?_ _) | omega | (simp; done) | (simp; omega))))⟩
        rw [HSH.out]
        exact retU2 (by omega) rfl
      · have hc2I : ¬ (dn : Int) < (dx : Int) := by omega
        rw [if_neg hc2] at HSH
        clear hc2
        go_wp2_with fail
        go_ret2
        refine ⟨?_, (by (repeat' (first | (with_reducible exact Below.refl _ _) | (with_reducible assumption) | (with_reducible refine below_drewN ?_ _) | (with_reducible refine Below.drew ?_) | (with_reducible refine Below.alloc ?_ ?_ _) | (with_reducible refine Below.setCell ?_ ?_ _) | omega | (simp; done) | (simp; omega))))⟩
        rw [HSH.out]
        exact retU2 (by omega) rfl
end Go.Proofs.YtbgjhgohffkonaaGreatDoor

