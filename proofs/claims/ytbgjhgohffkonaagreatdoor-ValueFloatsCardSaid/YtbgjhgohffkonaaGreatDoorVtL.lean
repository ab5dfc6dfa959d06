/- Packing, the fast way and the exact way of a number below nought. -/
import Derived.Test.YtbgjhgohffkonaaGreatDoorFltQ
import Derived.Test.YtbgjhgohffkonaaGreatDoorM06
import Derived.Test.YtbgjhgohffkonaaGreatDoorM39
namespace Go.Proofs.YtbgjhgohffkonaaGreatDoor
open Go.RowKit
set_option linter.unusedVariables false
attribute [local go_sem] run_frombits
theorem sg_or {m : Nat} (h : m < 9223372036854775808) : 9223372036854775808 ||| m = m + 9223372036854775808 := by
  have e : (2 : Nat) ^ 63 = 9223372036854775808 := by decide
  have h1 := Nat.two_pow_add_eq_or_of_lt (i := 63) (b := m) (by omega) 1
  rw [Nat.mul_one, e] at h1
  rw [← h1, Nat.add_comm]
theorem sg_off {m : Nat} (h1 : 4503599627370496 ≤ m) (h2 : m < 9007199254740992) : (m + 9223372036854775808) &&& (18446744073709551615 - 4503599627370496) = m - 4503599627370496 + 9223372036854775808 := by
  rw [← sg_or (by omega), Nat.and_or_distrib_right, bit_off h1 h2, show (9223372036854775808 &&& (18446744073709551615 - 4503599627370496) : Nat) = 9223372036854775808 by decide, sg_or (by omega)]
theorem sg_high {a k : Nat} (ha : a < 4503599627370496) (hk : k < 2048) : (a + 9223372036854775808) ||| k * 4503599627370496 = a + k * 4503599627370496 + 9223372036854775808 := by
  rw [← sg_or (by omega), Nat.or_assoc, or_high ha, sg_or (by omega)]
set_option maxRecDepth 100000 in
theorem packS_any {m : Nat} {e : Int} (h1 : m ≤ 9007199254740992) (h2 : -1074 ≤ e) (h3 : e ≤ 1000000) (w : World) :
    Calls Tryz.prog 154 #[.int .u64 (m + 9223372036854775808 : Nat), .int .i64 e] w fun en w' => en = .returned (.tuple #[.float .f64 (packN m e + 9223372036854775808), packE m e]) ∧ ∃ n, w' = w.drewN n := by
  obtain ⟨M, hM⟩ : ∃ M, m + 9223372036854775808 = M := ⟨_, rfl⟩
  have hand : bits .and .u64 (M : Int) 4503599627370496 = ((m / 2 ^ 52 % 2 * 2 ^ 52 : Nat) : Int) := by
    have : M / 2 ^ 52 % 2 = m / 2 ^ 52 % 2 := by omega
    rw [← this, ← nat_bit 52 M]
    exact u64_and_nat M 4503599627370496 (by omega) (by decide)
  rw [hM]
  by_cases hc : m < 4503599627370496 ∨ m = 9007199254740992
  · have hz : (bits .and .u64 (M : Int) 4503599627370496 == 0) = true := by
      rw [hand, beq_iff_eq]
      omega
    have HP : Hid (packN m e = m ∧ packE m e = .nilIface) := Lib.hid (by unfold packN packE; rw [if_pos hc, if_pos hc]; exact ⟨rfl, rfl⟩)
    clear hand
    go_enter Tryz.func154, Tryz.ntmps154
    go_wp2_with fail
    go_ret2
    rw [HP.out.1, HP.out.2, hM]
    exact ⟨rfl, 0, rfl⟩
  · have hz : (bits .and .u64 (M : Int) 4503599627370496 == 0) = false := by
      rw [hand, beq_eq_false_iff_ne]
      omega
    by_cases he : 972 ≤ e
    · have HP : Hid (packN m e = 9218868437227405312 ∧ packE m e = .iface 75 (.int .i64 1)) := Lib.hid (by unfold packN packE; rw [if_neg hc, if_neg hc, if_pos he, if_pos he]; exact ⟨rfl, rfl⟩)
      have hs : bits .and .u64 (M : Int) 9223372036854775808 = 9223372036854775808 := by
        have := u64_and_nat M (2 ^ 63) (by omega) (by decide)
        rw [nat_bit] at this
        refine this.trans ?_
        have : M / 2 ^ 63 = 1 := by omega
        rw [this]; rfl
      have ho : bits .or .u64 9223372036854775808 9218868437227405312 = 18442240474082181120 := by decide
      clear hand
      go_enter Tryz.func154, Tryz.ntmps154
      go_wp2_with fail
      go_ret2
      rw [HP.out.1, HP.out.2]
      exact ⟨rfl, 0, rfl⟩
    · have HP : Hid (packN m e = m - 4503599627370496 + (1075 + e).toNat * 4503599627370496 ∧ packE m e = .nilIface) := Lib.hid (by unfold packN packE; rw [if_neg hc, if_neg hc, if_neg he, if_neg he]; exact ⟨rfl, rfl⟩)
      have hk : ((1075 + e) * 4503599627370496 : Int) = (((1075 + e).toNat * 4503599627370496 : Nat) : Int) := by omega
      have HB : Hid ((bits .or .u64 (bits .andNot .u64 (M : Int) 4503599627370496) ((1075 + e) * 4503599627370496)).toNat = m - 4503599627370496 + (1075 + e).toNat * 4503599627370496 + 9223372036854775808) := Lib.hid (by
        have e1 : bits .andNot .u64 (M : Int) 4503599627370496 = ((m - 4503599627370496 + 9223372036854775808 : Nat) : Int) := by
          have := u64_andNot_nat M 4503599627370496 (by omega) (by decide)
          rw [show ((4503599627370496 : Nat) : Int) = 4503599627370496 from rfl] at this
          rw [this, ← hM, sg_off (by omega) (by omega)]
        rw [e1, hk]
        have := u64_or_nat (m - 4503599627370496 + 9223372036854775808) ((1075 + e).toNat * 4503599627370496) (by omega) (by omega)
        rw [this, sg_high (by omega) (by omega)]
        exact Int.toNat_natCast _)
      clear hand hk
      go_enter Tryz.func154, Tryz.ntmps154
      go_wp2_with fail
      go_ret2
      rw [HP.out.1, HP.out.2, ← HB.out]
      exact ⟨rfl, 0, rfl⟩
set_option maxHeartbeats 1000000 in
set_option maxRecDepth 100000 in
theorem parse64S_any {w : World} {B d : Nat} {p : Int} (hG : PwG B w) (hB : B ≤ w.heap.size) (h : d < 18446744073709551616) (h1 : -348 ≤ p) (h2 : p ≤ 347) (h64x : pfS d p < 64) :
    Calls Tryz.prog 109 #[.int .u64 d, .int .i64 p, .int .u64 (9223372036854775808 : Nat)] w fun en w' => en = .returned (.tuple #[.float .f64 (pf64 d p + 9223372036854775808), pf64E d p]) ∧ Below w.heap.size w w' := by
  have HLEN := Lib.hid (fun w => Tryz.bits_Len64 (d : Int) w (by omega) (by omega))
  rw [show ((d : Nat) : Int).toNat = d from rfl, show Lib.bitLen d = pfB d from rfl] at HLEN
  have hs := pfS_ge h1 h2 h
  have he := pfE_le h1 h2 h
  have hb := pfB_le h
  have hl := pfL_le h1 h2
  have hx : pfX d < 18446744073709551616 := Nat.mod_lt _ (by decide)
  have hu : 64 ≤ pfS d p ∨ pfU d p < 72057594037927936 := Or.inr (uscN_lt hx (pwR_lt _).1 (by omega))
  obtain ⟨i, hi⟩ : ∃ i : Nat, p = (i : Int) - 348 := ⟨(p + 348).toNat, by omega⟩
  have hi6 : i < 696 := by omega
  subst hi
  have HEQ := Lib.hid (show pfE d ((i : Int) - 348) = min 1074 (53 - (pfB d : Nat) - pfL ((i : Int) - 348)) from rfl)
  have hmin : min 1074 (53 - (pfB d : Int) - pfL ((i : Int) - 348)) = pfE d ((i : Int) - 348) := rfl
  have hlp : ((i : Int) - 348) * 108853 / 32768 = pfL ((i : Int) - 348) := rfl
  have HLOG := Lib.hid (fun w => log2_any (p := (i : Int) - 348) (by omega) (by omega) w)
  rw [hlp] at HLOG
  clear hlp
  have hN : Hid (pf64 d ((i : Int) - 348) = (if 64 ≤ pfS d ((i : Int) - 348) then 0 else packN (rndN (pfV (pfU d ((i : Int) - 348)))) (-(pfE d ((i : Int) - 348) - (pfT (pfU d ((i : Int) - 348)) : Nat)))) ∧
    pf64E d ((i : Int) - 348) = (if 64 ≤ pfS d ((i : Int) - 348) then .nilIface else packE (rndN (pfV (pfU d ((i : Int) - 348)))) (-(pfE d ((i : Int) - 348) - (pfT (pfU d ((i : Int) - 348)) : Nat))))) := Lib.hid ⟨rfl, rfl⟩
  have hUE : Hid (pfU d ((i : Int) - 348) = uscN (pfX d) (pwR i).1 (pwR i).2 (pfS d ((i : Int) - 348)).toNat) := Lib.hid (by
    unfold pfU
    rw [show ((i : Int) - 348 + 348).toNat = i by omega])
  have hXE : Hid (pfX d = d * 2 ^ (64 - pfB d) % 18446744073709551616) := Lib.hid rfl
  obtain ⟨F, hF⟩ : ∃ F, pf64 d ((i : Int) - 348) = F := ⟨_, rfl⟩
  obtain ⟨R, hR⟩ : ∃ R, pf64E d ((i : Int) - 348) = R := ⟨_, rfl⟩
  rw [hF, hR] at hN ⊢
  clear hF hR
  go_enter Tryz.func109, Tryz.ntmps109
  go_wp2_with fail
  refine (HLEN.out _).mono ?_
  rintro e w2 ⟨rfl, rfl⟩
  go_wp2_with fail
  refine (HLOG.out _).mono ?_
  rintro e w3 ⟨rfl, rfl⟩
  go_wp2_with fail
  have hG2 : PwG B (w2.alloc (Obj.cells #[.int .u64 0, .int .u64 0, .int .i64 0] 196)) := hG.keeps hB ((Below.refl _ _).alloc (Nat.le_refl _) _)
  refine (prescale_any hG2 hB (block_new _ _ rfl) hi6 (by omega) (by omega) (by omega) (by omega)).mono ?_
  rintro e w4 ⟨⟨v, rfl⟩, hh, hb4⟩
  have hB4 : Hid (Below w2.heap.size w2 w4) := Lib.hid (((Below.refl _ _).alloc (Nat.le_refl _) _).trans hb4)
  rw [show -(pfE d ((i : Int) - 348) - (64 - (pfB d : Int)) + pfL ((i : Int) - 348) + 3) = pfS d ((i : Int) - 348) from rfl] at hh
  have c2 : w4.cell? ⟨w2.heap.size, 2, none⟩ = some (.int .i64 (pfS d ((i : Int) - 348))) := block_cell hh rfl
  obtain ⟨g, hg⟩ : ∃ g, w2.heap.size = g := ⟨_, rfl⟩
  rw [hg] at hh c2 ⊢
  clear hmin HEQ HLOG HLEN hG hG2 hb4 hg
  generalize pfE d ((i : Int) - 348) = E at *
  generalize pfL ((i : Int) - 348) = L at *
  generalize pfS d ((i : Int) - 348) = S at *
  generalize pfB d = b at *
  generalize pfX d = X at *
  generalize pfU d ((i : Int) - 348) = U at *
  by_cases h64 : 64 ≤ S
  · exact absurd h64 (by omega)
  · have hN2 : Hid (F = packN (rndN (pfV U)) (-(E - (pfT U : Nat))) ∧ R = packE (rndN (pfV U)) (-(E - (pfT U : Nat)))) := Lib.hid (by rw [hN.out.1, hN.out.2, if_neg h64, if_neg h64]; exact ⟨rfl, rfl⟩)
    obtain ⟨s, rfl⟩ : ∃ s : Nat, S = (s : Int) := ⟨S.toNat, by omega⟩
    have hul : U < 72057594037927936 := by
      rcases hu with h | h
      · exact absurd h h64
      · exact h
    have HUS : Hid (Calls Tryz.prog 134 #[.int .u64 X, .pointer (some ⟨g, 0, none⟩)] w4 fun en w' => en = .returned (.int .u64 (U : Nat)) ∧ ∃ n, w' = w4.drewN n) := Lib.hid (by
      rw [hUE.out]
      exact uscale_any hx (pwR_lt i).1 (pwR_lt i).2 (by omega) (by omega) hh)
    clear hN hu hUE
    have hXI : IntKind.u64.wrap ((d : Int) * 2 ^ (64 - b)) = ((X : Nat) : Int) := by
      rw [hXE.out]
      simp [IntKind.wrap, IntKind.bits, IntKind.signed]
    obtain ⟨V, hV⟩ : ∃ V, pfV U = V := ⟨_, rfl⟩
    have hVl : V < 36028797018963968 := by rw [← hV]; exact pfV_lt hul
    have hrl := rndN_le hVl
    rw [hV] at hN2
    have HRD := Lib.hid (fun w => round_any (u := V) (by omega) w)
    have hand : bits .and .u64 (U : Int) 1 = ((U % 2 : Nat) : Int) := by
      have := u64_and_nat U 1 (by omega) (by decide)
      rw [nat_mask1] at this
      exact this
    obtain ⟨Z, hZ⟩ : ∃ Z, U % 2 = Z := ⟨_, rfl⟩
    have hZl : Z ≤ 1 := by omega
    rw [hZ] at hand
    have hor0 : bits .or .u64 9223372036854775808 ((rndN V : Nat) : Int) = ((rndN V + 9223372036854775808 : Nat) : Int) := by
      have := u64_or_nat 9223372036854775808 (rndN V) (by decide) (by omega)
      rw [sg_or (by omega)] at this
      exact this
    have h64I : (s : Int) < 64 := by omega
    clear hXE h64 hh
    by_cases hc : 36028797018963966 ≤ U
    · have hT : pfT U = 1 := by unfold pfT; rw [if_pos hc]
      have hVV : V = U / 2 ||| Z := by rw [← hV, ← hZ]; unfold pfV; rw [hT]
      have hor : bits .or .u64 ((U : Int) / 2) ((Z : Nat) : Int) = ((V : Nat) : Int) := by
        have := u64_or_nat (U / 2) Z (by omega) (by omega)
        rw [hVV]
        exact this
      have hcI : (36028797018963966 : Int) ≤ (U : Int) := by omega
      have HN3 : Hid (F = packN (rndN V) (-(E - 1)) ∧ R = packE (rndN V) (-(E - 1))) := Lib.hid (by
        rw [hN2.out.1, hN2.out.2, hT]
        exact ⟨rfl, rfl⟩)
      have HPK : Hid (∀ w, Calls Tryz.prog 154 #[.int .u64 (rndN V + 9223372036854775808 : Nat), .int .i64 (-(E - 1))] w fun en w' => en = .returned (.tuple #[.float .f64 (packN (rndN V) (-(E - 1)) + 9223372036854775808), packE (rndN V) (-(E - 1))]) ∧ ∃ n, w' = w.drewN n) := Lib.hid fun w =>
        packS_any hrl (by omega) (by omega) w
      clear hN2 hV hVV hT hc hZ
      generalize rndN V = r at *
      go_wp2_with fail
      try rw [hXI]
      refine HUS.out.mono ?_
      rintro e w5 ⟨rfl, n5, rfl⟩
      go_wp2_with fail
      refine (unmin_any _).mono ?_
      rintro e w6 ⟨rfl, rfl⟩
      go_wp2_with fail
      refine (Tryz.internal_strconv_bool2_int _ _).mono ?_
      rintro e w7 ⟨rfl, rfl⟩
      go_wp2_with fail
      refine (HRD.out _).mono ?_
      rintro e w8 ⟨rfl, rfl⟩
      go_wp2_with fail
      refine (HPK.out _).mono ?_
      rintro e w9 ⟨rfl, n9, rfl⟩
      go_wp2_with fail
      go_ret2
      rw [HN3.out.1, HN3.out.2]
      exact ⟨rfl, below_drewN hB4.out _⟩
    · have hT : pfT U = 0 := by unfold pfT; rw [if_neg hc]
      have hVV : V = U ||| Z := by rw [← hV, ← hZ]; unfold pfV; rw [hT, Nat.pow_zero, Nat.div_one]
      have hor : bits .or .u64 (U : Int) ((Z : Nat) : Int) = ((V : Nat) : Int) := by
        have := u64_or_nat U Z (by omega) (by omega)
        rw [hVV]
        exact this
      obtain ⟨K, hK⟩ : ∃ K : Int, K = 36028797018963966 := ⟨_, rfl⟩
      have hcI : ¬ (K ≤ (U : Int)) := by omega
      have HUM : Hid (∀ w, Calls Tryz.prog 139 #[.int .u64 9007199254740992] w fun e w' => e = .returned (.int .u64 K) ∧ w = w') := Lib.hid fun w => by rw [hK]; exact unmin_any w
      have HN3 : Hid (F = packN (rndN V) (-E) ∧ R = packE (rndN V) (-E)) := Lib.hid (by
        rw [hN2.out.1, hN2.out.2, hT]
        simp)
      have HPK : Hid (∀ w, Calls Tryz.prog 154 #[.int .u64 (rndN V + 9223372036854775808 : Nat), .int .i64 (-E)] w fun en w' => en = .returned (.tuple #[.float .f64 (packN (rndN V) (-E) + 9223372036854775808), packE (rndN V) (-E)]) ∧ ∃ n, w' = w.drewN n) := Lib.hid fun w =>
        packS_any hrl (by omega) (by omega) w
      clear hN2 hV hVV hT hc hZ hK
      generalize rndN V = r at *
      go_wp2_with fail
      try rw [hXI]
      refine HUS.out.mono ?_
      rintro e w5 ⟨rfl, n5, rfl⟩
      go_wp2_with fail
      refine (HUM.out _).mono ?_
      rintro e w6 ⟨rfl, rfl⟩
      go_wp2_with fail
      refine (Tryz.internal_strconv_bool2_int _ _).mono ?_
      rintro e w7 ⟨rfl, rfl⟩
      go_wp2_with fail
      refine (HRD.out _).mono ?_
      rintro e w8 ⟨rfl, rfl⟩
      go_wp2_with fail
      refine (HPK.out _).mono ?_
      rintro e w9 ⟨rfl, n9, rfl⟩
      go_wp2_with fail
      go_ret2
      rw [HN3.out.1, HN3.out.2]
      exact ⟨rfl, below_drewN hB4.out _⟩
end Go.Proofs.YtbgjhgohffkonaaGreatDoor

