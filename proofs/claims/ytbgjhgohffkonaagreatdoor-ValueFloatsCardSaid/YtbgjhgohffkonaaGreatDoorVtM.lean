/- The exact way of a number below nought. -/
import Derived.Test.YtbgjhgohffkonaaGreatDoorM06
import Derived.Test.YtbgjhgohffkonaaGreatDoorM39
namespace Go.Proofs.YtbgjhgohffkonaaGreatDoor
open Go.RowKit
set_option linter.unusedVariables false
set_option maxHeartbeats 1000000 in
set_option maxRecDepth 100000 in
theorem exactN_any {B : Nat} {w : World} (hP : P10G B w) (hM : w.cell? ⟨6, 0, none⟩ = some (.int .u64 52)) {m : Nat} (hm : m < 18446744073709551616) {e : Int} (h1 : -1000000 ≤ e) (h2 : e ≤ 1000000) :
    Calls Tryz.prog 108 #[.int .u64 m, .int .i64 e, .bool true] w fun en w' => ExPost ((exR m e).map fun x => x + 9223372036854775808) w en w' := by
  obtain ⟨R, hR⟩ : ∃ R, exR m e = R := ⟨_, rfl⟩
  have HR := Lib.hid hR
  rw [hR]
  clear hR
  obtain ⟨_, b, o, c, _, q2, q3⟩ := hP
  have hsh : (m : Int) / 4503599627370496 = ((m / 4503599627370496 : Nat) : Int) := by omega
  obtain ⟨F, hF⟩ : ∃ F, exF m = F := ⟨_, rfl⟩
  have hFF : Fin' F := hF ▸ exF_fin m
  have f0 : floatOfInt FloatKind.f64 (m : Int) = F := hF
  obtain ⟨F', hF'⟩ : ∃ F', F + 9223372036854775808 = F' := ⟨_, rfl⟩
  have hneg : ∀ W, Sem.run Tryz.prog (Op.unary .neg (.float .f64 F)) W = .ok (.float .f64 F') W := fun W => by
    rw [← hF', ← neg_is (fin_lt hFF)]
    rfl
  by_cases hbig : 4503599627370496 ≤ m
  · have HE : Hid (R = none) := Lib.hid (by rw [← HR.out]; unfold exR; rw [if_pos hbig])
    have hz : (((m / 4503599627370496 : Nat) : Int) != 0) = true := by simp; omega
    clear HR q3 hF
    generalize m / 4503599627370496 = m2 at *
    go_enter Tryz.func108, Tryz.ntmps108
    go_wp2_with fail
    go_ret2
    rw [HE.out]
    exact ⟨⟨_, rfl⟩, rfl⟩
  · have hz : (((m / 4503599627370496 : Nat) : Int) != 0) = false := by simp; omega
    have HS : Hid ((if e = 0 then some F else if 0 < e ∧ e ≤ 37 then (if 22 < e then exM (mulP F (e - 22).toNat) 22 else exM F e.toNat) else if e < 0 ∧ -22 ≤ e then some (divP F (-e).toNat) else none) = R) := Lib.hid (by
      rw [← HR.out]; unfold exR; rw [if_neg hbig, hF])
    clear HR hF hbig
    generalize m / 4503599627370496 = m2 at *
    by_cases he0 : e = 0
    · subst he0
      have HE : Hid (R = some F) := Lib.hid (by rw [← HS.out, if_pos rfl])
      have HF' := Lib.hid hF'
      clear HS q3 hF'
      go_enter Tryz.func108, Tryz.ntmps108
      go_wp2_with fail
      go_ret2
      rw [HE.out, ← HF'.out]
      exact ⟨rfl, rfl⟩
    · have hez : (e == 0) = false := by simpa using he0
      by_cases hpos : 0 < e
      · by_cases h37 : e ≤ 37
        · by_cases h22 : 22 < e
          · obtain ⟨k, hk⟩ : ∃ k : Nat, e = (k : Int) + 22 := ⟨(e - 22).toNat, by omega⟩
            subst hk
            obtain ⟨y1, y2⟩ := mulP_is hFF (k := k) (by omega)
            have HE0 : Hid (exM (mulP F k) 22 = R) := Lib.hid (by
              rw [← HS.out, if_neg he0, if_pos ⟨hpos, h37⟩, if_pos h22, show ((k : Int) + 22 - 22).toNat = k by omega])
            have c1 := q3 k (by omega)
            have c2 := q3 22 (by omega)
            have hmul : ∀ W, (binOp BinOp.mul 24 (.float .f64 F') (.float .f64 (p10 k))).run Tryz.prog W = .ok (.float .f64 (mulP F k + 9223372036854775808)) W := fun W => by rw [← hF']; exact run_float_arith W _ _ _ _ _ _ (mul_sign hFF (k := k) (by omega))
            obtain ⟨G, hG⟩ : ∃ G, mulP F k = G := ⟨_, rfl⟩
            rw [hG] at y2 hmul HE0
            obtain ⟨G', hG'⟩ : ∃ G', G + 9223372036854775808 = G' := ⟨_, rfl⟩
            rw [hG'] at hmul
            obtain ⟨z1, z2⟩ := mulP_is y2 (k := 22) (by omega)
            have hmul2 : ∀ W, (binOp BinOp.mul 24 (.float .f64 G') (.float .f64 (p10 22))).run Tryz.prog W = .ok (.float .f64 (mulP G 22 + 9223372036854775808)) W := fun W => by rw [← hG']; exact run_float_arith W _ _ _ _ _ _ (mul_sign y2 (k := 22) (by omega))
            have hk1 : (k : Int) < 23 := by omega
            have hk2 : (22 : Int) < (k : Int) + 22 := by omega
            clear HS y1 z1 z2 hG q3
            generalize p10 k = t1 at *
            generalize p10 22 = t2 at *
            have hc15 : (4831355200913801216 : Nat) + 9223372036854775808 = 14054727237768577024 := rfl
            have n1 : (FloatKind.f64.format.order G' 4831355200913801216 == some .gt) = false := by rw [← hG']; exact order_np y2 (by decide)
            have n2 : (FloatKind.f64.format.order G' 14054727237768577024 == some .lt) = (FloatKind.f64.format.order G 4831355200913801216 == some .gt) := by rw [← hG', ← hc15]; exact order_nn y2 (by unfold Fin'; decide)
            have n3 : ¬ (FloatKind.f64.format.order G 14054727237768577024 == some .lt) = true := by rw [← hc15, order_pn y2 (by decide)]; decide
            clear hc15
            by_cases o1 : (FloatKind.f64.format.order G 4831355200913801216 == some .gt) = true
            · have HE : Hid (R = none) := Lib.hid (by rw [← HE0.out]; unfold exM; rw [if_pos o1])
              rw [o1] at n2
              clear HE0 n3 o1
              go_enter Tryz.func108, Tryz.ntmps108
              go_wp2_with fail
              go_ret2
              rw [HE.out]
              exact ⟨⟨_, rfl⟩, rfl⟩
            · have HE : Hid (R = some (mulP G 22)) := Lib.hid (by rw [← HE0.out]; unfold exM; rw [if_neg o1, if_neg n3])
              rw [Bool.not_eq_true] at o1
              rw [o1] at n2
              clear HE0 o1 n3
              go_enter Tryz.func108, Tryz.ntmps108
              go_wp2_with fail
              go_ret2
              rw [HE.out]
              exact ⟨rfl, rfl⟩
          · obtain ⟨k, hk⟩ : ∃ k : Nat, e = (k : Int) := ⟨e.toNat, by omega⟩
            subst hk
            have HE0 : Hid (exM F k = R) := Lib.hid (by
              rw [← HS.out, if_neg he0, if_pos ⟨hpos, h37⟩, if_neg h22, Int.toNat_natCast])
            have c2 := q3 k (by omega)
            obtain ⟨z1, z2⟩ := mulP_is hFF (k := k) (by omega)
            have hmul2 : ∀ W, (binOp BinOp.mul 24 (.float .f64 F') (.float .f64 (p10 k))).run Tryz.prog W = .ok (.float .f64 (mulP F k + 9223372036854775808)) W := fun W => by rw [← hF']; exact run_float_arith W _ _ _ _ _ _ (mul_sign hFF (k := k) (by omega))
            have hk2 : ¬ ((22 : Int) < (k : Int)) := by omega
            have hk3 : (k : Int) < 23 := by omega
            clear HS z1 z2 q3
            generalize p10 k = t2 at *
            have hc15 : (4831355200913801216 : Nat) + 9223372036854775808 = 14054727237768577024 := rfl
            have n1 : (FloatKind.f64.format.order F' 4831355200913801216 == some .gt) = false := by rw [← hF']; exact order_np hFF (by decide)
            have n2 : (FloatKind.f64.format.order F' 14054727237768577024 == some .lt) = (FloatKind.f64.format.order F 4831355200913801216 == some .gt) := by rw [← hF', ← hc15]; exact order_nn hFF (by unfold Fin'; decide)
            have n3 : ¬ (FloatKind.f64.format.order F 14054727237768577024 == some .lt) = true := by rw [← hc15, order_pn hFF (by decide)]; decide
            clear hc15
            by_cases o1 : (FloatKind.f64.format.order F 4831355200913801216 == some .gt) = true
            · have HE : Hid (R = none) := Lib.hid (by rw [← HE0.out]; unfold exM; rw [if_pos o1])
              rw [o1] at n2
              clear HE0 n3 o1
              go_enter Tryz.func108, Tryz.ntmps108
              go_wp2_with fail
              go_ret2
              rw [HE.out]
              exact ⟨⟨_, rfl⟩, rfl⟩
            · have HE : Hid (R = some (mulP F k)) := Lib.hid (by rw [← HE0.out]; unfold exM; rw [if_neg o1, if_neg n3])
              rw [Bool.not_eq_true] at o1
              rw [o1] at n2
              clear HE0 o1 n3
              go_enter Tryz.func108, Tryz.ntmps108
              go_wp2_with fail
              go_ret2
              rw [HE.out]
              exact ⟨rfl, rfl⟩
        · have HE : Hid (R = none) := Lib.hid (by rw [← HS.out, if_neg he0, if_neg (by omega), if_neg (by omega)])
          clear HS q3
          go_enter Tryz.func108, Tryz.ntmps108
          go_wp2_with fail
          go_ret2
          rw [HE.out]
          exact ⟨⟨_, rfl⟩, rfl⟩
      · by_cases h22 : -22 ≤ e
        · obtain ⟨k, hk⟩ : ∃ k : Nat, e = -(k : Int) := ⟨(-e).toNat, by omega⟩
          subst hk
          have HE : Hid (R = some (divP F k)) := Lib.hid (by
            rw [← HS.out, if_neg he0, if_neg (by omega), if_pos ⟨by omega, h22⟩, show (-(-(k : Int))).toNat = k by omega])
          have c2 := q3 k (by omega)
          obtain ⟨z1, z2⟩ := divP_is hFF (k := k) (by omega)
          have hdiv : ∀ W, (binOp BinOp.quo 24 (.float .f64 F') (.float .f64 (p10 k))).run Tryz.prog W = .ok (.float .f64 (divP F k + 9223372036854775808)) W := fun W => by rw [← hF']; exact run_float_arith W _ _ _ _ _ _ (div_sign hFF (k := k) (by omega))
          have hk3 : (k : Int) < 23 := by omega
          have hk4 : (-(k : Int)) < 0 := by omega
          clear HS z1 z2 q3
          generalize p10 k = t2 at *
          go_enter Tryz.func108, Tryz.ntmps108
          go_wp2_with fail
          go_ret2
          rw [HE.out]
          exact ⟨rfl, rfl⟩
        · have HE : Hid (R = none) := Lib.hid (by rw [← HS.out, if_neg he0, if_neg (by omega), if_neg (by omega)])
          have hng : e < 0 := by omega
          clear HS q3
          go_enter Tryz.func108, Tryz.ntmps108
          go_wp2_with fail
          go_ret2
          rw [HE.out]
          exact ⟨⟨_, rfl⟩, rfl⟩
end Go.Proofs.YtbgjhgohffkonaaGreatDoor

