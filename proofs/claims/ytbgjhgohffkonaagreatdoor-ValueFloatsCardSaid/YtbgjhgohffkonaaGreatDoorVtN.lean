/- strconv.ParseFloat at a text that is read as a float, with its sign: the float, and no error. -/
import Derived.Test.YtbgjhgohffkonaaGreatDoorM03
import Derived.Test.YtbgjhgohffkonaaGreatDoorVtG
import Derived.Test.YtbgjhgohffkonaaGreatDoorM39
import Derived.Test.YtbgjhgohffkonaaGreatDoorVtL
import Derived.Test.YtbgjhgohffkonaaGreatDoorVtM
namespace Go.Proofs.YtbgjhgohffkonaaGreatDoor
open Go.RowKit
set_option linter.unusedVariables false
attribute [local go_sem] run_frombits
theorem bool2_ff (w : World) : Calls Tryz.prog 106 #[.bool false] w fun e w' => e = .returned (.int .u64 0) ∧ w = w' := (bool2_any false w).mono fun _ _ h => h
theorem bool2_tt (w : World) : Calls Tryz.prog 106 #[.bool true] w fun e w' => e = .returned (.int .u64 1) ∧ w = w' := (bool2_any true w).mono fun _ _ h => h
/-- What the package variables hold that the reader of floats looks at. -/
structure PfG (B : Nat) (w : World) : Prop where
  opt0 : 3 < B
  opt : w.cell? ⟨3, 0, none⟩ = some (.bool true)
  inf : 6 < B
  mant : w.cell? ⟨6, 0, none⟩ = some (.int .u64 52)
  p10 : P10G B w
  pw : PwG B w
theorem PfG.keeps {B B' : Nat} {w w' : World} (hB : B ≤ B') (hb : Below B' w w') (h : PfG B w) : PfG B w' where
  opt0 := h.opt0
  opt := by rw [hb.cell (show (3 : Nat) < B' by have := h.opt0; omega)]; exact h.opt
  inf := h.inf
  mant := by rw [hb.cell (show (6 : Nat) < B' by have := h.inf; omega)]; exact h.mant
  p10 := h.p10.keeps hB hb
  pw := h.pw.keeps hB hb
theorem pf64E_nil {d : Nat} {p : Int} (h1 : pfS d p < 64) (h2 : -(pfE d p - (pfT (pfU d p) : Nat)) < 972) : pf64E d p = .nilIface := by
  unfold pf64E packE
  rw [if_neg (by omega)]
  split
  · rfl
  · rw [if_neg (by omega)]
set_option maxHeartbeats 1000000 in
set_option maxRecDepth 100000 in
theorem atofP_any {B : Nat} {w : World} (hG : PfG B w) (hB : B ≤ w.heap.size) {t : ByteArray} {p q r : Nat} {s : Int} {F : Nat} (hS : Shp t p q) (hT : Tl t q r s) (htr : (rfAt t q).tr = false) (hR : Rds (rfAt t q).m (rfX t q r s) F) :
    Calls Tryz.prog 64 #[.string t] w fun e w' => e = .returned (.tuple #[.float .f64 (F), .int .i64 t.size, .nilIface]) ∧ Below w.heap.size w w' := by
  have hsz := hS.small
  have hpos := hS.pos
  have hlt := hS.lt
  have hle := hS.le
  obtain ⟨z0, z1, z2⟩ := hS.digit (i := 0) (by omega) (by omega)
  have HSP := Lib.hid (special_any z0 (by omega) z1 z2)
  have HRF := Lib.hid (fun w => readFloat_any (w := w) hS hT)
  rw [htr] at HRF
  obtain ⟨M, hM⟩ : ∃ M, (rfAt t q).m = M := ⟨_, rfl⟩
  rw [hM] at hR HRF
  clear htr hM hS hT hpos hlt hle z1 z2
  generalize rfX t q r s = X at *
  have o1 := hG.opt
  have b0 : bits .or .u64 0 0 = 0 := by decide
  rcases hR with ⟨hm0, hF⟩ | ⟨hm0, hml, hx1, hx2, hR⟩
  · subst hm0 hF
    clear hG
    go_enter Tryz.func64, Tryz.ntmps64
    go_wp2_with fail
    refine (HSP.out _).mono ?_
    rintro e w2 ⟨rfl, rfl⟩
    go_wp2_with fail
    refine (HRF.out _).mono ?_
    rintro e w2 ⟨rfl, n1, rfl⟩
    have o2 : (w.drewN n1).cell? ⟨3, 0, none⟩ = some (.bool true) := o1
    go_wp2_with fail
    refine (bool2_ff _).mono ?_
    rintro e w3 ⟨rfl, rfl⟩
    go_wp2_with fail
    go_ret3
    exact ⟨rfl, below_drewN (Below.refl _ _) _⟩
  · have hmz : ((M : Int) == 0) = false := by simp; omega
    have hx3 : ¬ ((310 : Int) < X) := by omega
    have hx4 : ¬ (X < (-345 : Int)) := by omega
    have HEX := Lib.hid (fun n => exact_any (w := w.drewN n) (hG.p10.keeps hB (below_drewN (Below.refl _ _) n)) hG.mant (m := M) (by omega) (e := X) (by omega) (by omega))
    rcases hR with hR | ⟨hR, g1, g2, g3⟩
    · rw [hR] at HEX
      clear hG hR
      go_enter Tryz.func64, Tryz.ntmps64
      go_wp2_with fail
      refine (HSP.out _).mono ?_
      rintro e w2 ⟨rfl, rfl⟩
      go_wp2_with fail
      refine (HRF.out _).mono ?_
      rintro e w2 ⟨rfl, n1, rfl⟩
      have o2 : (w.drewN n1).cell? ⟨3, 0, none⟩ = some (.bool true) := o1
      go_wp2_with fail
      refine (bool2_ff _).mono ?_
      rintro e w3 ⟨rfl, rfl⟩
      go_wp2_with fail
      refine (HEX.out _).mono ?_
      rintro e w4 ⟨he4, rfl⟩
      change e = .returned (.tuple #[.float .f64 (F), .bool true]) at he4
      subst he4
      go_wp2_with fail
      go_ret3
      exact ⟨rfl, below_drewN (Below.refl _ _) _⟩
    · rw [hR] at HEX
      have hE := pf64E_nil g2 g3
      have HP1 := Lib.hid (fun (w' : World) (hb' : Below w.heap.size w w') => parse64_any (d := M) (p := X) (hG.pw.keeps hB hb') (Nat.le_trans hB hb'.size) (by omega) (by omega) (by omega))
      rw [g1, hE] at HP1
      clear hG hR hE g1 g2 g3
      go_enter Tryz.func64, Tryz.ntmps64
      go_wp2_with fail
      refine (HSP.out _).mono ?_
      rintro e w2 ⟨rfl, rfl⟩
      go_wp2_with fail
      refine (HRF.out _).mono ?_
      rintro e w2 ⟨rfl, n1, rfl⟩
      have o2 : (w.drewN n1).cell? ⟨3, 0, none⟩ = some (.bool true) := o1
      go_wp2_with fail
      refine (bool2_ff _).mono ?_
      rintro e w3 ⟨rfl, rfl⟩
      go_wp2_with fail
      refine (HEX.out _).mono ?_
      rintro e w4 ⟨he4, rfl⟩
      obtain ⟨y, hy⟩ : ∃ y, e = .returned (.tuple #[.float .f64 y, .bool false]) := he4
      subst hy
      go_wp2_with fail
      refine (HP1.out _ (below_drewN (Below.refl _ _) _)).mono ?_
      rintro e w5 ⟨rfl, hb5⟩
      go_wp2_with fail
      go_ret3
      exact ⟨rfl, (below_drewN (Below.refl _ _) _).trans hb5⟩
set_option maxHeartbeats 1000000 in
set_option maxRecDepth 100000 in
theorem atofN_any {B : Nat} {w : World} (hG : PfG B w) (hB : B ≤ w.heap.size) {t S : ByteArray} (hz : S.size = t.size + 1) (h45 : ∀ h : 0 < S.size, S[0] = 45) (hb : ∀ k (h : k < t.size) (h' : k + 1 < S.size), S[k + 1] = t[k]) {p q r : Nat} {s : Int} {F : Nat} (hS : Shp t p q) (hT : Tl t q r s) (htr : (rfAt t q).tr = false) (hR : Rds (rfAt t q).m (rfX t q r s) F) :
    Calls Tryz.prog 64 #[.string S] w fun e w' => e = .returned (.tuple #[.float .f64 (F + 9223372036854775808), .int .i64 S.size, .nilIface]) ∧ Below w.heap.size w w' := by
  have hsz := hS.small
  have hpos := hS.pos
  have hlt := hS.lt
  have hle := hS.le
  obtain ⟨z0, z1, z2⟩ := hS.digit (i := 0) (by omega) (by omega)
  have hz1 : 1 < S.size := by omega
  have hz0 : 0 < S.size := by omega
  have HSP := Lib.hid (specialN_any hz1 (by omega) (h45 hz0) (by rw [hb 0 z0 (by omega)]; exact z2))
  have HRF := Lib.hid (fun w => readFloatN_any (w := w) hS hT hz h45 hb)
  rw [htr] at HRF
  obtain ⟨M, hM⟩ : ∃ M, (rfAt t q).m = M := ⟨_, rfl⟩
  rw [hM] at hR HRF
  clear htr hM hS hT hpos hlt hle z1 z2 hz h45 hb hz1 hz0
  generalize rfX t q r s = X at *
  have o1 := hG.opt
  have b0 : bits .or .u64 9223372036854775808 0 = 9223372036854775808 := by decide
  rcases hR with ⟨hm0, hF⟩ | ⟨hm0, hml, hx1, hx2, hR⟩
  · subst hm0 hF
    clear hG
    go_enter Tryz.func64, Tryz.ntmps64
    go_wp2_with fail
    refine (HSP.out _).mono ?_
    rintro e w2 ⟨rfl, rfl⟩
    go_wp2_with fail
    refine (HRF.out _).mono ?_
    rintro e w2 ⟨rfl, n1, rfl⟩
    have o2 : (w.drewN n1).cell? ⟨3, 0, none⟩ = some (.bool true) := o1
    go_wp2_with fail
    refine (bool2_tt _).mono ?_
    rintro e w3 ⟨rfl, rfl⟩
    go_wp2_with fail
    go_ret3
    exact ⟨rfl, below_drewN (Below.refl _ _) _⟩
  · have hmz : ((M : Int) == 0) = false := by simp; omega
    have hx3 : ¬ ((310 : Int) < X) := by omega
    have hx4 : ¬ (X < (-345 : Int)) := by omega
    have HEX := Lib.hid (fun n => exactN_any (w := w.drewN n) (hG.p10.keeps hB (below_drewN (Below.refl _ _) n)) hG.mant (m := M) (by omega) (e := X) (by omega) (by omega))
    rcases hR with hR | ⟨hR, g1, g2, g3⟩
    · rw [hR] at HEX
      clear hG hR
      go_enter Tryz.func64, Tryz.ntmps64
      go_wp2_with fail
      refine (HSP.out _).mono ?_
      rintro e w2 ⟨rfl, rfl⟩
      go_wp2_with fail
      refine (HRF.out _).mono ?_
      rintro e w2 ⟨rfl, n1, rfl⟩
      have o2 : (w.drewN n1).cell? ⟨3, 0, none⟩ = some (.bool true) := o1
      go_wp2_with fail
      refine (bool2_tt _).mono ?_
      rintro e w3 ⟨rfl, rfl⟩
      go_wp2_with fail
      refine (HEX.out _).mono ?_
      rintro e w4 ⟨he4, rfl⟩
      change e = .returned (.tuple #[.float .f64 (F + 9223372036854775808), .bool true]) at he4
      subst he4
      go_wp2_with fail
      go_ret3
      exact ⟨rfl, below_drewN (Below.refl _ _) _⟩
    · rw [hR] at HEX
      have hE := pf64E_nil g2 g3
      have HP1 := Lib.hid (fun (w' : World) (hb' : Below w.heap.size w w') => parse64S_any (d := M) (p := X) (hG.pw.keeps hB hb') (Nat.le_trans hB hb'.size) (by omega) (by omega) (by omega) g2)
      rw [g1, hE] at HP1
      clear hG hR hE g1 g2 g3
      go_enter Tryz.func64, Tryz.ntmps64
      go_wp2_with fail
      refine (HSP.out _).mono ?_
      rintro e w2 ⟨rfl, rfl⟩
      go_wp2_with fail
      refine (HRF.out _).mono ?_
      rintro e w2 ⟨rfl, n1, rfl⟩
      have o2 : (w.drewN n1).cell? ⟨3, 0, none⟩ = some (.bool true) := o1
      go_wp2_with fail
      refine (bool2_tt _).mono ?_
      rintro e w3 ⟨rfl, rfl⟩
      go_wp2_with fail
      refine (HEX.out _).mono ?_
      rintro e w4 ⟨he4, rfl⟩
      obtain ⟨y, hy⟩ : ∃ y, e = .returned (.tuple #[.float .f64 y, .bool false]) := he4
      subst hy
      go_wp2_with fail
      refine (HP1.out _ (below_drewN (Below.refl _ _) _)).mono ?_
      rintro e w5 ⟨rfl, hb5⟩
      go_wp2_with fail
      go_ret3
      exact ⟨rfl, (below_drewN (Below.refl _ _) _).trans hb5⟩
/-- A text that is read as the bits F, whatever its sign. -/
def AtG (t : ByteArray) (F : Nat) (w : World) : Prop := Calls Tryz.prog 64 #[.string t] w fun e w' => e = .returned (.tuple #[.float .f64 F, .int .i64 t.size, .nilIface]) ∧ Below w.heap.size w w'
set_option maxRecDepth 100000 in
theorem prefixS_any {w : World} {t : ByteArray} {F : Nat} (h : AtG t F w) : Calls Tryz.prog 40 #[.string t, .int .i64 64] w fun e w' => e = .returned (.tuple #[.float .f64 F, .int .i64 t.size, .nilIface]) ∧ Below w.heap.size w w' := by
  have H := Lib.hid h
  clear h
  unfold AtG at H
  go_enter Tryz.func40, Tryz.ntmps40
  go_wp2_with fail
  refine H.out.mono ?_
  rintro e w2 ⟨rfl, hb⟩
  go_wp2_with fail
  go_ret3
  exact ⟨rfl, hb⟩
set_option maxRecDepth 100000 in
theorem parseInS_any {w : World} {t : ByteArray} {F : Nat} (h : AtG t F w) : Calls Tryz.prog 22 #[.string t, .int .i64 64] w fun e w' => e = .returned (.tuple #[.float .f64 F, .nilIface]) ∧ Below w.heap.size w w' := by
  have H := Lib.hid (prefixS_any h)
  clear h
  have hz : ((t.size : Int) != (t.size : Int)) = false := by simp
  go_enter Tryz.func22, Tryz.ntmps22
  go_wp2_with fail
  refine H.out.mono ?_
  rintro e w2 ⟨rfl, hb⟩
  go_wp2_with fail
  go_ret2
  exact ⟨rfl, hb⟩
set_option maxRecDepth 100000 in
theorem parseFloatS_any {w : World} {t : ByteArray} {F : Nat} (h : AtG t F w) : Calls Tryz.prog 7 #[.string t, .int .i64 64] w fun e w' => e = .returned (.tuple #[.float .f64 F, .nilIface]) ∧ Below w.heap.size w w' := by
  have H := Lib.hid (parseInS_any h)
  clear h
  go_enter Tryz.func7, Tryz.ntmps7
  go_wp2_with fail
  refine H.out.mono ?_
  rintro e w2 ⟨rfl, hb⟩
  go_wp2_with fail
  go_ret2
  exact ⟨rfl, hb⟩
/-- A float's text, with its sign, is read as that float. -/
theorem atG_of {B : Nat} {w : World} (hG : PfG B w) (hB : B ≤ w.heap.size) {l : List UInt8} {F : Nat} (neg : Bool) (h : Rd l F) : AtG ⟨(fmS neg ++ l).toArray⟩ (F + if neg then 9223372036854775808 else 0) w := by
  obtain ⟨A, Bb, X, r, s, hl, hS, hT, htr, hR⟩ := h
  cases neg
  · show AtG ⟨l.toArray⟩ F w
    exact atofP_any hG hB hS hT htr hR
  · show AtG ⟨(45 :: l).toArray⟩ (F + 9223372036854775808) w
    refine atofN_any (t := ⟨l.toArray⟩) (S := ⟨(45 :: l).toArray⟩) hG hB ?_ ?_ ?_ hS hT htr hR
    · show (45 :: l).toArray.size = l.toArray.size + 1
      simp
    · intro h
      rfl
    · intro k h h'
      rfl
end Go.Proofs.YtbgjhgohffkonaaGreatDoor

