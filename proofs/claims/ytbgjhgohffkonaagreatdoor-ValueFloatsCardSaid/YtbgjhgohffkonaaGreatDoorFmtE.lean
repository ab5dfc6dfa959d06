/- internal/strconv.fmtEFG at 'f' of nought, and at 'e': the walk. -/
import Derived.Test.YtbgjhgohffkonaaGreatDoorM07
import Derived.Deep.DeepCutAuto
import Derived.Deep.CutBlock
namespace Go.Proofs.YtbgjhgohffkonaaGreatDoor
open Go.RowKit Go.Shelf
set_option linter.unusedSimpArgs false
set_option linter.unusedVariables false
set_option maxHeartbeats 4000000 in
set_option maxRecDepth 100000 in
theorem fmtF_zero {w : World} {base bb : Nat} {v : Value} (hD : DS base bb [] w w v []) (neg : Bool) :
    Calls Tryz.prog 84 #[v, .bool neg, .slice none 0 0, .int .i64 0, .int .i64 0, .int .i64 (-1), .int .u8 102, .bool true] w fun e w' => ∃ v', e = .returned v' ∧ DS base bb [] w w' v' (fmS neg ++ [48]) := by
  obtain ⟨a0, c0, hv⟩ := hD.shape
  have HV := Lib.hid hv
  have hs1 : (fmS neg).length ≤ 1 := by unfold fmS; split <;> simp
  clear hv
  go_enter Tryz.func84, Tryz.ntmps84
  go_upto_if 178 with fail
  go_cut [0] from 179 to 181 (fun d wx => ∃ v1, d = v1 ∧ DS base bb [] w wx v1 (fmS neg))
  case first =>
    cases neg
    · go_wp2_with fail
      go_meet
      exact ⟨_, rfl, hD⟩
    · go_wp2_with (at_builtin
                   go_loud (refine append_d1 rfl _ _ rfl rfl (hD.alloc _) w.heap.size 1 45 rfl (block_cell (block_new _ _ rfl) rfl) (by simp) ?_)
                   intro v1 w1 hd1)
      go_meet
      exact ⟨_, rfl, hd1⟩
  case rest =>
    obtain ⟨v1, rfl, hd1⟩ := hcut
    obtain ⟨S, hS⟩ : ∃ S, fmS neg = S := ⟨_, rfl⟩
    have HS := Lib.hid hS
    rw [hS] at hd1 hs1
    clear hS
    go_wp2_with (at_builtin
                 go_loud (refine append_d1 (b := 48) rfl _ _ rfl rfl (hd1.alloc _) _ _ rfl (block_cell (block_new _ _ rfl) rfl) (by omega) ?_)
                 intro v2 w2 hd2)
    go_ret
    refine ⟨v2, rfl, ?_⟩
    rw [HS.out]
    exact hd2
theorem two_new {w : World} {a b : UInt8} {x y : Value} {ty : TypeId} (h : x = .int .u8 a.toNat ∧ y = .int .u8 b.toNat) : ∀ (j : Nat) (c : UInt8), [a, b][j]? = some c → (w.alloc (.cells #[x, y] ty)).cell? ⟨w.heap.size, 0 + j, none⟩ = some (.int .u8 c.toNat) := by
  obtain ⟨rfl, rfl⟩ := h
  intro j c hj
  match j, hj with
  | 0, hj => cases hj; exact block_cell (block_new _ _ rfl) rfl
  | 1, hj => cases hj; exact block_cell (block_new _ _ rfl) rfl
  | j + 2, hj => simp at hj
theorem three_new {w : World} {a b d : UInt8} {x y z : Value} {ty : TypeId} (h : x = .int .u8 a.toNat ∧ y = .int .u8 b.toNat ∧ z = .int .u8 d.toNat) : ∀ (j : Nat) (c : UInt8), [a, b, d][j]? = some c → (w.alloc (.cells #[x, y, z] ty)).cell? ⟨w.heap.size, 0 + j, none⟩ = some (.int .u8 c.toNat) := by
  obtain ⟨rfl, rfl, rfl⟩ := h
  intro j c hj
  match j, hj with
  | 0, hj => cases hj; exact block_cell (block_new _ _ rfl) rfl
  | 1, hj => cases hj; exact block_cell (block_new _ _ rfl) rfl
  | 2, hj => cases hj; exact block_cell (block_new _ _ rfl) rfl
  | j + 3, hj => simp at hj
/-- The exponent, as it is written. -/
def fmX (x : Int) : List UInt8 :=
  (if x < 0 then 45 else 43) :: (if x.natAbs < 10 then [48, UInt8.ofNat (48 + x.natAbs)] else if x.natAbs < 100 then [UInt8.ofNat (48 + x.natAbs / 10), UInt8.ofNat (48 + x.natAbs % 10)]
    else [UInt8.ofNat (48 + x.natAbs / 100), UInt8.ofNat (48 + x.natAbs / 10 % 10), UInt8.ofNat (48 + x.natAbs % 10)])
def fmM : List UInt8 → List UInt8
  | [] => []
  | [c] => [c]
  | c :: r => c :: 46 :: r
def fmE (neg : Bool) (D : List UInt8) (dp : Int) : List UInt8 := fmS neg ++ fmM D ++ [101] ++ fmX (dp - 1)
set_option maxHeartbeats 4000000 in
set_option maxRecDepth 100000 in
theorem fmtE_any {w : World} {base bb nd : Nat} {D : List UInt8} {v : Value} (hD : DS base bb D w w v []) (hnd : D.length = nd) (hn0 : 0 < nd) (hn1 : nd ≤ 32) (neg : Bool) (dp : Int) (h1 : -900 ≤ dp) (h2 : dp ≤ 900) :
    Calls Tryz.prog 84 #[v, .bool neg, .slice (some ⟨bb, 0, none⟩) 32 32, .int .i64 dp, .int .i64 (nd : Int), .int .i64 (max ((nd : Int) - 1) 0), .int .u8 101, .bool true] w fun e w' => ∃ v', e = .returned v' ∧ DS base bb D w w' v' (fmE neg D dp) := by
  obtain ⟨n, hn⟩ : ∃ n : Nat, nd = n + 1 := ⟨nd - 1, by omega⟩
  have hP : max ((nd : Int) - 1) 0 = (n : Int) := by omega
  rw [hP]
  obtain ⟨c0, hc0⟩ : ∃ c0, D[0]? = some c0 := ⟨D[0]'(by omega), List.getElem?_eq_getElem _⟩
  have hdc := hD.dig 0 c0 hc0
  have hndI : ((nd : Int) != 0) = true := by simp; omega
  have hndI2 : ((nd : Int) == 0) = false := by simp; omega
  have hmin : min (nd : Int) ((n : Int) + 1) = (nd : Int) := by omega
  have HN := Lib.hid hn
  have HM := Lib.hid (show fmM D = c0 :: (if n = 0 then [] else 46 :: D.drop 1) by
    match D, hc0 with
    | [c], hc0 => cases hc0; simp at hnd; rw [if_pos (by omega)]; rfl
    | c :: d :: r, hc0 => cases hc0; simp at hnd; rw [if_neg (by omega)]; rfl)
  obtain ⟨a0, k0, hv⟩ := hD.shape
  have HV := Lib.hid hv
  have hs1 : (fmS neg).length ≤ 1 := by unfold fmS; split <;> simp
  have HND := Lib.hid hnd
  have HF := Lib.hid (show fmE neg D dp = fmS neg ++ fmM D ++ [101] ++ fmX (dp - 1) from rfl)
  have hn31 : n ≤ 31 := by omega
  have hn2 : (nd : Int) ≤ 32 ∧ 1 ≤ (nd : Int) := by omega
  have HC0 := Lib.hid hc0
  clear hv hnd hn hc0 hP hdc
  go_enter Tryz.func84, Tryz.ntmps84
  go_upto_if 78 with fail
  go_cut [0] from 79 to 81 (fun d wx => DS base bb D w wx d (fmS neg))
  case first =>
    clear HF
    cases neg
    · go_wp2_with fail
      go_meet
      exact hD
    · go_wp2_with (at_builtin
                   go_loud (refine append_d1 rfl _ _ rfl rfl (hD.alloc _) w.heap.size 1 45 rfl (block_cell (block_new _ _ rfl) rfl) (by simp) ?_)
                   intro v1 w1 hd1)
      go_meet
      exact hd1
  case rest =>
    have hd1 := hcut
    have hdc := hd1.dig 0 c0 HC0.out
    generalize fmS neg = S at *
    clear hD hcut
    rw [HM.out] at HF
    clear HM
    go_upto_if 92 with (at_builtin
                        go_loud (refine append_d1 (b := c0) rfl _ _ rfl rfl (hd1.alloc _) _ _ rfl (block_cell (block_new _ _ rfl) rfl) (by omega) ?_)
                        intro v2 w2 hd2)
    go_cut [0, 20, 21, 92] from 93 to 119 (fun d _ _ _ wx => DS base bb D w wx d (S ++ c0 :: (if n = 0 then [] else 46 :: D.drop 1)))
    case first =>
      by_cases h0 : n = 0
      · have hif : Hid ((if n = 0 then [] else 46 :: D.drop 1) = ([] : List UInt8)) := Lib.hid (by rw [if_pos h0])
        have hnI : decide ((0 : Int) < (n : Int)) = false := decide_eq_false (by omega)
        have hnN : ¬ 0 < n := by omega
        clear h0
        go_wp2_with fail
        go_meet
        rw [hif.out]
        exact hd2
      · have hif : Hid ((if n = 0 then [] else 46 :: D.drop 1) = (46 :: D.drop 1 : List UInt8)) := Lib.hid (by rw [if_neg h0])
        have hnI : decide ((0 : Int) < (n : Int)) = true := decide_eq_true (by omega)
        have hnd1 : (1 : Int) < (nd : Int) := by have := HN.out; omega
        have hNl : (D.drop 1).length = n := by rw [List.length_drop, HND.out, HN.out]; omega
        have HNL := Lib.hid hNl
        have hz : (n : Int) + 1 - (nd : Int) = 0 := by have := HN.out; omega
        clear h0 hNl
        go_upto_region 31 with (at_builtin
                                go_loud (refine append_d1 (b := 46) rfl _ _ rfl rfl (hd2.alloc _) _ _ rfl (block_cell (block_new _ _ rfl) rfl) (by rw [List.length_append, List.length_singleton]; omega) ?_)
                                intro v3 w3 hd3)
        go_wp2_with (at_builtin
                     go_loud (refine append_ds (N := D.drop 1) rfl _ _ rfl rfl hd3 bb 1 31 ?hx ?hN ?hsz ?_)
                     case hx => (go_simp; rw [HND.out])
                     case hN => exact fun j b hj => hd3.dig (1 + j) b (by rw [List.getElem?_drop] at hj; exact hj)
                     case hsz => (rw [HNL.out, List.length_append, List.length_append, List.length_singleton, List.length_singleton]; omega)
                     intro v4 w4 hd4)
        go_loopw [0, 114] (fun d iv wx => iv = .int .i64 0 ∧ DS base bb D w wx d (S ++ [c0] ++ [46] ++ D.drop 1)) (fun _ _ _ => 0)
        case atStart => exact ⟨rfl, hd4⟩
        case round =>
          clear hd4 hd3
          obtain ⟨rfl, hd4⟩ := hrel
          go_wp2_with fail
          go_meet
          rw [hif.out]
          simpa using hd4
    case rest =>
      obtain ⟨R, hR⟩ : ∃ R : List UInt8, S ++ c0 :: (if n = 0 then [] else 46 :: D.drop 1) = R := ⟨_, rfl⟩
      have hd3 : DS base bb D w wc u0 R := by rw [← hR]; exact hcut
      have hRl : R.length ≤ 40 := by
        rw [← hR]
        have h1 : (D.drop 1).length ≤ 31 := by rw [List.length_drop, HND.out]; omega
        have h2 : (if n = 0 then [] else 46 :: D.drop 1 : List UInt8).length ≤ 32 := by
          split
          · simp
          · rw [List.length_cons]; omega
        rw [List.length_append, List.length_cons]
        omega
      rw [hR] at HF
      clear hR hcut HN HND
      go_upto_region 38 with (at_builtin
                              go_loud (refine append_d1 (b := 101) rfl _ _ rfl rfl (hd3.alloc _) _ _ rfl (block_cell (block_new _ _ rfl) rfl) (by omega) ?_)
                              intro v4 w4 hd4)
      have hl4 : (R ++ [101]).length ≤ 50 := by rw [List.length_append, List.length_singleton]; omega
      generalize R ++ [101] = R4 at *
      by_cases hx : dp - 1 < 0
      · obtain ⟨a, ha⟩ : ∃ a : Nat, dp - 1 = -(a : Int) := ⟨(dp - 1).natAbs, by omega⟩
        have ha0 : 0 < a := by omega
        have ha9 : a ≤ 1000 := by omega
        have hna : (dp - 1).natAbs = a := by omega
        have HX := Lib.hid (show fmX (dp - 1) = 45 :: (if a < 10 then [48, UInt8.ofNat (48 + a)] else if a < 100 then [UInt8.ofNat (48 + a / 10), UInt8.ofNat (48 + a % 10)] else [UInt8.ofNat (48 + a / 100), UInt8.ofNat (48 + a / 10 % 10), UInt8.ofNat (48 + a % 10)]) by
          unfold fmX
          rw [if_pos hx, hna])
        clear hna hx
        go_upto_region 47 with (at_builtin
                                go_loud (refine append_d1 (b := 45) rfl _ _ rfl rfl (hd4.alloc _) _ _ rfl (block_cell (block_new _ _ rfl) rfl) (by omega) ?_)
                                intro v5 w5 hd5)
        have hl5 : (R4 ++ [45]).length ≤ 60 := by rw [List.length_append, List.length_singleton]; omega
        have hF5 := HF.out
        rw [HX.out] at hF5
        have HF5 := Lib.hid hF5
        clear hF5 HF HX
        by_cases h10 : a < 10
        · have hi : (a : Int) < 10 := by omega
          have he := Lib.hid (show (if a < 10 then [48, UInt8.ofNat (48 + a)] else if a < 100 then [UInt8.ofNat (48 + a / 10), UInt8.ofNat (48 + a % 10)] else [UInt8.ofNat (48 + a / 100), UInt8.ofNat (48 + a / 10 % 10), UInt8.ofNat (48 + a % 10)]) = [48, UInt8.ofNat (48 + a)] by rw [if_pos h10])
          have hn : (UInt8.ofNat (48 + a)).toNat = 48 + a := by simp [UInt8.toNat_ofNat']; omega
          have HN2 := Lib.hid hn
          clear h10 hn
          go_wp2_with (at_builtin
                       go_loud (refine append_ds (N := [48, UInt8.ofNat (48 + a)]) rfl _ _ rfl rfl (hd5.alloc _) _ 0 2 rfl ?hN ?hsz ?_)
                       case hN => exact two_new ⟨rfl, congrArg (Value.int .u8) (by have := HN2.out; omega)⟩
                       case hsz => (rw [List.length_cons, List.length_singleton]; omega)
                       intro v6 w6 hd6)
          go_ret
          refine ⟨v6, rfl, ?_⟩
          rw [HF5.out, he.out]
          simpa using hd6
        · have hi : ¬ (a : Int) < 10 := by omega
          have hd1 : (0 : Int) ≤ (a : Int) / 10 ∧ (a : Int) / 10 ≤ 100 := by omega
          have hd2 : (0 : Int) ≤ (a : Int) % 10 ∧ (a : Int) % 10 ≤ 9 := by omega
          have hn1 : (UInt8.ofNat (48 + a % 10)).toNat = 48 + a % 10 := by simp [UInt8.toNat_ofNat']; omega
          have HN1 := Lib.hid hn1
          clear hn1
          by_cases h100 : a < 100
          · have hi2 : (a : Int) < 100 := by omega
            have hd3 : (a : Int) / 10 ≤ 9 := by omega
            have he := Lib.hid (show (if a < 10 then [48, UInt8.ofNat (48 + a)] else if a < 100 then [UInt8.ofNat (48 + a / 10), UInt8.ofNat (48 + a % 10)] else [UInt8.ofNat (48 + a / 100), UInt8.ofNat (48 + a / 10 % 10), UInt8.ofNat (48 + a % 10)]) = [UInt8.ofNat (48 + a / 10), UInt8.ofNat (48 + a % 10)] by rw [if_neg h10, if_pos h100])
            have hn2 : (UInt8.ofNat (48 + a / 10)).toNat = 48 + a / 10 := by simp [UInt8.toNat_ofNat']; omega
            have HN2 := Lib.hid hn2
            clear h10 h100 hn2
            go_wp2_with (at_builtin
                         go_loud (refine append_ds (N := [UInt8.ofNat (48 + a / 10), UInt8.ofNat (48 + a % 10)]) rfl _ _ rfl rfl (hd5.alloc _) _ 0 2 rfl ?hN ?hsz ?_)
                         case hN => exact two_new ⟨congrArg (Value.int .u8) (by have := HN2.out; omega), congrArg (Value.int .u8) (by have := HN1.out; omega)⟩
                         case hsz => (rw [List.length_cons, List.length_singleton]; omega)
                         intro v6 w6 hd6)
            go_ret
            refine ⟨v6, rfl, ?_⟩
            rw [HF5.out, he.out]
            simpa using hd6
          · have hi2 : ¬ (a : Int) < 100 := by omega
            have hd4 : (0 : Int) ≤ (a : Int) / 100 ∧ (a : Int) / 100 ≤ 10 := by omega
            have he := Lib.hid (show (if a < 10 then [48, UInt8.ofNat (48 + a)] else if a < 100 then [UInt8.ofNat (48 + a / 10), UInt8.ofNat (48 + a % 10)] else [UInt8.ofNat (48 + a / 100), UInt8.ofNat (48 + a / 10 % 10), UInt8.ofNat (48 + a % 10)]) = [UInt8.ofNat (48 + a / 100), UInt8.ofNat (48 + a / 10 % 10), UInt8.ofNat (48 + a % 10)] by rw [if_neg h10, if_neg h100])
            have hn2 : (UInt8.ofNat (48 + a / 100)).toNat = 48 + a / 100 := by simp [UInt8.toNat_ofNat']; omega
            have hn3 : (UInt8.ofNat (48 + a / 10 % 10)).toNat = 48 + a / 10 % 10 := by simp [UInt8.toNat_ofNat']; omega
            have HN2 := Lib.hid hn2
            have HN3 := Lib.hid hn3
            clear h10 h100 hn2 hn3
            go_wp2_with (at_builtin
                         go_loud (refine append_ds (N := [UInt8.ofNat (48 + a / 100), UInt8.ofNat (48 + a / 10 % 10), UInt8.ofNat (48 + a % 10)]) rfl _ _ rfl rfl (hd5.alloc _) _ 0 3 rfl ?hN ?hsz ?_)
                         case hN => exact three_new ⟨congrArg (Value.int .u8) (by have := HN2.out; omega), congrArg (Value.int .u8) (by have := HN3.out; omega), congrArg (Value.int .u8) (by have := HN1.out; omega)⟩
                         case hsz => (rw [List.length_cons, List.length_cons, List.length_singleton]; omega)
                         intro v6 w6 hd6)
            go_ret
            refine ⟨v6, rfl, ?_⟩
            rw [HF5.out, he.out]
            simpa using hd6
      · obtain ⟨a, ha⟩ : ∃ a : Nat, dp - 1 = (a : Int) := ⟨(dp - 1).natAbs, by omega⟩
        have ha9 : a ≤ 1000 := by omega
        have hna : (dp - 1).natAbs = a := by omega
        have HX := Lib.hid (show fmX (dp - 1) = 43 :: (if a < 10 then [48, UInt8.ofNat (48 + a)] else if a < 100 then [UInt8.ofNat (48 + a / 10), UInt8.ofNat (48 + a % 10)] else [UInt8.ofNat (48 + a / 100), UInt8.ofNat (48 + a / 10 % 10), UInt8.ofNat (48 + a % 10)]) by
          unfold fmX
          rw [if_neg hx, hna])
        clear hna hx
        go_upto_region 47 with (at_builtin
                                go_loud (refine append_d1 (b := 43) rfl _ _ rfl rfl (hd4.alloc _) _ _ rfl (block_cell (block_new _ _ rfl) rfl) (by omega) ?_)
                                intro v5 w5 hd5)
        have hl5 : (R4 ++ [43]).length ≤ 60 := by rw [List.length_append, List.length_singleton]; omega
        have hF5 := HF.out
        rw [HX.out] at hF5
        have HF5 := Lib.hid hF5
        clear hF5 HF HX
        by_cases h10 : a < 10
        · have hi : (a : Int) < 10 := by omega
          have he := Lib.hid (show (if a < 10 then [48, UInt8.ofNat (48 + a)] else if a < 100 then [UInt8.ofNat (48 + a / 10), UInt8.ofNat (48 + a % 10)] else [UInt8.ofNat (48 + a / 100), UInt8.ofNat (48 + a / 10 % 10), UInt8.ofNat (48 + a % 10)]) = [48, UInt8.ofNat (48 + a)] by rw [if_pos h10])
          have hn : (UInt8.ofNat (48 + a)).toNat = 48 + a := by simp [UInt8.toNat_ofNat']; omega
          have HN2 := Lib.hid hn
          clear h10 hn
          go_wp2_with (at_builtin
                       go_loud (refine append_ds (N := [48, UInt8.ofNat (48 + a)]) rfl _ _ rfl rfl (hd5.alloc _) _ 0 2 rfl ?hN ?hsz ?_)
                       case hN => exact two_new ⟨rfl, congrArg (Value.int .u8) (by have := HN2.out; omega)⟩
                       case hsz => (rw [List.length_cons, List.length_singleton]; omega)
                       intro v6 w6 hd6)
          go_ret
          refine ⟨v6, rfl, ?_⟩
          rw [HF5.out, he.out]
          simpa using hd6
        · have hi : ¬ (a : Int) < 10 := by omega
          have hd1 : (0 : Int) ≤ (a : Int) / 10 ∧ (a : Int) / 10 ≤ 100 := by omega
          have hd2 : (0 : Int) ≤ (a : Int) % 10 ∧ (a : Int) % 10 ≤ 9 := by omega
          have hn1 : (UInt8.ofNat (48 + a % 10)).toNat = 48 + a % 10 := by simp [UInt8.toNat_ofNat']; omega
          have HN1 := Lib.hid hn1
          clear hn1
          by_cases h100 : a < 100
          · have hi2 : (a : Int) < 100 := by omega
            have hd3 : (a : Int) / 10 ≤ 9 := by omega
            have he := Lib.hid (show (if a < 10 then [48, UInt8.ofNat (48 + a)] else if a < 100 then [UInt8.ofNat (48 + a / 10), UInt8.ofNat (48 + a % 10)] else [UInt8.ofNat (48 + a / 100), UInt8.ofNat (48 + a / 10 % 10), UInt8.ofNat (48 + a % 10)]) = [UInt8.ofNat (48 + a / 10), UInt8.ofNat (48 + a % 10)] by rw [if_neg h10, if_pos h100])
            have hn2 : (UInt8.ofNat (48 + a / 10)).toNat = 48 + a / 10 := by simp [UInt8.toNat_ofNat']; omega
            have HN2 := Lib.hid hn2
            clear h10 h100 hn2
            go_wp2_with (at_builtin
                         go_loud (refine append_ds (N := [UInt8.ofNat (48 + a / 10), UInt8.ofNat (48 + a % 10)]) rfl _ _ rfl rfl (hd5.alloc _) _ 0 2 rfl ?hN ?hsz ?_)
                         case hN => exact two_new ⟨congrArg (Value.int .u8) (by have := HN2.out; omega), congrArg (Value.int .u8) (by have := HN1.out; omega)⟩
                         case hsz => (rw [List.length_cons, List.length_singleton]; omega)
                         intro v6 w6 hd6)
            go_ret
            refine ⟨v6, rfl, ?_⟩
            rw [HF5.out, he.out]
            simpa using hd6
          · have hi2 : ¬ (a : Int) < 100 := by omega
            have hd4 : (0 : Int) ≤ (a : Int) / 100 ∧ (a : Int) / 100 ≤ 10 := by omega
            have he := Lib.hid (show (if a < 10 then [48, UInt8.ofNat (48 + a)] else if a < 100 then [UInt8.ofNat (48 + a / 10), UInt8.ofNat (48 + a % 10)] else [UInt8.ofNat (48 + a / 100), UInt8.ofNat (48 + a / 10 % 10), UInt8.ofNat (48 + a % 10)]) = [UInt8.ofNat (48 + a / 100), UInt8.ofNat (48 + a / 10 % 10), UInt8.ofNat (48 + a % 10)] by rw [if_neg h10, if_neg h100])
            have hn2 : (UInt8.ofNat (48 + a / 100)).toNat = 48 + a / 100 := by simp [UInt8.toNat_ofNat']; omega
            have hn3 : (UInt8.ofNat (48 + a / 10 % 10)).toNat = 48 + a / 10 % 10 := by simp [UInt8.toNat_ofNat']; omega
            have HN2 := Lib.hid hn2
            have HN3 := Lib.hid hn3
            clear h10 h100 hn2 hn3
            go_wp2_with (at_builtin
                         go_loud (refine append_ds (N := [UInt8.ofNat (48 + a / 100), UInt8.ofNat (48 + a / 10 % 10), UInt8.ofNat (48 + a % 10)]) rfl _ _ rfl rfl (hd5.alloc _) _ 0 3 rfl ?hN ?hsz ?_)
                         case hN => exact three_new ⟨congrArg (Value.int .u8) (by have := HN2.out; omega), congrArg (Value.int .u8) (by have := HN3.out; omega), congrArg (Value.int .u8) (by have := HN1.out; omega)⟩
                         case hsz => (rw [List.length_cons, List.length_cons, List.length_singleton]; omega)
                         intro v6 w6 hd6)
            go_ret
            refine ⟨v6, rfl, ?_⟩
            rw [HF5.out, he.out]
            simpa using hd6
end Go.Proofs.YtbgjhgohffkonaaGreatDoor

