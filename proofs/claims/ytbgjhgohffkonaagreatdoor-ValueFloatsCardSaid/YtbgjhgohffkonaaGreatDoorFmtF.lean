/- internal/strconv.fmtEFG at 'f': the walk. -/
import Derived.Test.YtbgjhgohffkonaaGreatDoorM07
import Derived.Deep.DeepCutAuto
import Derived.Deep.CutBlock
namespace Go.Proofs.YtbgjhgohffkonaaGreatDoor
open Go.RowKit Go.Shelf
set_option linter.unusedSimpArgs false
set_option linter.unusedVariables false
set_option maxHeartbeats 4000000 in
set_option maxRecDepth 100000 in
theorem fmtF_neg {w : World} {base bb nd : Nat} {D : List UInt8} {v : Value} (hD : DS base bb D w w v []) (hnd : D.length = nd) (hn0 : 0 < nd) (hn1 : nd ≤ 32) (neg : Bool) (z : Nat) (hz : z ≤ 1000) :
    Calls Tryz.prog 84 #[v, .bool neg, .slice (some ⟨bb, 0, none⟩) 32 32, .int .i64 (-(z : Int)), .int .i64 (nd : Int), .int .i64 (max ((nd : Int) - (-(z : Int))) 0), .int .u8 102, .bool true] w fun e w' => ∃ v', e = .returned v' ∧ DS base bb D w w' v' (fmF neg D (-(z : Int))) := by
  obtain ⟨P, hP⟩ : ∃ P : Nat, nd + z = P := ⟨_, rfl⟩
  have hP : max ((nd : Int) - -(z : Int)) 0 = (P : Int) := by omega
  have hPz : z ≤ P := by omega
  have hP0 : 0 < P ∧ P ≤ 2000 := by omega
  have hmin0 : max (0 : Int) (z : Int) = (z : Int) := by omega
  have hmin1 : min (P : Int) (z : Int) = (z : Int) := by omega
  have hof : -(z : Int) + (z : Int) = 0 := by omega
  have hm1 : max (0 : Int) (nd : Int) = (nd : Int) := by omega
  have hm2 : (P : Int) - (z : Int) = (nd : Int) := by omega
  have hm3 : min (nd : Int) (nd : Int) = (nd : Int) := by omega
  have hm4 : max (0 : Int) 0 = 0 := rfl
  have HF := Lib.hid (show fmF neg D (-(z : Int)) = fmS neg ++ [48] ++ [46] ++ List.replicate z 48 ++ D by
    unfold fmF fmI fmR
    rw [if_neg (by omega), if_pos (by omega), show (- -(z : Int)).toNat = z by omega, show (-(z : Int)).toNat = 0 by omega, List.drop_zero]
    simp)
  rw [hP]
  have HND := Lib.hid hnd
  obtain ⟨a0, c0, hv⟩ := hD.shape
  have HV := Lib.hid hv
  have hs1 : (fmS neg).length ≤ 1 := by unfold fmS; split <;> simp
  clear hP hnd hv
  go_enter Tryz.func84, Tryz.ntmps84
  go_upto_if 178 with fail
  go_cut [0] from 179 to 181 (fun d wx => ∃ v1, d = v1 ∧ DS base bb D w wx v1 (fmS neg))
  case first =>
    clear HF
    cases neg
    · go_wp2_with fail
      go_meet
      exact ⟨_, rfl, hD⟩
    · go_wp2_with (at_builtin
                   go_loud (refine append_d1 rfl _ _ rfl rfl (hD.alloc _) w.heap.size 1 45 rfl (block_cell (block_new _ _ rfl) rfl) (by simp) ?_)
                   intro v1 w1 hd1)
      go_meet
      exact ⟨_, rfl, hd1⟩
  case rest =>
    obtain ⟨v1, rfl, hd1⟩ := hcut
    generalize fmS neg = S at *
    go_upto_region 68 with (at_builtin
                            go_loud (refine append_d1 (b := 48) rfl _ _ rfl rfl (hd1.alloc _) _ _ rfl (block_cell (block_new _ _ rfl) rfl) (by omega) ?_)
                            intro v2 w2 hd2)
    go_upto_region 74 with (at_builtin
                            go_loud (refine append_d1 (b := 46) rfl _ _ rfl rfl (hd2.alloc _) _ _ rfl (block_cell (block_new _ _ rfl) rfl) (by rw [List.length_append, List.length_singleton]; omega) ?_)
                            intro v3 w3 hd3)
    go_loopw [0, 240] (fun d iv wr => ∃ (k : Nat) (vv : Value), k ≤ z ∧ iv = .int .i64 (k : Int) ∧ d = vv ∧ DS base bb D w wr vv (S ++ [48] ++ [46] ++ List.replicate k 48)) (fun _ iv _ => z - (intOf iv).toNat)
    case atStart => exact ⟨0, _, Nat.zero_le _, rfl, rfl, by simpa using hd3⟩
    case round =>
      obtain ⟨k, vv, hk, rfl, rfl, hdk⟩ := hrel
      by_cases hlt : k < z
      · have hkI : (k : Int) < (z : Int) := by omega
        have hlen : (S ++ [48] ++ [46] ++ List.replicate k (48 : UInt8)).length + 1 ≤ 1000000 := by simp only [List.length_append, List.length_singleton, List.length_replicate]; omega
        have hre := Lib.hid (rep_succ k)
        go_wp2_with (at_builtin
                     go_loud (refine append_d1 (b := 48) rfl _ _ rfl rfl (hdk.alloc _) _ _ rfl (block_cell (block_new _ _ rfl) rfl) hlen ?_)
                     intro v2 w2 hd4)
        go_roundw
        case rel => exact ⟨k + 1, _, by omega, by go_num, rfl, by rw [hre.out, ← List.append_assoc]; exact hd4⟩
        case measure => simp [intOf]; omega
      · obtain rfl : k = z := by omega
        go_upto_region 78 with fail
        go_loopw [0, 30, 247] (fun d _ iv wr => ∃ (k2 : Nat) (vv : Value), k2 ≤ nd ∧ iv = .int .i64 (k2 : Int) ∧ d = vv ∧ DS base bb D w wr vv (S ++ [48] ++ [46] ++ List.replicate k 48 ++ D.take k2)) (fun _ _ iv _ => nd - (intOf iv).toNat)
        case atStart => exact ⟨0, _, Nat.zero_le _, rfl, rfl, by simpa using hdk⟩
        case round =>
          clear hdk
          obtain ⟨k2, vv, hk2, rfl, rfl, hdk⟩ := hrel
          by_cases hlt2 : k2 < nd
          · obtain ⟨b, hb⟩ : ∃ b, D[k2]? = some b := ⟨D[k2]'(by have := HND.out; omega), List.getElem?_eq_getElem _⟩
            have hc := hdk.dig k2 b hb
            have hre : Hid (D.take (k2 + 1) = D.take k2 ++ [b]) := Lib.hid (by rw [List.take_add_one, hb]; rfl)
            have hkI : (k2 : Int) < (nd : Int) := by omega
            have hk3 : (k2 : Int) < 32 := by omega
            have hlen : (S ++ [48] ++ [46] ++ List.replicate k (48 : UInt8) ++ D.take k2).length + 1 ≤ 1000000 := by simp only [List.length_append, List.length_singleton, List.length_replicate, List.length_take]; omega
            clear hb
            go_wp2_with (at_builtin
                         go_loud (refine append_d1 (b := b) rfl _ _ rfl rfl (hdk.alloc _) _ _ rfl (block_cell (block_new _ _ rfl) rfl) hlen ?_)
                         intro v2 w2 hd4)
            go_roundw
            case rel => exact ⟨k2 + 1, _, by omega, by go_num, rfl, by rw [hre.out, ← List.append_assoc]; exact hd4⟩
            case measure => simp [intOf]; omega
          · obtain rfl : k2 = nd := by omega
            have hD2 : Hid (D.take k2 = D) := Lib.hid (by rw [List.take_of_length_le (by rw [HND.out]; exact Nat.le_refl _)])
            rw [hD2.out] at hdk
            go_upto_region 83 with fail
            go_loopw [0, 261] (fun d iv wx => iv = .int .i64 0 ∧ DS base bb D w wx d (S ++ [48] ++ [46] ++ List.replicate k 48 ++ D)) (fun _ _ _ => 0)
            case atStart => exact ⟨rfl, hdk⟩
            case round =>
              obtain ⟨rfl, hdl⟩ := hrel
              go_wp2_with fail
              go_ret
              refine ⟨_, rfl, ?_⟩
              rw [HF.out]
              exact hdl
set_option maxHeartbeats 4000000 in
set_option maxRecDepth 100000 in
theorem fmtF_pos {w : World} {base bb nd : Nat} {D : List UInt8} {v : Value} (hD : DS base bb D w w v []) (hnd : D.length = nd) (hn0 : 0 < nd) (hn1 : nd ≤ 32) (neg : Bool) (dn : Nat) (hd0 : 0 < dn) (hd2 : dn ≤ 1000) :
    Calls Tryz.prog 84 #[v, .bool neg, .slice (some ⟨bb, 0, none⟩) 32 32, .int .i64 (dn : Int), .int .i64 (nd : Int), .int .i64 (max ((nd : Int) - (dn : Int)) 0), .int .u8 102, .bool true] w fun e w' => ∃ v', e = .returned v' ∧ DS base bb D w w' v' (fmF neg D (dn : Int)) := by
  obtain ⟨P, hP⟩ : ∃ P : Nat, nd - dn = P := ⟨_, rfl⟩
  have hP : max ((nd : Int) - (dn : Int)) 0 = (P : Int) := by omega
  obtain ⟨M, hM⟩ : ∃ M : Nat, min nd dn = M := ⟨_, rfl⟩
  obtain ⟨q, hq⟩ : ∃ q : Nat, dn - nd = q := ⟨_, rfl⟩
  have hmin : min (nd : Int) (dn : Int) = (M : Int) := by omega
  have hq2 : (dn : Int) - (M : Int) = (q : Int) := by omega
  have hM32 : M ≤ 32 ∧ M ≤ nd ∧ q ≤ 1000 ∧ P ≤ 32 := by omega
  have hdI : (0 : Int) < (dn : Int) := by omega
  have HPD := Lib.hid (show (0 < P → M = dn ∧ q = 0 ∧ nd = dn + P) ∧ (P = 0 → nd ≤ dn) by omega)
  have HI := Lib.hid (show fmI D (dn : Int) = D.take M ++ List.replicate q 48 by
    unfold fmI
    rw [if_pos (by omega), show ((dn : Int)).toNat = dn by omega, hnd, hq, ← hM, ← hnd]
    congr 1
    rcases Nat.le_total dn D.length with h | h
    · rw [Nat.min_eq_right h]
    · rw [Nat.min_eq_left h, List.take_of_length_le h, List.take_of_length_le (Nat.le_refl _)])
  have HF := Lib.hid (show fmF neg D (dn : Int) = fmS neg ++ fmI D (dn : Int) ++ fmR D (dn : Int) from rfl)
  have HR0 := Lib.hid (show P = 0 → fmR D (dn : Int) = [] by
    intro h
    unfold fmR
    rw [if_neg (by omega)])
  have HR1 := Lib.hid (show 0 < P → fmR D (dn : Int) = [46] ++ D.drop dn by
    intro h
    unfold fmR
    rw [if_pos (by omega), show (-(dn : Int)).toNat = 0 by omega, show ((dn : Int)).toNat = dn by omega]
    rfl)
  clear hM hq
  rw [hP]
  have HND := Lib.hid hnd
  obtain ⟨a0, c0, hv⟩ := hD.shape
  have HV := Lib.hid hv
  have hs1 : (fmS neg).length ≤ 1 := by unfold fmS; split <;> simp
  clear hP hnd hv
  go_enter Tryz.func84, Tryz.ntmps84
  go_upto_if 178 with fail
  go_cut [0] from 179 to 181 (fun d wx => ∃ v1, d = v1 ∧ DS base bb D w wx v1 (fmS neg))
  case first =>
    clear HF HI HR0 HR1
    cases neg
    · go_wp2_with fail
      go_meet
      exact ⟨_, rfl, hD⟩
    · go_wp2_with (at_builtin
                   go_loud (refine append_d1 rfl _ _ rfl rfl (hD.alloc _) w.heap.size 1 45 rfl (block_cell (block_new _ _ rfl) rfl) (by simp) ?_)
                   intro v1 w1 hd1)
      go_meet
      exact ⟨_, rfl, hd1⟩
  case rest =>
    obtain ⟨v1, rfl, hd1⟩ := hcut
    generalize fmS neg = S at *
    rw [HI.out] at HF
    clear HI
    generalize fmR D (dn : Int) = R at *
    go_upto_region 58 with fail
    go_loopw [0, 25, 191] (fun d _ iv wr => ∃ k : Nat, k ≤ M ∧ iv = .int .i64 (k : Int) ∧ DS base bb D w wr d (S ++ D.take k)) (fun _ _ iv _ => M - (intOf iv).toNat)
    case atStart => exact ⟨0, Nat.zero_le _, rfl, by simpa using hd1⟩
    case round =>
      clear hd1
      obtain ⟨k, hk, rfl, hdk⟩ := hrel
      by_cases hlt : k < M
      · obtain ⟨b, hb⟩ : ∃ b, D[k]? = some b := ⟨D[k]'(by have := HND.out; omega), List.getElem?_eq_getElem _⟩
        have hc := hdk.dig k b hb
        have htk : Hid (D.take (k + 1) = D.take k ++ [b]) := Lib.hid (by rw [List.take_add_one, hb]; rfl)
        have hkI : (k : Int) < (M : Int) := by omega
        have hlen : (S ++ D.take k).length + 1 ≤ 1000000 := by rw [List.length_append, List.length_take]; omega
        clear hb
        go_wp2_with (at_builtin
                     go_loud (refine append_d1 (b := b) rfl _ _ rfl rfl (hdk.alloc _) _ _ rfl (block_cell (block_new _ _ rfl) rfl) hlen ?_)
                     intro v2 w2 hd4)
        go_roundw
        case rel => exact ⟨k + 1, by omega, by go_num, by rw [htk.out, ← List.append_assoc]; exact hd4⟩
        case measure => simp [intOf]; omega
      · obtain rfl : k = M := by omega
        go_upto_region 63 with fail
        go_loopw [0, 203] (fun d iv wr => ∃ j : Nat, j ≤ q ∧ iv = .int .i64 (j : Int) ∧ DS base bb D w wr d (S ++ D.take k ++ List.replicate j 48)) (fun _ iv _ => q - (intOf iv).toNat)
        case atStart => exact ⟨0, Nat.zero_le _, rfl, by simpa using hdk⟩
        case round =>
          clear hdk
          obtain ⟨j, hj, rfl, hdk⟩ := hrel
          by_cases hlt2 : j < q
          · have hkI : (j : Int) < (q : Int) := by omega
            have hlen : (S ++ D.take k ++ List.replicate j (48 : UInt8)).length + 1 ≤ 1000000 := by simp only [List.length_append, List.length_replicate, List.length_take]; omega
            have hre := Lib.hid (rep_succ j)
            go_wp2_with (at_builtin
                         go_loud (refine append_d1 (b := 48) rfl _ _ rfl rfl (hdk.alloc _) _ _ rfl (block_cell (block_new _ _ rfl) rfl) hlen ?_)
                         intro v2 w2 hd4)
            go_roundw
            case rel => exact ⟨j + 1, by omega, by go_num, by rw [hre.out, ← List.append_assoc]; exact hd4⟩
            case measure => simp [intOf]; omega
          · obtain rfl : j = q := by omega
            rcases Nat.eq_zero_or_pos P with hp | hp
            · have hR := HR0.out hp
              subst hp
              have HR := Lib.hid hR
              clear hR
              go_wp2_with fail
              go_ret
              refine ⟨_, rfl, ?_⟩
              rw [HF.out, HR.out, List.append_nil, ← List.append_assoc]
              exact hdk
            · have hR := HR1.out hp
              obtain ⟨e1, e2, e3⟩ := HPD.out.1 hp
              have HR := Lib.hid hR
              have HE := Lib.hid (And.intro e1 (And.intro e2 e3))
              have hpI : (0 : Int) < (P : Int) := by omega
              have m1 : max (0 : Int) (-(dn : Int)) = 0 := by omega
              have m2 : min (P : Int) 0 = 0 := by omega
              have m3 : (nd : Int) - (dn : Int) = (P : Int) := by omega
              have m4 : max (0 : Int) (P : Int) = (P : Int) := by omega
              have m5 : min (P : Int) (P : Int) = (P : Int) := by omega
              have m6 : max (0 : Int) 0 = 0 := rfl
              have hlen : (S ++ D.take k ++ List.replicate j (48 : UInt8)).length + 1 ≤ 1000000 := by simp only [List.length_append, List.length_replicate, List.length_take]; omega
              have hlen0 : (S ++ D.take k ++ List.replicate j (48 : UInt8)).length ≤ 2000 := by simp only [List.length_append, List.length_replicate, List.length_take]; omega
              clear e1 e2 e3 hR HR0 HR1 HPD
              go_upto_region 74 with (at_builtin
                                      go_loud (refine append_d1 (b := 46) rfl _ _ rfl rfl (hdk.alloc _) _ _ rfl (block_cell (block_new _ _ rfl) rfl) hlen ?_)
                                      intro v3 w3 hd3)
              go_loopw [0, 240] (fun d iv wx => iv = .int .i64 0 ∧ DS base bb D w wx d (S ++ D.take k ++ List.replicate j 48 ++ [46])) (fun _ _ _ => 0)
              case atStart => exact ⟨rfl, hd3⟩
              case round =>
                clear hd3 hdk
                obtain ⟨rfl, hdk⟩ := hrel
                go_upto_region 78 with fail
                go_loopw [0, 30, 247] (fun d _ iv wr => ∃ k2 : Nat, k2 ≤ P ∧ iv = .int .i64 (k2 : Int) ∧ DS base bb D w wr d (S ++ D.take k ++ List.replicate j 48 ++ [46] ++ (D.drop dn).take k2)) (fun _ _ iv _ => P - (intOf iv).toNat)
                case atStart => exact ⟨0, Nat.zero_le _, rfl, by simpa using hdk⟩
                case round =>
                  clear hdk
                  obtain ⟨k2, hk2, rfl, hdk⟩ := hrel
                  by_cases hlt3 : k2 < P
                  · obtain ⟨b, hb⟩ : ∃ b, D[dn + k2]? = some b := ⟨D[dn + k2]'(by have := HND.out; have := HE.out; omega), List.getElem?_eq_getElem _⟩
                    have hc := hdk.dig (dn + k2) b hb
                    have hre : Hid ((D.drop dn).take (k2 + 1) = (D.drop dn).take k2 ++ [b]) := Lib.hid (by rw [List.take_add_one, List.getElem?_drop, hb]; rfl)
                    have hkI : (k2 : Int) < (P : Int) := by omega
                    have hk3 : (dn : Int) + (k2 : Int) < 32 := by have := HE.out; omega
                    have hk4 : ((dn : Int) + (k2 : Int)).toNat = dn + k2 := by omega
                    have hlen2 : (S ++ D.take k ++ List.replicate j (48 : UInt8) ++ [46] ++ (D.drop dn).take k2).length + 1 ≤ 1000000 := by
                      have h1 : ((D.drop dn).take k2).length ≤ k2 := List.length_take_le _ _
                      rw [List.length_append, List.length_append, List.length_singleton]
                      omega
                    clear hb
                    go_wp2_with (at_builtin
                                 go_loud (refine append_d1 (b := b) rfl _ _ rfl rfl (hdk.alloc _) _ _ rfl (block_cell (block_new _ _ rfl) rfl) hlen2 ?_)
                                 intro v2 w2 hd4)
                    go_roundw
                    case rel => exact ⟨k2 + 1, by omega, by go_num, by rw [hre.out, ← List.append_assoc]; exact hd4⟩
                    case measure => simp [intOf]; omega
                  · obtain rfl : k2 = P := by omega
                    have hD2 : Hid ((D.drop dn).take k2 = D.drop dn) := Lib.hid (by rw [List.take_of_length_le (by rw [List.length_drop, HND.out]; have := HE.out; omega)])
                    rw [hD2.out] at hdk
                    go_upto_region 83 with fail
                    go_loopw [0, 261] (fun d iv wx => iv = .int .i64 0 ∧ DS base bb D w wx d (S ++ D.take k ++ List.replicate j 48 ++ [46] ++ D.drop dn)) (fun _ _ _ => 0)
                    case atStart => exact ⟨rfl, hdk⟩
                    case round =>
                      obtain ⟨rfl, hdl⟩ := hrel
                      go_wp2_with fail
                      go_ret
                      refine ⟨_, rfl, ?_⟩
                      rw [HF.out, HR.out, ← List.append_assoc, ← List.append_assoc]
                      exact hdl
end Go.Proofs.YtbgjhgohffkonaaGreatDoor

