/- PrintChains: the walk. -/
import Derived.Test.YtkoghgnjjfnamaaGreatDoorPrintW
import Derived.Test.YtkoghgnjjfnamaaGreatDoorChainT
namespace Go.Proofs.YtkoghgnjjfnamaaGreatDoor
open Go.RowKit Go.Shelf
set_option linter.unusedSimpArgs false
set_option linter.unusedVariables false
theorem ND.print {q : Nat → Prop} {A B : Nat} {w : World} {v : Value} {ls : List NV} {NG : Nat} (hG : GP NG w) (h : ND q A B w v ls) {t : T} (hls : ls.map NV.nd = nodes t 0) (hex : EXr (QR fun _ => False) t) (hok : PrOK t) (hlen : ls.length ≤ 1000)
    {s : ByteArray} (hs : prX t = s.data.toList) (hz : s.size ≤ 4096) (hz0 : 0 < s.size) {l : List Nd} (hp : parseP pfA s = .ok l) :
    (Calls Tryz.prog 11 #[v] w fun e w' => e = .returned (.bool true) ∧ Below w.heap.size w w') ∧ Calls Tryz.prog 9 #[v] w fun e w' => e = .returned (.string s) ∧ Below w.heap.size w w' := by
  obtain ⟨l0, r, hr, _, _⟩ := root_of t 0
  obtain ⟨y, hy⟩ : ∃ y, ls[0]? = some y := by
    have : ls.length = (nodes t 0).length := by rw [← hls, List.length_map]
    refine ⟨ls[0]'(by rw [this, hr]; simp), List.getElem?_eq_getElem _⟩
  obtain ⟨g, n, c, rfl, rfl, _⟩ := h.at_ne hy
  have hse : (⟨(prX t).toArray⟩ : ByteArray) = s := by rw [hs]
  have hl : (prX t).length = s.size := by rw [hs, Array.length_toList]; rfl
  refine ⟨Right_tree hG h.rd hls hex hok hlen, ?_⟩
  have := Print_any (c := c) hG h.rd hls hex hok hlen (by omega) (by intro e; rw [e] at hl; simp at hl; omega) (l := l) (by rw [hse]; exact hp)
  rwa [hse] at this
set_option maxHeartbeats 2000000 in
set_option maxRecDepth 100000 in
theorem shown13_any {NG : Nat} {w : World} (hG : GP NG w) : Calls Tryz.prog 7 #[] w fun e w' => e = .returned (.bool true) ∧ Below w.heap.size w w' := by
  have HALL := Lib.hid (show Calls _ _ _ w fun e w' => ParsePost w (.ok (nodes sh13 0)) e w' by have := Parse_any hG shw13; rwa [shw13_parse] at this)
  obtain ⟨l, hl⟩ := shw13p_parse
  have hse : (⟨(prX sh13).toArray⟩ : ByteArray) = shw13p := by rw [sh13_pr]
  rw [hse] at hl
  have HPR := Lib.hid (fun (w' : World) (hb : Below w.heap.size w w') {q : Nat → Prop} {A B : Nat} {v : Value} {ls : List NV} (hnd : ND q A B w' v ls) (hls : ls.map NV.nd = nodes sh13 0) => ND.print (hG.below hb) hnd hls sh13_ok.1 sh13_ok.2 (by
    have := congrArg List.length hls
    rw [List.length_map, nodes_len] at this
    rw [this]
    decide +kernel) sh13_pr (by decide) (by decide) hl)
  clear hG hl hse
  go_enter Tryz.func7, Tryz.ntmps7
  go_wp2_with fail
  refine HALL.out.mono ?_
  rintro e w2 ⟨⟨out, ls, A, B, rfl, hnd, hmap, hA, hAB⟩, hb⟩
  obtain ⟨hR, _⟩ := HPR.out w2 hb hnd hmap
  have HR := Lib.hid hR
  have HP2 := Lib.hid (fun (w' : World) (hb' : Below w2.heap.size w2 w') => (HPR.out w' (hb.next hb') (hnd.keep fun k hk _ => hb'.block k hk) hmap).2)
  obtain ⟨a, cap, rfl⟩ := own_shape hnd.own
  have HB := Lib.hid hb
  clear hnd hmap hA hAB hb hR
  go_wp2_with fail
  refine HR.out.mono ?_
  rintro e w3 ⟨rfl, hb3⟩
  have HB3 := Lib.hid hb3
  clear hb3
  go_wp2_with fail
  refine (HP2.out w3 HB3.out).mono ?_
  rintro e w4 ⟨rfl, hb4⟩
  go_wp2_with fail
  go_ret
  exact ⟨retB (a := shw13p.toList == [40, 97, 32, 43, 32, 98, 41, 32, 42, 32, 99, 46, 100, 32, 43, 43, 32, 101]) (by kernel_rfl), (HB.out.next HB3.out).next hb4⟩
def chT (sg : ByteArray) (j : Nat) : ByteArray := ⟨(97 :: chB sg j).toArray⟩
theorem chT_succ (sg : ByteArray) (j : Nat) : chT sg j ++ ⟨#[32]⟩ ++ sg ++ ⟨#[32, 98]⟩ = chT sg (j + 1) := by
  apply ba_ext
  rw [nw_app, nw_app, nw_app]
  unfold chT
  rw [chB_snoc]
  simp [strU]
theorem chT_size {sg : ByteArray} (hs : sg.size ≤ 2) (j : Nat) : 1 ≤ (chT sg j).size ∧ (chT sg j).size ≤ 1 + 5 * j := by
  have h : ∀ j, (chB sg j).length ≤ 5 * j := by
    intro j
    induction j with
    | zero => simp [chB]
    | succ j ih =>
      have e : (strU sg).length = sg.size := by unfold strU; rw [Array.length_toList]; rfl
      simp only [chB, List.length_cons, List.length_append, e]
      omega
  have e : (chT sg j).size = (97 :: chB sg j).length := rfl
  rw [e, List.length_cons]
  have := h j
  omega
set_option maxHeartbeats 4000000 in
set_option maxRecDepth 100000 in
theorem chains_law {NG : Nat} {w : World} (hG : GP NG w) (n wh : Int) (hn1 : -9223372036854775808 ≤ n) (hn2 : n ≤ 9223372036854775807) (hw1 : -9223372036854775808 ≤ wh) (hw2 : wh ≤ 9223372036854775807) :
    Calls Tryz.prog 6 #[.int .i64 n, .int .i64 wh] w fun e w' => e = .returned (.bool true) ∧ Below w.heap.size w w' := by
  have HSH := Lib.hid (shown13_any hG)
  have HGW := Lib.hid (fun (w' : World) (hb : Below w.heap.size w w') t => Parse_any (hG.below hb) t)
  have HGB := Lib.hid (fun (w' : World) (hb : Below w.heap.size w w') => hG.below hb)
  have hmn := whN_le hn1 hn2
  have hmw := whN_le hw1 hw2
  have HNN := Lib.hid (fun h : n < 0 => whN_neg h)
  have HNP := Lib.hid (fun h : 0 ≤ n => whN_pos h)
  have HWN := Lib.hid (fun h : wh < 0 => whN_neg h)
  have HWP := Lib.hid (fun h : 0 ≤ wh => whN_pos h)
  generalize whN n = m at *
  generalize whN wh = u at *
  obtain ⟨x, hx⟩ : ∃ x, m % 30 = x := ⟨_, rfl⟩
  have hxI : (m : Int).tmod 30 = (x : Int) := by rw [Int.tmod_eq_emod_of_nonneg (by omega)]; omega
  have hx4 : x < 30 := by omega
  obtain ⟨y, hy⟩ : ∃ y, u % 8 = y := ⟨_, rfl⟩
  have hyI : (u : Int).tmod 8 = (y : Int) := by rw [Int.tmod_eq_emod_of_nonneg (by omega)]; omega
  have hy8 : y < 8 := by omega
  clear hG hx hy
  obtain ⟨sg, hsg⟩ : ∃ sg, chS[y]? = some sg := ⟨chS[y]'(by show y < 8; exact hy8), List.getElem?_eq_getElem _⟩
  have HSG := Lib.hid hsg
  obtain ⟨hsb, hsz⟩ := ch_sg (List.mem_of_getElem? hsg)
  have HSZ := Lib.hid (fun j => chT_size hsz j)
  have HSS := Lib.hid (fun j => chT_succ sg j)
  have HS0 := Lib.hid (show (⟨#[97]⟩ : ByteArray) = chT sg 0 from rfl)
  obtain ⟨t, ht1, ht2, ht3, ht4⟩ := chain_read (pf := pfA) (s := chT sg x) (List.mem_of_getElem? hsg) (n := x) (by omega) rfl (by have := (chT_size hsz x).2; omega)
  have hok : EXr (QR fun _ => False) t ∧ PrOK t := by
    rcases ht4 with h | h
    · exact chL_ok hsb (by omega) h
    · exact chR_ok hsb (by omega) h nm_a
  have HT1 := Lib.hid ht1
  have HT2 := Lib.hid ht2
  have HT3 := Lib.hid (show prX t = (chT sg x).data.toList from ht3 _ _ _ _)
  have HOK := Lib.hid hok
  clear hsg hsb ht1 ht2 ht3 ht4 hok
  go_enter Tryz.func6, Tryz.ntmps6
  go_wp2_with fail
  refine HSH.out.mono ?_
  rintro e w2 ⟨rfl, hb2⟩
  have HB2 := Lib.hid hb2
  have hz2 := hb2.size
  clear hb2
  go_upto_if 13 with fail
  go_cut [0] from 14 to 16 (fun v wx => v = .int .i64 (m : Int) ∧ wx = w2)
  case first =>
    by_cases hneg : n < 0
    · have h := HNN.out hneg
      have HH := Lib.hid h
      clear h
      go_wp2_with fail
      go_meet
      exact ⟨by rw [HH.out], rfl⟩
    · have h := HNP.out (by omega)
      have HH := Lib.hid h
      clear h
      go_wp2_with fail
      go_meet
      exact ⟨by rw [HH.out], rfl⟩
  case rest =>
    obtain ⟨rfl, rfl⟩ := hcut
    clear HNN HNP
    go_upto_if 18 with fail
    go_cut [1] from 19 to 21 (fun v wx => v = .int .i64 (u : Int) ∧ wx = wc)
    case first =>
      by_cases hneg : wh < 0
      · have h := HWN.out hneg
        have HH := Lib.hid h
        clear h
        go_wp2_with fail
        go_meet
        exact ⟨by rw [HH.out], rfl⟩
      · have h := HWP.out (by omega)
        have HH := Lib.hid h
        clear h
        go_wp2_with fail
        go_meet
        exact ⟨by rw [HH.out], rfl⟩
    case rest =>
      obtain ⟨rfl, hwc⟩ := hcut
      subst hwc
      clear HWN HWP
      go_upto_region 6 with fail
      go_cut [6] from 22 to 26 (fun v wx => v = .string sg ∧ Below wc.heap.size wc wx)
      case first =>
        have H8 := Lib.hid hy8
        clear hy8
        rcases (by have := H8.out; omega : y = 0 ∨ y = 1 ∨ y = 2 ∨ y = 3 ∨ y = 4 ∨ y = 5 ∨ y = 6 ∨ y = 7) with rfl | rfl | rfl | rfl | rfl | rfl | rfl | rfl
        all_goals
          have hsg := HSG.out
          cases hsg
          go_wp2_with fail
          go_meet
          exact ⟨rfl, (by (repeat' (first | (with_reducible exact Below.refl _ _) | (with_reducible assumption) | (with_reducible refine below_drewN ?_ _) | (with_reducible refine Below.drew ?_) | (with_reducible refine Below.alloc ?_ ?_ _) | (with_reducible refine Below.setCell ?_ ?_ _) | omega | (simp; done) | (simp; omega))))⟩
      case rest =>
        obtain ⟨rfl, hbc⟩ := hcut
        have HBC := Lib.hid (HB2.out.next hbc)
        clear hbc
        go_upto_region 10 with fail
        go_loopw [7, 8] (fun a i wr => ∃ j : Nat, j ≤ x ∧ a = .string (chT sg j) ∧ i = .int .i64 (j : Int) ∧ wr = wc) (fun _ i _ => x - (intOf i).toNat)
        case atStart => exact ⟨0, Nat.zero_le _, by rw [HS0.out], rfl, rfl⟩
        case round =>
          obtain ⟨j, hj, rfl, rfl, rfl⟩ := hrel
          obtain ⟨hz0, hz⟩ := HSZ.out j
          have HS1 := Lib.hid (HSS.out j)
          by_cases hlt : j < x
          · obtain ⟨u1, hu1⟩ : ∃ u, chT sg j = u := ⟨_, rfl⟩
            rw [hu1] at hz HS1 ⊢
            clear hu1 hz0
            have hz1 : u1.size ≤ 1000 := by omega
            go_wp2_with fail
            go_roundw
            case rel => exact ⟨j + 1, by omega, by rw [HS1.out], by go_num, by trivial⟩
            case measure => simp [intOf]; omega
          · obtain rfl : j = x := by omega
            have HP := HGW.out wr HBC.out (chT sg j)
            rw [HT1.out] at HP
            have HP := Lib.hid HP
            clear HS1 HSS HGW
            go_wp2_with fail
            refine HP.out.mono ?_
            rintro e w3 ⟨⟨out, ls, A, B, rfl, hnd, hmap, hA, hAB⟩, hb3⟩
            have hll : ls.length = 2 * j + 1 := by rw [← HT2.out, ← hmap, List.length_map]
            have HPR := Lib.hid (ND.print (HGB.out w3 (HBC.out.next hb3)) hnd hmap HOK.out.1 HOK.out.2 (by omega) HT3.out (by omega) hz0 HT1.out).2
            obtain ⟨a, cap, rfl⟩ := own_shape hnd.own
            rw [hll] at HPR ⊢
            have HB3 := Lib.hid (HBC.out.next hb3)
            have ecc : ((2 * j + 1 : Nat) : Int) = 2 * (j : Int) + 1 := by omega
            clear hnd hmap hb3 HP hll hA hAB
            go_wp2_with fail
            refine HPR.out.mono ?_
            rintro e w4 ⟨rfl, hb4⟩
            go_wp2_with fail
            go_ret
            exact ⟨rfl, HB3.out.next hb4⟩
end Go.Proofs.YtkoghgnjjfnamaaGreatDoor
