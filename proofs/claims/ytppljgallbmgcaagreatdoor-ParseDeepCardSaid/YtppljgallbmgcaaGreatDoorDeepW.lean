/- ParseDeep: the walk. -/
import Derived.Test.YtppljgallbmgcaaGreatDoorDeepP
import Derived.Test.YtppljgallbmgcaaGreatDoorGs
import Derived.BigQuiet
import Derived.Laws.IdiomStrings
namespace Go.Proofs.YtppljgallbmgcaaGreatDoor
open Go.RowKit Go.Shelf
def dpB (l : List UInt8) : ByteArray := ⟨l.toArray⟩
theorem dpB_app (a b : List UInt8) : dpB a ++ dpB b = dpB (a ++ b) := by
  apply ba_ext
  rw [nw_app]
  simp [dpB]
theorem dpO_len {y : Nat} (hy : y < 4) : (dpO y).length ≤ 1 ∧ (dpS y).length ≤ 1 := by
  rcases (show y = 0 ∨ y = 1 ∨ y = 2 ∨ y = 3 by omega) with rfl | rfl | rfl | rfl <;> decide
theorem dpT_eq (y x : Nat) : dpB (dpR (dpO y) x) ++ ⟨#[97]⟩ ++ dpB (dpR (dpS y) x) = dpT y x := by
  rw [show (⟨#[97]⟩ : ByteArray) = dpB [97] from rfl, dpB_app, dpB_app]
  rfl
theorem dp_row {w : World} {x : Nat} (hx : x < 4) (ty : TypeId) : (w.alloc (.cells #[.string ⟨#[40]⟩, .string ⟨#[91]⟩, .string ⟨#[33]⟩, .string ⟨#[45]⟩] ty)).cell? ⟨w.heap.size, x, none⟩ = some (.string (dpB (dpO x))) := by
  rcases (show x = 0 ∨ x = 1 ∨ x = 2 ∨ x = 3 by omega) with rfl | rfl | rfl | rfl <;> exact block_cell (block_new _ _ rfl) rfl
theorem dp_row2 {w : World} {x : Nat} (hx : x < 4) (ty : TypeId) : (w.alloc (.cells #[.string ⟨#[41]⟩, .string ⟨#[93]⟩, .string ⟨#[]⟩, .string ⟨#[]⟩] ty)).cell? ⟨w.heap.size, x, none⟩ = some (.string (dpB (dpS x))) := by
  rcases (show x = 0 ∨ x = 1 ∨ x = 2 ∨ x = 3 by omega) with rfl | rfl | rfl | rfl <;> exact block_cell (block_new _ _ rfl) rfl
set_option maxHeartbeats 4000000 in
set_option maxRecDepth 100000 in
theorem deep_law {NG : Nat} {w : World} (hG : GP NG w) (hE : HndG w) (n k : Int) (hn1 : -9223372036854775808 ≤ n) (hn2 : n ≤ 9223372036854775807) (hk1 : -9223372036854775808 ≤ k) (hk2 : k ≤ 9223372036854775807) :
    Calls Tryz.prog 9 #[.int .i64 n, .int .i64 k] w fun e w' => e = .returned (.bool true) ∧ Below w.heap.size w w' := by
  have HSH := Lib.hid (shown_any hG)
  have HG := Lib.hid hG
  have HE := Lib.hid hE
  have hmn := whN_le hn1 hn2
  have hmk := whN_le hk1 hk2
  have HNN := Lib.hid (fun h : n < 0 => whN_neg h)
  have HNP := Lib.hid (fun h : 0 ≤ n => whN_pos h)
  have HKN := Lib.hid (fun h : k < 0 => whN_neg h)
  have HKP := Lib.hid (fun h : 0 ≤ k => whN_pos h)
  generalize whN n = m at *
  generalize whN k = q at *
  obtain ⟨x, hx⟩ : ∃ x, m % 70 = x := ⟨_, rfl⟩
  obtain ⟨y, hy⟩ : ∃ y, q % 4 = y := ⟨_, rfl⟩
  have hxI : (m : Int).tmod 70 = (x : Int) := by rw [Int.tmod_eq_emod_of_nonneg (by omega)]; omega
  have hyI : (q : Int).tmod 4 = (y : Int) := by rw [Int.tmod_eq_emod_of_nonneg (by omega)]; omega
  have hx70 : x < 70 := by omega
  have hy4 : y < 4 := by omega
  clear hG hE hx hy
  go_enter Tryz.func9, Tryz.ntmps9
  go_wp2_with fail
  refine HSH.out.mono ?_
  rintro e w2 ⟨rfl, hb2⟩
  have HB2 := Lib.hid hb2
  have hz2 := hb2.size
  clear hb2
  go_upto_if 17 with fail
  go_cut [0] from 18 to 20 (fun v wx => v = .int .i64 (m : Int) ∧ wx = w2)
  case first =>
    by_cases hneg : n < 0
    · have h := HNN.out hneg
      have HH := Lib.hid h
      clear h
      go_wp2_with fail
      go_meet
      exact ⟨by rw [HH.out], rfl⟩
    · have h := HNP.out (by omega)
      have HH := Lib.hid h
      clear h
      go_wp2_with fail
      go_meet
      exact ⟨by rw [HH.out], rfl⟩
  case rest =>
    obtain ⟨rfl, rfl⟩ := hcut
    go_upto_if 22 with fail
    go_cut [1] from 23 to 25 (fun v wx => v = .int .i64 (q : Int) ∧ wx = wc)
    case first =>
      by_cases hneg : k < 0
      · have h := HKN.out hneg
        have HH := Lib.hid h
        clear h
        go_wp2_with fail
        go_meet
        exact ⟨by rw [HH.out], rfl⟩
      · have h := HKP.out (by omega)
        have HH := Lib.hid h
        clear h
        go_wp2_with fail
        go_meet
        exact ⟨by rw [HH.out], rfl⟩
    case rest =>
      obtain ⟨rfl, rfl⟩ := hcut
      clear HNN HNP HKN HKP
      have c1 := dp_row (w := wc) hy4 9
      have c2 := dp_row2 (w := (wc.alloc (.cells #[.string ⟨#[40]⟩, .string ⟨#[91]⟩, .string ⟨#[33]⟩, .string ⟨#[45]⟩] 9))) hy4 9
      have hz1 : (wc.alloc (.cells #[.string ⟨#[40]⟩, .string ⟨#[91]⟩, .string ⟨#[33]⟩, .string ⟨#[45]⟩] 9)).heap.size = wc.heap.size + 1 := by simp
      have hb3 : Below w.heap.size w ((wc.alloc (.cells #[.string ⟨#[40]⟩, .string ⟨#[91]⟩, .string ⟨#[33]⟩, .string ⟨#[45]⟩] 9)).alloc (.cells #[.string ⟨#[41]⟩, .string ⟨#[93]⟩, .string ⟨#[]⟩, .string ⟨#[]⟩] 9)) := (HB2.out.alloc hz2 _).alloc (by simp; omega) _
      rw [hz1] at c2
      have HB3 := Lib.hid hb3
      clear hb3 hz1
      have hyL : (y : Int) < 4 := by omega
      go_upto_region 9 with fail
      generalize ((wc.alloc (.cells #[.string ⟨#[40]⟩, .string ⟨#[91]⟩, .string ⟨#[33]⟩, .string ⟨#[45]⟩] 9)).alloc (.cells #[.string ⟨#[41]⟩, .string ⟨#[93]⟩, .string ⟨#[]⟩, .string ⟨#[]⟩] 9)) = w3 at *
      clear c1 c2
      have hsz : ∀ i, i ≤ 70 → (dpB (dpR (dpO y) i)).size ≤ 70 ∧ (dpB (dpR (dpS y) i)).size ≤ 70 := fun i hi => by
        have h1 := dpR_len (dpO y) i (dpO_len hy4).1
        have h2 := dpR_len (dpS y) i (dpO_len hy4).2
        exact ⟨by show (dpR (dpO y) i).length ≤ 70; omega, by show (dpR (dpS y) i).length ≤ 70; omega⟩
      have HSZ := Lib.hid hsz
      have hso : (dpB (dpO y)).size ≤ 1 ∧ (dpB (dpS y)).size ≤ 1 := dpO_len hy4
      obtain ⟨hso, hss⟩ := hso
      have HST := Lib.hid (fun i => show dpB (dpR (dpO y) i) ++ dpB (dpO y) = dpB (dpR (dpO y) (i + 1)) by rw [dpB_app, ← dpR_succ])
      have HSU := Lib.hid (fun i => show dpB (dpR (dpS y) i) ++ dpB (dpS y) = dpB (dpR (dpS y) (i + 1)) by rw [dpB_app, ← dpR_succ])
      obtain ⟨so, hSO⟩ : ∃ so, dpB (dpO y) = so := ⟨_, rfl⟩
      obtain ⟨ss, hSS⟩ : ∃ ss, dpB (dpS y) = ss := ⟨_, rfl⟩
      rw [hSO] at hso HST ⊢
      rw [hSS] at hss HSU ⊢
      clear hsz hSO hSS
      go_wp2_with fail
      go_loopw [8, 9, 10] (fun a b i wr => ∃ j : Nat, j ≤ x ∧ a = .string (dpB (dpR (dpO y) j)) ∧ b = .string (dpB (dpR (dpS y) j)) ∧ i = .int .i64 (j : Int) ∧ wr = w3) (fun _ _ i _ => x - (intOf i).toNat)
      case atStart => exact ⟨0, Nat.zero_le _, rfl, rfl, rfl, rfl⟩
      case round =>
        obtain ⟨j, hj, rfl, rfl, rfl, rfl⟩ := hrel
        obtain ⟨z1, z2⟩ := HSZ.out j (by omega)
        have HST1 := Lib.hid (HST.out j)
        have HSU1 := Lib.hid (HSU.out j)
        by_cases hlt : j < x
        · obtain ⟨u1, hu1⟩ : ∃ u, dpB (dpR (dpO y) j) = u := ⟨_, rfl⟩
          obtain ⟨u2, hu2⟩ : ∃ u, dpB (dpR (dpS y) j) = u := ⟨_, rfl⟩
          rw [hu1] at z1 HST1 ⊢
          rw [hu2] at z2 HSU1 ⊢
          clear hu1 hu2
          go_wp2_with fail
          go_roundw
          case rel => exact ⟨j + 1, by omega, by rw [HST1.out], by rw [HSU1.out], by go_num, by trivial⟩
          case measure => simp [intOf]; omega
        · obtain rfl : j = x := by omega
          have HTX := Lib.hid (dpT_eq y j)
          have HGW := Lib.hid (fun s => Parse_any (HG.out.below HB3.out) s)
          have hEW := HE.out.keeps HB3.out
          obtain ⟨u1, hu1⟩ : ∃ u, dpB (dpR (dpO y) j) = u := ⟨_, rfl⟩
          obtain ⟨u2, hu2⟩ : ∃ u, dpB (dpR (dpS y) j) = u := ⟨_, rfl⟩
          rw [hu1] at z1 HTX ⊢
          rw [hu2] at z2 HTX ⊢
          clear hu1 hu2 HST HSU HSZ HST1 HSU1 hso hss
          by_cases h31 : j ≤ 31
          · obtain ⟨l, hl, hlen⟩ := dp_ok pfA hy4 h31
            have HP := HGW.out (dpT y j)
            rw [hl, ← HTX.out] at HP
            have HP := Lib.hid HP
            have hjI : (j : Int) ≤ 31 := by omega
            clear hl HTX
            go_wp2_with fail
            refine HP.out.mono ?_
            rintro e w4 ⟨⟨out, ls, A, B, rfl, hnd, hmap, hA, hAB⟩, hb⟩
            obtain ⟨a, cap, rfl⟩ := own_shape hnd.own
            have hl2 : ls.length = l.length := by rw [← hmap, List.length_map]
            rw [hl2]
            rw [hlen]
            clear hnd hmap hl2 hlen
            by_cases hy0 : y = 0
            · subst hy0
              go_wp2_with fail
              go_ret
              exact ⟨rfl, HB3.out.trans (hb.mono HB3.out.size)⟩
            · have hyI0 : ((y : Int) == 0) = false := by rw [beq_eq_false_iff_ne]; omega
              rw [if_neg hy0]
              go_wp2_with fail
              go_ret
              exact ⟨rfl, HB3.out.trans (hb.mono HB3.out.size)⟩
          · have hl := dp_err pfA hy4 (by omega : 31 < j) hx70
            have HP := HGW.out (dpT y j)
            rw [hl, ← HTX.out] at HP
            have HP := Lib.hid HP
            have hjI : ¬ (j : Int) ≤ 31 := by omega
            clear hl HTX
            go_wp2_with fail
            refine HP.out.mono ?_
            rintro e w4 ⟨⟨v, rfl, f, ty, rfl, hft⟩, hb⟩
            have HFS := Lib.hid (fault_says (hEW.keeps hb) hft)
            clear hft
            by_cases hy0 : y = 0
            · subst hy0
              have hfi := fault_in 32 9 32 9
              simp at hfi
              go_wp2_with fail
              refine HFS.out.mono ?_
              rintro e w5 ⟨rfl, hb5⟩
              go_wp2_with fail
              go_ret
              exact ⟨rfl, (HB3.out.trans (hb.mono HB3.out.size)).trans (hb5.mono (HB3.out.trans (hb.mono HB3.out.size)).size)⟩
            · have hyI0 : ((y : Int) == 0) = false := by rw [beq_eq_false_iff_ne]; omega
              rw [if_neg hy0] at HFS
              have hfi := fault_in 31 9 31 9
              simp at hfi
              go_wp2_with fail
              refine HFS.out.mono ?_
              rintro e w5 ⟨rfl, hb5⟩
              go_wp2_with fail
              go_ret
              exact ⟨rfl, (HB3.out.trans (hb.mono HB3.out.size)).trans (hb5.mono (HB3.out.trans (hb.mono HB3.out.size)).size)⟩
end Go.Proofs.YtppljgallbmgcaaGreatDoor
