/- ParseCalls: the walk. -/
import Derived.Test.YtppljgallbmgcaaGreatDoorCallsP
import Derived.Test.YtppljgallbmgcaaGreatDoorParNR
namespace Go.Proofs.YtppljgallbmgcaaGreatDoor
open Go.RowKit Go.Shelf
theorem xsL_snoc (n : Nat) : xsL (n + 1) = xsL n ++ [32, 120] := by
  induction n with
  | zero => rfl
  | succ n ih => show 32 :: 120 :: xsL (n + 1) = (32 :: 120 :: xsL n) ++ _; rw [ih]; rfl
def callsB (n : Nat) : ByteArray := ⟨(102 :: xsL n).toArray⟩
theorem callsB_succ (n : Nat) : callsB n ++ ⟨#[32, 120]⟩ = callsB (n + 1) := by
  apply ba_ext
  rw [nw_app]
  unfold callsB
  rw [xsL_snoc]
  simp
theorem callsB_size (n : Nat) : (callsB n).size = 2 * n + 1 := by
  show (102 :: xsL n).length = _
  simp [xsL_len]
set_option maxHeartbeats 4000000 in
set_option maxRecDepth 100000 in
theorem calls_law {NG : Nat} {w : World} (hG : GP NG w) (n : Int) (hn1 : -9223372036854775808 ≤ n) (hn2 : n ≤ 9223372036854775807) :
    Calls Tryz.prog 3 #[.int .i64 n] w fun e w' => e = .returned (.bool true) ∧ Below w.heap.size w w' := by
  have HSH := Lib.hid (shown_any hG)
  have HGW := Lib.hid (fun (w' : World) (hb : Below w.heap.size w w') t => Parse_any (hG.below hb) t)
  have hmn := whN_le hn1 hn2
  have HNN := Lib.hid (fun h : n < 0 => whN_neg h)
  have HNP := Lib.hid (fun h : 0 ≤ n => whN_pos h)
  generalize whN n = m at *
  obtain ⟨x, hx⟩ : ∃ x, m % 400 = x := ⟨_, rfl⟩
  have hxI : (m : Int).tmod 400 = (x : Int) := by rw [Int.tmod_eq_emod_of_nonneg (by omega)]; omega
  have hx4 : x < 400 := by omega
  clear hG hx
  have HB0 := Lib.hid (show (⟨#[102]⟩ : ByteArray) = callsB 0 from rfl)
  have HBS := Lib.hid callsB_succ
  have HBZ := Lib.hid callsB_size
  obtain ⟨l, hl1, hl2, hl3, hl4⟩ := calls (pf := pfA) (s := callsB x) (n := x) rfl hx4
  have HL1 := Lib.hid hl1
  have HL2 := Lib.hid hl2
  have HL3 := Lib.hid hl3
  have HL4 := Lib.hid hl4
  clear hl1 hl2 hl3 hl4
  go_enter Tryz.func3, Tryz.ntmps3
  go_wp2_with fail
  refine HSH.out.mono ?_
  rintro e w2 ⟨rfl, hb2⟩
  have HB2 := Lib.hid hb2
  have hz2 := hb2.size
  clear hb2
  go_upto_if 13 with fail
  go_cut [0] from 14 to 16 (fun v wx => v = .int .i64 (m : Int) ∧ wx = w2)
  case first =>
    by_cases hneg : n < 0
    · have h := HNN.out hneg
      have HH := Lib.hid h
      clear h
      go_wp2_with fail
      go_meet
      exact ⟨by rw [HH.out], rfl⟩
    · have h := HNP.out (by omega)
      have HH := Lib.hid h
      clear h
      go_wp2_with fail
      go_meet
      exact ⟨by rw [HH.out], rfl⟩
  case rest =>
    obtain ⟨rfl, rfl⟩ := hcut
    clear HNN HNP
    go_upto_region 7 with fail
    go_loopw [4, 5] (fun a i wr => ∃ j : Nat, j ≤ x ∧ a = .string (callsB j) ∧ i = .int .i64 (j : Int) ∧ wr = wc) (fun _ i _ => x - (intOf i).toNat)
    case atStart => exact ⟨0, Nat.zero_le _, by rw [HB0.out], rfl, rfl⟩
    case round =>
      obtain ⟨j, hj, rfl, rfl, rfl⟩ := hrel
      have hz := HBZ.out j
      have HS1 := Lib.hid (HBS.out j)
      by_cases hlt : j < x
      · obtain ⟨u1, hu1⟩ : ∃ u, callsB j = u := ⟨_, rfl⟩
        rw [hu1] at hz HS1 ⊢
        clear hu1
        have hz1 : u1.size ≤ 1000 := by omega
        go_wp2_with fail
        go_roundw
        case rel => exact ⟨j + 1, by omega, by rw [HS1.out], by go_num, by trivial⟩
        case measure => simp [intOf]; omega
      · obtain rfl : j = x := by omega
        have HP := HGW.out wr HB2.out (callsB j)
        rw [HL1.out] at HP
        have HP := Lib.hid HP
        clear HS1 HBS HGW
        go_wp2_with fail
        refine HP.out.mono ?_
        rintro e w3 ⟨⟨out, ls, A, B, rfl, hnd, hmap, hA, hAB⟩, hb3⟩
        have hB3 := HB2.out.trans (hb3.mono HB2.out.size)
        have hll : ls.length = 2 * j + 1 := by rw [← HL2.out, ← hmap, List.length_map]
        have hgetn : ∀ (i : Nat) (y : Nd), l[i]? = some y → ∃ z : NV, ls[i]? = some z ∧ z.nd = y := fun i y hi => by
          rw [← hmap, List.getElem?_map] at hi
          cases hz : ls[i]? with
          | none => rw [hz] at hi; cases hi
          | some z => rw [hz] at hi; exact ⟨z, rfl, Option.some.inj hi⟩
        have hg12 : ∀ k, k < j → (∃ z : NV, ls[2 * k + 1]? = some z ∧ z.nd = ⟨4, ⟨#[120]⟩, 0, 0, [], [], 2 * k + 2⟩) ∧ ∃ z : NV, ls[2 * k + 2]? = some z ∧ z.nd = ⟨10, ⟨#[]⟩, 0, 0, [], [2 * k, 2 * k + 1], 0⟩ := fun k hk => ⟨hgetn _ _ (HL4.out k hk).1, hgetn _ _ (HL4.out k hk).2⟩
        have HG12 := Lib.hid hg12
        obtain ⟨x0, h0, hn0⟩ := hgetn 0 _ HL3.out
        obtain ⟨g, n', c, rfl, hn', hBg⟩ := hnd.at_ne h0
        rw [hll] at hn'
        subst hn'
        have HRD := Lib.hid hnd.rd
        have H0 := Lib.hid h0
        have HN0 := Lib.hid hn0
        have HB3 := Lib.hid hB3
        have ecc : ((2 * j + 1 : Nat) : Int) = 2 * (j : Int) + 1 := by omega
        clear hnd hmap hgetn hg12 h0 hn0 hB3 hb3 HP hll
        go_wp2_with fail
        go_loopw [8] (fun i wq => ∃ k : Nat, k ≤ j ∧ i = .int .i64 (k : Int) ∧ Below w3.heap.size w3 wq) (fun i _ => j - (intOf i).toNat)
        case atStart => exact ⟨0, Nat.zero_le _, rfl, Below.refl _ _⟩
        case round =>
          obtain ⟨k, hk, rfl, hbq⟩ := hrel
          by_cases hlk : k < j
          · obtain ⟨⟨z1, h1, n1⟩, z2, h2, n2⟩ := HG12.out k hlk
            have hr := HRD.out.below hbq
            obtain ⟨a1, c1, a2, c2, _, _, p0, p1, p2, p3, p4, p5, p6, _, _⟩ := hr.seven h1
            obtain ⟨a3, c3, a4, c4, _, _, q0, q1, q2, q3, q4, q5, q6, qk, _⟩ := hr.seven h2
            rw [n1] at p0 p1 p2 p3 p4 p5 p6
            rw [n2] at q0 q1 q2 q3 q4 q5 q6 qk
            obtain ⟨b, e1, k0⟩ := qk 0 (2 * k) rfl
            obtain ⟨b', e2, k1⟩ := qk 1 (2 * k + 1) rfl
            subst e1
            cases e2
            simp only [Nat.zero_add] at p0 p1 p2 p3 p4 p5 p6 q0 q1 q2 q3 q4 q5 q6
            have hlg := hr.lt
            have hlb : b < _ := World.block_lt_of_cell? _ _ k0
            have hsf := store_f64
            have ht1 : (2 * (k : Int) + 1).toNat = 2 * k + 1 := by omega
            have ht2 : (2 * (k : Int) + 2).toNat = 2 * k + 2 := by omega
            have hkI : (k : Int) < (j : Int) := by omega
            have hj4 : (j : Int) < 400 := by omega
            clear qk h1 h2 n1 n2 hr
            go_upto_region 18 with fail
            go_wp2_with fail
            go_roundw
            case rel =>
              refine ⟨k + 1, by omega, by go_num, ?_⟩
              exact (hbq.alloc hbq.size _).alloc (by have := hbq.size; simp; omega) _
            case measure => simp [intOf]; omega
          · obtain rfl : k = j := by omega
            have hr := HRD.out.below hbq
            obtain ⟨a1, c1, a2, c2, _, _, p0, p1, _, _, _, _, _, _, _⟩ := hr.seven H0.out
            rw [HN0.out] at p0 p1
            simp only [Nat.zero_add, Nat.zero_mul] at p0 p1
            clear hr
            go_wp2_with fail
            go_ret
            exact ⟨rfl, HB3.out.trans (hbq.mono HB3.out.size)⟩
end Go.Proofs.YtppljgallbmgcaaGreatDoor
