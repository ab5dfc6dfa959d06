/- ValueLists returns true for whatever two values. -/
import Derived.Test.YtdpnknlpkjablaaGreatDoorVReck
import Derived.Test.YtdpnknlpkjablaaGreatDoorVSmall
import Derived.Test.YtdpnknlpkjablaaGreatDoorShownV
import Derived.Test.YtdpnknlpkjablaaGreatDoorRegMid
import Derived.Deep.DeepCutAuto
namespace Go.Proofs.YtdpnknlpkjablaaGreatDoor
open Go.RowKit Go.Shelf
attribute [local go_sem] run_bits64 run_frombits64 store_flt

/-- The two boxes of the law. -/
structure Two2 (w : World) (W : World) (A B : Array Value) : Prop where
  a : W.heap[w.heap.size]? = some (.cells A 27 (0, 0))
  b : W.heap[w.heap.size + 1]? = some (.cells B 27 (0, 0))
  low : Below w.heap.size w W
theorem Two2.below {w W W' : World} {A B : Array Value} (h : Two2 w W A B) (hb : Below W.heap.size W W') : Two2 w W' A B := ⟨block_below h.a hb, block_below h.b hb, h.low.next hb⟩
set_option maxHeartbeats 8000000 in
set_option maxRecDepth 100000 in
theorem lists_law {d : Nat} {a b : V} {r f r' f' : Value} {w : World} (hG : PG w) (h1 : VI (d + 1) w a r f) (h2 : VI (d + 1) w b r' f') :
    Calls Tryz.prog 5 #[.agg #[.int .i64 a.kind, .int .i64 a.int, .float .f64 a.flt, .string a.text, r, f], .agg #[.int .i64 b.kind, .int .i64 b.int, .float .f64 b.flt, .string b.text, r', f']] w fun e w' => e = .returned (.bool true) ∧ Below w.heap.size w w' := by
  obtain ⟨ra, rc, fa, fc, rfl, rfl, hbd1, _⟩ := h1.shape
  obtain ⟨ra', rc', fa', fc', rfl, rfl, hbd2, _⟩ := h2.shape
  have H1 := Lib.hid h1
  have H2 := Lib.hid h2
  have HG := Lib.hid hG
  clear h1 h2 hG
  generalize hn1 : a.items.length = l1 at *
  generalize hn2 : b.items.length = l2 at *
  generalize a.names.length = an at *
  generalize b.names.length = bn at *
  have HN1 := Lib.hid hn1
  have HN2 := Lib.hid hn2
  clear hn1 hn2
  have hT : Two2 w ((w.alloc (.cells #[.int .i64 a.kind, .int .i64 a.int, .float .f64 a.flt, .string a.text, .slice ra an rc, .slice fa l1 fc] 27)).alloc (.cells #[.int .i64 b.kind, .int .i64 b.int, .float .f64 b.flt, .string b.text, .slice ra' bn rc', .slice fa' l2 fc'] 27))
      #[.int .i64 a.kind, .int .i64 a.int, .float .f64 a.flt, .string a.text, .slice ra an rc, .slice fa l1 fc] #[.int .i64 b.kind, .int .i64 b.int, .float .f64 b.flt, .string b.text, .slice ra' bn rc', .slice fa' l2 fc'] :=
    ⟨block_alloc (block_new _ _ rfl) _, block_new _ _ (by simp), (by (repeat' (first | (with_reducible exact Below.refl _ _) | (with_reducible assumption) | (with_reducible refine below_drewN ?_ _) | (with_reducible refine Below.drew ?_) | (with_reducible refine Below.alloc ?_ ?_ _) | (with_reducible refine Below.setCell ?_ ?_ _) | omega | (simp; done) | (simp; omega))))⟩
  go_enter Tryz.func5, Tryz.ntmps5
  go_wp2_with fail
  refine (shown_any (HG.out.below hT.low)).mono ?_
  rintro e w1 ⟨rfl, hb1⟩
  have hT1 := hT.below hb1
  clear hT hb1
  have a0 := block_cell hT1.a (i := 0) rfl
  have a1 := block_cell hT1.a (i := 1) rfl
  have a2 := block_cell hT1.a (i := 2) rfl
  have a3 := block_cell hT1.a (i := 3) rfl
  have a4 := block_cell hT1.a (i := 4) rfl
  have a5 := block_cell hT1.a (i := 5) rfl
  go_wp2_with fail
  refine (small_any (d + 1) 3000 (by decide) (H1.out.keeps hT1.low)).mono ?_
  rintro e w2 ⟨⟨s1, hs1, rfl⟩, hb2⟩
  have hT2 := hT1.below hb2
  clear a0 a1 a2 a3 a4 a5 hT1 hb2
  by_cases hs0 : s1 = 0
  · subst hs0
    go_wp2_with fail
    go_ret
    exact ⟨rfl, hT2.low⟩
  have hs0b : ((s1 : Int) == 0) = false := by simp [hs0]
  have b0 := block_cell hT2.b (i := 0) rfl
  have b1 := block_cell hT2.b (i := 1) rfl
  have b2 := block_cell hT2.b (i := 2) rfl
  have b3 := block_cell hT2.b (i := 3) rfl
  have b4 := block_cell hT2.b (i := 4) rfl
  have b5 := block_cell hT2.b (i := 5) rfl
  go_wp2_with fail
  refine (small_any (d + 1) 3000 (by decide) (H2.out.keeps hT2.low)).mono ?_
  rintro e w3 ⟨⟨s2, hs2, rfl⟩, hb3⟩
  have hT3 := hT2.below hb3
  clear b0 b1 b2 b3 b4 b5 hT2 hb3
  by_cases hs3 : s2 = 0
  · subst hs3
    go_wp2_with fail
    go_ret
    exact ⟨rfl, hT3.low⟩
  have hs3b : ((s2 : Int) == 0) = false := by simp [hs3]
  have a0 := block_cell hT3.a (i := 0) rfl
  have a1 := block_cell hT3.a (i := 1) rfl
  have a2 := block_cell hT3.a (i := 2) rfl
  have a3 := block_cell hT3.a (i := 3) rfl
  have a4 := block_cell hT3.a (i := 4) rfl
  have a5 := block_cell hT3.a (i := 5) rfl
  go_wp2_with fail
  have hra := Right_any (H1.out.keeps hT3.low)
  refine hra.mono ?_
  cases hga : rightP (d + 1) 32 a
  · rintro e w4 ⟨rfl, hb4⟩
    go_wp2_with fail
    go_ret
    exact ⟨rfl, hT3.low.next hb4⟩
  rintro e w4 ⟨rfl, hb4⟩
  have HGA := Lib.hid hga
  have hT4 := hT3.below hb4
  clear a0 a1 a2 a3 a4 a5 hT3 hb4 hga hra
  have b0 := block_cell hT4.b (i := 0) rfl
  have b1 := block_cell hT4.b (i := 1) rfl
  have b2 := block_cell hT4.b (i := 2) rfl
  have b3 := block_cell hT4.b (i := 3) rfl
  have b4 := block_cell hT4.b (i := 4) rfl
  have b5 := block_cell hT4.b (i := 5) rfl
  go_wp2_with fail
  have hrb := Right_any (H2.out.keeps hT4.low)
  refine hrb.mono ?_
  cases hgb : rightP (d + 1) 32 b
  · rintro e w5 ⟨rfl, hb5⟩
    go_wp2_with fail
    go_ret
    exact ⟨rfl, hT4.low.next hb5⟩
  rintro e w5 ⟨rfl, hb5⟩
  have HGB := Lib.hid hgb
  have hT5 := hT4.below hb5
  clear b0 b1 b2 b3 b4 b5 hT4 hb5 hgb hrb
  have a0 := block_cell hT5.a (i := 0) rfl
  have a1 := block_cell hT5.a (i := 1) rfl
  have a2 := block_cell hT5.a (i := 2) rfl
  have a3 := block_cell hT5.a (i := 3) rfl
  have a4 := block_cell hT5.a (i := 4) rfl
  have a5 := block_cell hT5.a (i := 5) rfl
  have b0 := block_cell hT5.b (i := 0) rfl
  have b1 := block_cell hT5.b (i := 1) rfl
  have b2 := block_cell hT5.b (i := 2) rfl
  have b3 := block_cell hT5.b (i := 3) rfl
  have b4 := block_cell hT5.b (i := 4) rfl
  have b5 := block_cell hT5.b (i := 5) rfl
  by_cases hka : a.kind = 5
  · have hkab : (a.kind != 5) = false := by simp [hka]
    have HKA := Lib.hid hka
    clear hka
    by_cases hkb : b.kind = 5
    · have hkbb : (b.kind != 5) = false := by simp [hkb]
      have HKB := Lib.hid hkb
      clear hkb
      go_wp2_with fail
      refine (reckon_cat (H1.out.keeps hT5.low) (H2.out.keeps hT5.low) HKA.out HKB.out HGA.out HGB.out).mono ?_
      rintro e w6 ⟨hok, hlong, hb6⟩
      rw [HN1.out, HN2.out] at hok hlong
      have hT6 := hT5.below hb6
      clear a0 a1 a2 a3 a4 a5 b0 b1 b2 b3 b4 b5 hT5
      have hla := right_list HKA.out HGA.out
      have hlb := right_list HKB.out HGB.out
      rw [HN1.out] at hla
      rw [HN2.out] at hlb
      have a5 := block_cell hT6.a (i := 5) rfl
      have b5 := block_cell hT6.b (i := 5) rfl
      have hlt := block_lt hT6.b
      have hlt0 := block_lt hT6.a
      by_cases hsum : l1 + l2 ≤ 256
      · obtain ⟨f3, rfl, hv⟩ := hok hsum
        have hv0 := hv
        obtain ⟨va, vc, rfl, _, _, hvc⟩ := hv0
        have hsl : (a.items ++ b.items).length = l1 + l2 := by rw [List.length_append, HN1.out, HN2.out]
        rw [hsl]
        have HVC := Lib.hid hvc
        have HSL := Lib.hid hsl
        clear hv hvc hsl hok hlong
        have hgt : ¬ ((256 : Int) < (l1 : Int) + (l2 : Int)) := by omega
        have hne : (((l1 : Int) + (l2 : Int)) != ((l1 : Int) + (l2 : Int))) = false := by simp
        have hcast : ((l1 + l2 : Nat) : Int) = (l1 : Int) + (l2 : Int) := by omega
        have HEQ := Lib.hid (fun W (hW : Below w.heap.size w W) => EqualV_any (H1.out.keeps hW) (H1.out.keeps hW) HGA.out HGA.out)
        have HSELF := Lib.hid (equal_self (d + 1) H1.out)
        go_wp2_with fail
        obtain ⟨g6, hg6⟩ : ∃ g6, g6 = w6.heap.size := ⟨_, rfl⟩
        rw [← hg6]
        have HG6 := Lib.hid hg6
        go_loopw [9] (fun i wr => ∃ k : Nat, k ≤ l1 + l2 ∧ i = .int .i64 (k : Int) ∧ Two2 w wr #[.int .i64 a.kind, .int .i64 a.int, .float .f64 a.flt, .string a.text, .slice ra an rc, .slice fa l1 fc] #[.int .i64 b.kind, .int .i64 b.int, .float .f64 b.flt, .string b.text, .slice ra' bn rc', .slice fa' l2 fc'] ∧ wr.heap[g6]? = some (.cells #[.int .i64 5, .int .i64 0, .float .f64 0, .string ⟨#[]⟩, .slice none 0 0, .slice va (l1 + l2) vc] 27 (0, 0)) ∧ Below w6.heap.size w6 wr) (fun i _ => l1 + l2 - (intOf i).toNat)
        case atStart => exact ⟨0, Nat.zero_le _, rfl, hT6.below (by (repeat' (first | (with_reducible exact Below.refl _ _) | (with_reducible assumption) | (with_reducible refine below_drewN ?_ _) | (with_reducible refine Below.drew ?_) | (with_reducible refine Below.alloc ?_ ?_ _) | (with_reducible refine Below.setCell ?_ ?_ _) | omega | (simp; done) | (simp; omega)))), block_new _ _ HG6.out, (by (repeat' (first | (with_reducible exact Below.refl _ _) | (with_reducible assumption) | (with_reducible refine below_drewN ?_ _) | (with_reducible refine Below.drew ?_) | (with_reducible refine Below.alloc ?_ ?_ _) | (with_reducible refine Below.setCell ?_ ?_ _) | omega | (simp; done) | (simp; omega))))⟩
        case round =>
          clear hT6 a5 b5 hlt hlt0 hb6 hg6
          obtain ⟨k, hk, rfl, hT7, hbox, hb8⟩ := hrel
          have hlt := block_lt hT7.b
          have hlt0 := block_lt hT7.a
          have hlt6 := block_lt hbox
          have a0 := block_cell hT7.a (i := 0) rfl
          have a1 := block_cell hT7.a (i := 1) rfl
          have a2 := block_cell hT7.a (i := 2) rfl
          have a3 := block_cell hT7.a (i := 3) rfl
          have a4 := block_cell hT7.a (i := 4) rfl
          have a5 := block_cell hT7.a (i := 5) rfl
          have b0 := block_cell hT7.b (i := 0) rfl
          have b1 := block_cell hT7.b (i := 1) rfl
          have b2 := block_cell hT7.b (i := 2) rfl
          have b3 := block_cell hT7.b (i := 3) rfl
          have b4 := block_cell hT7.b (i := 4) rfl
          have b5 := block_cell hT7.b (i := 5) rfl
          have v5 := block_cell hbox (i := 5) rfl
          by_cases hlt2 : k < l1 + l2
          · obtain ⟨x, hx⟩ := get_lt (a.items ++ b.items) (k := k) (by have := HSL.out; omega)
            obtain ⟨vb, voff, rv, fv, rfl, k1, k2, k3, k4, k5, k6, hvx⟩ := HVC.out k x hx
            have k1 := cell_keeps hb8 k1
            have k2 := cell_keeps hb8 k2
            have k3 := cell_keeps hb8 k3
            have k4 := cell_keeps hb8 k4
            have k5 := cell_keeps hb8 k5
            have k6 := cell_keeps hb8 k6
            have hvx := hvx.keeps hb8
            have hlv := World.block_lt_of_cell? wr _ k1
            by_cases hka : k < l1
            · rw [List.getElem?_append_left (by have := HN1.out; omega)] at hx
              obtain ⟨b1', off1, rx, fx, rfl, j1, j2, j3, j4, j5, j6, hvy⟩ := (H1.out.keeps hT7.low).item hx
              have hlj := World.block_lt_of_cell? wr _ j1
              have hkI : (k : Int) < (l1 : Int) := by omega
              have hkI2 : (k : Int) < (l1 : Int) + (l2 : Int) := by omega
              clear hx
              go_wp2_with fail
              obtain ⟨w8, hw8⟩ : ∃ w8, wr.alloc (.cells #[.int .i64 a.kind, .int .i64 a.int, .float .f64 a.flt, .string a.text, .slice ra an rc, .slice (some ⟨b1', off1, none⟩) l1 fc] 27) = w8 := ⟨_, rfl⟩
              have hb8a : Below wr.heap.size wr w8 := by rw [← hw8]; exact (Below.refl _ _).alloc (Nat.le_refl _) _
              have ht10 : w8.heap[wr.heap.size]? = some (.cells #[.int .i64 a.kind, .int .i64 a.int, .float .f64 a.flt, .string a.text, .slice ra an rc, .slice (some ⟨b1', off1, none⟩) l1 fc] 27 (0, 0)) := by rw [← hw8]; exact block_new _ _ rfl
              rw [hw8]
              have t5 : w8.cell? ⟨wr.heap.size, 5, none⟩ = some (.slice (some ⟨b1', off1, none⟩) l1 fc) := block_cell ht10 (i := 5) rfl
              have v5 : w8.cell? ⟨g6, 5, none⟩ = some (.slice (some ⟨vb, voff, none⟩) (l1 + l2) vc) := cell_keeps hb8a v5
              have k1 := cell_keeps hb8a k1
              have k2 := cell_keeps hb8a k2
              have k3 := cell_keeps hb8a k3
              have k4 := cell_keeps hb8a k4
              have k5 := cell_keeps hb8a k5
              have k6 := cell_keeps hb8a k6
              have j1 := cell_keeps hb8a j1
              have j2 := cell_keeps hb8a j2
              have j3 := cell_keeps hb8a j3
              have j4 := cell_keeps hb8a j4
              have j5 := cell_keeps hb8a j5
              have j6 := cell_keeps hb8a j6
              have hb8d : Below wr.heap.size wr w8.drew := hb8a.drew
              have HDS := Lib.hid (sameP_refl d hvx)
              have HVX := Lib.hid (hvx.keeps hb8d)
              have HVY := Lib.hid (hvy.keeps hb8d)
              clear hw8 ht10 hvx hvy a0 a1 a2 a3 a4 a5 b0 b1 b2 b3 b4 b5
              go_still_tail 10, (by kernel_rfl)
              change wpList _ _ _ _ _ w8.drew
              go_wp2_with (go_at_call 15; refine (Same_any d HVX.out HVY.out).mono ?_; rw [HDS.out]; rintro e w9 ⟨rfl, hb9⟩)
              have hb10 : Below wr.heap.size wr w9 := hb8d.next hb9
              go_roundw
              case rel => exact ⟨k + 1, by omega, by go_num, hT7.below hb10, block_below hbox hb10, hb8.next hb10⟩
              case measure => simp [intOf]; omega
            · rw [List.getElem?_append_right (by have := HN1.out; omega), HN1.out] at hx
              obtain ⟨m, hm⟩ : ∃ m, k - l1 = m := ⟨_, rfl⟩
              rw [hm] at hx
              obtain ⟨b1', off1, rx, fx, rfl, j1, j2, j3, j4, j5, j6, hvy⟩ := (H2.out.keeps hT7.low).item hx
              have hlj := World.block_lt_of_cell? wr _ j1
              have hsub : (k : Int) - (l1 : Int) = (m : Int) := by omega
              have hmI : (m : Int) < (l2 : Int) := by omega
              have hkI2 : (k : Int) < (l1 : Int) + (l2 : Int) := by omega
              have hkn : ¬ ((k : Int) < (l1 : Int)) := by omega
              clear hx hm
              go_wp2_with fail
              obtain ⟨w8, hw8⟩ : ∃ w8, wr.alloc (.cells #[.int .i64 b.kind, .int .i64 b.int, .float .f64 b.flt, .string b.text, .slice ra' bn rc', .slice (some ⟨b1', off1, none⟩) l2 fc'] 27) = w8 := ⟨_, rfl⟩
              have hb8a : Below wr.heap.size wr w8 := by rw [← hw8]; exact (Below.refl _ _).alloc (Nat.le_refl _) _
              have ht10 : w8.heap[wr.heap.size]? = some (.cells #[.int .i64 b.kind, .int .i64 b.int, .float .f64 b.flt, .string b.text, .slice ra' bn rc', .slice (some ⟨b1', off1, none⟩) l2 fc'] 27 (0, 0)) := by rw [← hw8]; exact block_new _ _ rfl
              rw [hw8]
              have t5 : w8.cell? ⟨wr.heap.size, 5, none⟩ = some (.slice (some ⟨b1', off1, none⟩) l2 fc') := block_cell ht10 (i := 5) rfl
              have v5 : w8.cell? ⟨g6, 5, none⟩ = some (.slice (some ⟨vb, voff, none⟩) (l1 + l2) vc) := cell_keeps hb8a v5
              have k1 := cell_keeps hb8a k1
              have k2 := cell_keeps hb8a k2
              have k3 := cell_keeps hb8a k3
              have k4 := cell_keeps hb8a k4
              have k5 := cell_keeps hb8a k5
              have k6 := cell_keeps hb8a k6
              have j1 := cell_keeps hb8a j1
              have j2 := cell_keeps hb8a j2
              have j3 := cell_keeps hb8a j3
              have j4 := cell_keeps hb8a j4
              have j5 := cell_keeps hb8a j5
              have j6 := cell_keeps hb8a j6
              have hb8d : Below wr.heap.size wr w8.drew := hb8a.drew
              have HDS := Lib.hid (sameP_refl d hvx)
              have HVX := Lib.hid (hvx.keeps hb8d)
              have HVY := Lib.hid (hvy.keeps hb8d)
              clear hw8 ht10 hvx hvy a0 a1 a2 a3 a4 a5 b0 b1 b2 b3 b4 b5
              go_still_tail 10, (by kernel_rfl)
              change wpList _ _ _ _ _ w8.drew
              go_wp2_with (go_at_call 15; refine (Same_any d HVX.out HVY.out).mono ?_; rw [HDS.out]; rintro e w9 ⟨rfl, hb9⟩)
              have hb10 : Below wr.heap.size wr w9 := hb8d.next hb9
              go_roundw
              case rel => exact ⟨k + 1, by omega, by go_num, hT7.below hb10, block_below hbox hb10, hb8.next hb10⟩
              case measure => simp [intOf]; omega
          · obtain rfl : k = l1 + l2 := by omega
            go_wp2_with fail
            refine (HEQ.out _ hT7.low).mono ?_
            have hself := HSELF.out
            generalize equalP (d + 1) a a = q at *
            obtain ⟨q1, q2⟩ := q
            have HS2 := Lib.hid hself
            clear hself HSELF HEQ
            rintro e w9 ⟨rfl, hb9⟩
            have hT9 := hT7.below hb9
            by_cases h11 : q2 = 11
            · subst h11
              go_wp2_with fail
              go_ret
              exact ⟨rfl, hT9.low⟩
            · have h11b : (q2 == 11) = false := by simp [h11]
              cases q1
              · have hodd : oddP (d + 1) a = true := by
                  rcases HS2.out with h | h | h
                  · cases h
                  · exact absurd h h11
                  · exact h
                have HO := Lib.hid hodd
                clear hodd h11 HS2 a0 a1 a2 a3 a4 a5 b0 b1 b2 b3 b4 b5
                have a0 := block_cell hT9.a (i := 0) rfl
                have a1 := block_cell hT9.a (i := 1) rfl
                have a2 := block_cell hT9.a (i := 2) rfl
                have a3 := block_cell hT9.a (i := 3) rfl
                have a4 := block_cell hT9.a (i := 4) rfl
                have a5 := block_cell hT9.a (i := 5) rfl
                go_wp2_with fail
                refine (odd_any (d + 1) (H1.out.keeps hT9.low)).mono ?_
                rw [HO.out]
                rintro e w10 ⟨rfl, hb10⟩
                go_wp2_with fail
                go_ret
                exact ⟨rfl, hT9.low.next hb10⟩
              · go_wp2_with fail
                go_ret
                exact ⟨rfl, hT9.low⟩
      · obtain rfl := hlong (by omega)
        have hgt : (256 : Int) < (l1 : Int) + (l2 : Int) := by omega
        go_wp2_with fail
        go_ret
        refine ⟨rfl, ?_⟩
        have := hT6.low
        (repeat' (first | (with_reducible exact Below.refl _ _) | (with_reducible assumption) | (with_reducible refine below_drewN ?_ _) | (with_reducible refine Below.drew ?_) | (with_reducible refine Below.alloc ?_ ?_ _) | (with_reducible refine Below.setCell ?_ ?_ _) | omega | (simp; done) | (simp; omega)))
    · have hkbb : (b.kind != 5) = true := by simp [hkb]
      go_wp2_with fail
      go_ret
      exact ⟨rfl, hT5.low⟩
  · have hkab : (a.kind != 5) = true := by simp [hka]
    go_wp2_with fail
    go_ret
    exact ⟨rfl, hT5.low⟩
end Go.Proofs.YtdpnknlpkjablaaGreatDoor
