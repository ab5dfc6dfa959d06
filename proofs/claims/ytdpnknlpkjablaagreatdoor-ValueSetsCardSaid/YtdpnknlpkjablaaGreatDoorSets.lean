/- ValueSets returns true for whatever two values. -/
import Derived.Test.YtdpnknlpkjablaaGreatDoorVAt
import Derived.Test.YtdpnknlpkjablaaGreatDoorLists
import Derived.Deep.DeepCutAuto
namespace Go.Proofs.YtdpnknlpkjablaaGreatDoor
open Go.RowKit Go.Shelf
attribute [local go_sem] run_bits64 run_frombits64 store_flt

/-- Six cells of another block. -/
theorem set6_other {w : World} {g B : Nat} {o : Obj} (h : w.heap[g]? = some o) (hne : g ≠ B) (b0 b1 b2 b3 b4 b5 : Value) :
    ((((((w.setCell ⟨B, 0, none⟩ b0).setCell ⟨B, 1, none⟩ b1).setCell ⟨B, 2, none⟩ b2).setCell ⟨B, 3, none⟩ b3).setCell ⟨B, 4, none⟩ b4).setCell ⟨B, 5, none⟩ b5).heap[g]? = some o :=
  block_setCell (block_setCell (block_setCell (block_setCell (block_setCell (block_setCell h (by simpa using hne) _) (by simpa using hne) _) (by simpa using hne) _) (by simpa using hne) _) (by simpa using hne) _) (by simpa using hne) _
theorem set6_below {w W : World} {base B : Nat} (h : Below base w W) (hB : base ≤ B) (b0 b1 b2 b3 b4 b5 : Value) :
    Below base w ((((((W.setCell ⟨B, 0, none⟩ b0).setCell ⟨B, 1, none⟩ b1).setCell ⟨B, 2, none⟩ b2).setCell ⟨B, 3, none⟩ b3).setCell ⟨B, 4, none⟩ b4).setCell ⟨B, 5, none⟩ b5) :=
  (((((h.setCell hB _).setCell hB _).setCell hB _).setCell hB _).setCell hB _).setCell hB _
theorem Two2.set6 {w W : World} {A B : Array Value} (h : Two2 w W A B) {g : Nat} (hg : w.heap.size + 2 ≤ g) (b0 b1 b2 b3 b4 b5 : Value) :
    Two2 w ((((((W.setCell ⟨g, 0, none⟩ b0).setCell ⟨g, 1, none⟩ b1).setCell ⟨g, 2, none⟩ b2).setCell ⟨g, 3, none⟩ b3).setCell ⟨g, 4, none⟩ b4).setCell ⟨g, 5, none⟩ b5) A B :=
  ⟨set6_other h.a (by omega) _ _ _ _ _ _, set6_other h.b (by omega) _ _ _ _ _ _, set6_below h.low (by omega) _ _ _ _ _ _⟩
set_option maxHeartbeats 8000000 in
set_option maxRecDepth 100000 in
theorem sets_law {d : Nat} {a b : V} {r f r' f' : Value} {w : World} (hG : PG w) (h1 : VI (d + 1) w a r f) (h2 : VI (d + 1) w b r' f') :
    Calls Tryz.prog 4 #[.agg #[.int .i64 a.kind, .int .i64 a.int, .float .f64 a.flt, .string a.text, r, f], .agg #[.int .i64 b.kind, .int .i64 b.int, .float .f64 b.flt, .string b.text, r', f']] w fun e w' => e = .returned (.bool true) ∧ Below w.heap.size w w' := by
  obtain ⟨ra, rc, fa, fc, rfl, rfl, hbd1, _⟩ := h1.shape
  obtain ⟨ra', rc', fa', fc', rfl, rfl, hbd2, _⟩ := h2.shape
  have H1 := Lib.hid h1
  have H2 := Lib.hid h2
  have HG := Lib.hid hG
  clear h1 h2 hG
  generalize hn1 : a.items.length = l1 at *
  generalize hn2 : b.items.length = l2 at *
  generalize hna : a.names.length = an at *
  generalize hnb : b.names.length = bn at *
  have HNA := Lib.hid hna
  have HNB := Lib.hid hnb
  clear hna hnb
  have HN1 := Lib.hid hn1
  have HN2 := Lib.hid hn2
  clear hn1 hn2
  have hT : Two2 w ((w.alloc (.cells #[.int .i64 a.kind, .int .i64 a.int, .float .f64 a.flt, .string a.text, .slice ra an rc, .slice fa l1 fc] 27)).alloc (.cells #[.int .i64 b.kind, .int .i64 b.int, .float .f64 b.flt, .string b.text, .slice ra' bn rc', .slice fa' l2 fc'] 27))
      #[.int .i64 a.kind, .int .i64 a.int, .float .f64 a.flt, .string a.text, .slice ra an rc, .slice fa l1 fc] #[.int .i64 b.kind, .int .i64 b.int, .float .f64 b.flt, .string b.text, .slice ra' bn rc', .slice fa' l2 fc'] :=
    ⟨block_alloc (block_new _ _ rfl) _, block_new _ _ (by simp), (by (repeat' (first | (with_reducible exact Below.refl _ _) | (with_reducible assumption) | (with_reducible refine below_drewN ?_ _) | (with_reducible refine Below.drew ?_) | (with_reducible refine Below.alloc ?_ ?_ _) | (with_reducible refine Below.setCell ?_ ?_ _) | omega | (simp; done) | (simp; omega))))⟩
  go_enter Tryz.func4, Tryz.ntmps4
  go_wp2_with fail
  refine (shown_any (HG.out.below hT.low)).mono ?_
  rintro e w1 ⟨rfl, hb1⟩
  have hT1 := hT.below hb1
  clear hT hb1
  have a0 := block_cell hT1.a (i := 0) rfl
  have a1 := block_cell hT1.a (i := 1) rfl
  have a2 := block_cell hT1.a (i := 2) rfl
  have a3 := block_cell hT1.a (i := 3) rfl
  have a4 := block_cell hT1.a (i := 4) rfl
  have a5 := block_cell hT1.a (i := 5) rfl
  go_wp2_with fail
  refine (small_any (d + 1) 5000 (by decide) (H1.out.keeps hT1.low)).mono ?_
  rintro e w2 ⟨⟨s1, hs1, rfl⟩, hb2⟩
  have hT2 := hT1.below hb2
  clear a0 a1 a2 a3 a4 a5 hT1 hb2
  by_cases hs0 : s1 = 0
  · subst hs0
    go_wp2_with fail
    go_ret
    exact ⟨rfl, hT2.low⟩
  have hs0b : ((s1 : Int) == 0) = false := by simp [hs0]
  have b0 := block_cell hT2.b (i := 0) rfl
  have b1 := block_cell hT2.b (i := 1) rfl
  have b2 := block_cell hT2.b (i := 2) rfl
  have b3 := block_cell hT2.b (i := 3) rfl
  have b4 := block_cell hT2.b (i := 4) rfl
  have b5 := block_cell hT2.b (i := 5) rfl
  go_wp2_with fail
  refine (small_any (d + 1) 5000 (by decide) (H2.out.keeps hT2.low)).mono ?_
  rintro e w3 ⟨⟨s2, hs2, rfl⟩, hb3⟩
  have hT3 := hT2.below hb3
  clear b0 b1 b2 b3 b4 b5 hT2 hb3
  by_cases hs3 : s2 = 0
  · subst hs3
    go_wp2_with fail
    go_ret
    exact ⟨rfl, hT3.low⟩
  have hs3b : ((s2 : Int) == 0) = false := by simp [hs3]
  have a0 := block_cell hT3.a (i := 0) rfl
  have a1 := block_cell hT3.a (i := 1) rfl
  have a2 := block_cell hT3.a (i := 2) rfl
  have a3 := block_cell hT3.a (i := 3) rfl
  have a4 := block_cell hT3.a (i := 4) rfl
  have a5 := block_cell hT3.a (i := 5) rfl
  go_wp2_with fail
  have hra := Right_any (H1.out.keeps hT3.low)
  refine hra.mono ?_
  cases hga : rightP (d + 1) 32 a
  · rintro e w4 ⟨rfl, hb4⟩
    go_wp2_with fail
    go_ret
    exact ⟨rfl, hT3.low.next hb4⟩
  rintro e w4 ⟨rfl, hb4⟩
  have HGA := Lib.hid hga
  have hT4 := hT3.below hb4
  clear a0 a1 a2 a3 a4 a5 hT3 hb4 hga hra
  have b0 := block_cell hT4.b (i := 0) rfl
  have b1 := block_cell hT4.b (i := 1) rfl
  have b2 := block_cell hT4.b (i := 2) rfl
  have b3 := block_cell hT4.b (i := 3) rfl
  have b4 := block_cell hT4.b (i := 4) rfl
  have b5 := block_cell hT4.b (i := 5) rfl
  go_wp2_with fail
  have hrb := Right_any (H2.out.keeps hT4.low)
  refine hrb.mono ?_
  cases hgb : rightP (d + 1) 32 b
  · rintro e w5 ⟨rfl, hb5⟩
    go_wp2_with fail
    go_ret
    exact ⟨rfl, hT4.low.next hb5⟩
  rintro e w5 ⟨rfl, hb5⟩
  have HGB := Lib.hid hgb
  have hT5 := hT4.below hb5
  clear b0 b1 b2 b3 b4 b5 hT4 hb5 hgb hrb
  have a0 := block_cell hT5.a (i := 0) rfl
  have a1 := block_cell hT5.a (i := 1) rfl
  have a2 := block_cell hT5.a (i := 2) rfl
  have a3 := block_cell hT5.a (i := 3) rfl
  have a4 := block_cell hT5.a (i := 4) rfl
  have a5 := block_cell hT5.a (i := 5) rfl
  have b0 := block_cell hT5.b (i := 0) rfl
  have b1 := block_cell hT5.b (i := 1) rfl
  have b2 := block_cell hT5.b (i := 2) rfl
  have b3 := block_cell hT5.b (i := 3) rfl
  have b4 := block_cell hT5.b (i := 4) rfl
  have b5 := block_cell hT5.b (i := 5) rfl
  by_cases hka : a.kind = 6
  · have hkab : (a.kind != 6) = false := by simp [hka]
    have HKA := Lib.hid hka
    clear hka
    by_cases hkb : b.kind = 6
    · have hkbb : (b.kind != 6) = false := by simp [hkb]
      have HKB := Lib.hid hkb
      clear hkb
      go_wp2_with fail
      refine (reckon_upd (H1.out.keeps hT5.low) (H2.out.keeps hT5.low) HKA.out HKB.out HGA.out HGB.out).mono ?_
      rintro e w6 ⟨⟨L, xs, hup, hok, hlong⟩, hb6⟩
      have hT6 := hT5.below hb6
      clear a0 a1 a2 a3 a4 a5 b0 b1 b2 b3 b4 b5 hT5
      obtain ⟨-, -, -, hla1, hla, -, -⟩ := right_set HKA.out HGA.out
      obtain ⟨-, -, -, hlb1, hlb, -, -⟩ := right_set HKB.out HGB.out
      rw [HNA.out, HN1.out] at hla1
      rw [HNB.out, HN2.out] at hlb1
      rw [HN1.out] at hla
      rw [HN2.out] at hlb
      have hxl := hup.2.1
      have hll := up_length hup
      rw [HNA.out, HNB.out] at hll
      have HUP := Lib.hid hup
      clear hup
      subst hla1
      subst hlb1
      have a4 := block_cell hT6.a (i := 4) rfl
      have b4 := block_cell hT6.b (i := 4) rfl
      have hlt := block_lt hT6.b
      have hlt0 := block_lt hT6.a
      by_cases hsum : xs.length ≤ 256
      · obtain ⟨r3, f3, rfl, hv⟩ := hok hsum
        have hnm : SL w6 r3 L := hv.names
        have hvl : VLs d w6 f3 xs := hv.list
        obtain ⟨va, vc, rfl, -, -, hvc⟩ := hvl
        obtain ⟨na, nc, rfl, -, -, hnc⟩ := hnm
        have hRR := Right_any (hv.keeps (w' := w6.alloc (.cells #[.int .i64 6, .int .i64 0, .float .f64 0, .string ⟨#[]⟩, .slice na L.length nc, .slice va xs.length vc] 27 (0, 0))) (by (repeat' (first | (with_reducible exact Below.refl _ _) | (with_reducible assumption) | (with_reducible refine below_drewN ?_ _) | (with_reducible refine Below.drew ?_) | (with_reducible refine Below.alloc ?_ ?_ _) | (with_reducible refine Below.setCell ?_ ?_ _) | omega | (simp; done) | (simp; omega)))))
        rw [up_right HKA.out HKB.out HGA.out HGB.out HUP.out hsum] at hRR
        have HRR := Lib.hid hRR
        have HVC : Hid (∀ i x, xs[i]? = some x → ∃ b off r' f', va = some ⟨b, off, none⟩ ∧ w6.cell? ⟨b, off + i * 6, none⟩ = some (.int .i64 x.kind) ∧ w6.cell? ⟨b, off + i * 6 + 1, none⟩ = some (.int .i64 x.int) ∧
        w6.cell? ⟨b, off + i * 6 + 2, none⟩ = some (.float .f64 x.flt) ∧ w6.cell? ⟨b, off + i * 6 + 3, none⟩ = some (.string x.text) ∧ w6.cell? ⟨b, off + i * 6 + 4, none⟩ = some r' ∧ w6.cell? ⟨b, off + i * 6 + 5, none⟩ = some f' ∧ VI d w6 x r' f') := hvc
        have HNC : Hid (∀ i s, L[i]? = some s → ∃ b off, na = some ⟨b, off, none⟩ ∧ w6.cell? ⟨b, off + i, none⟩ = some (.string s) ∧ s.size ≤ maxLen ∧ True) := hnc
        have HAT := Lib.hid (fun i s hs => up_at HKA.out HKB.out HGA.out HGB.out HUP.out (i := i) (s := s) hs)
        have HCNT := Lib.hid (up_count HKA.out HKB.out HGA.out HGB.out HUP.out)
        clear hv hvc hnc hok hlong hRR HUP
        rw [hxl] at HRR hsum ⊢
        go_wp2_with fail
        refine HRR.out.mono ?_
        rintro e w7 ⟨rfl, hb7⟩
        obtain ⟨g6, hg6⟩ : ∃ g6, g6 = w6.heap.size := ⟨_, rfl⟩
        have hbx7 := block_below (block_new w6 (.cells #[.int .i64 6, .int .i64 0, .float .f64 0, .string ⟨#[]⟩, .slice na L.length nc, .slice va L.length vc] 27 (0, 0)) hg6) hb7
        have hb67 : Below w6.heap.size w6 (w6.alloc (.cells #[.int .i64 6, .int .i64 0, .float .f64 0, .string ⟨#[]⟩, .slice na L.length nc, .slice va L.length vc] 27 (0, 0))) := (by (repeat' (first | (with_reducible exact Below.refl _ _) | (with_reducible assumption) | (with_reducible refine below_drewN ?_ _) | (with_reducible refine Below.drew ?_) | (with_reducible refine Below.alloc ?_ ?_ _) | (with_reducible refine Below.setCell ?_ ?_ _) | omega | (simp; done) | (simp; omega))))
        have hb7 := hb67.next hb7
        have hT7 := hT6.below hb7
        have HTL := Lib.hid hT6
        clear hb67 hT6 a4 b4 hlt hlt0
        rw [← hg6]
        have HG6 := Lib.hid hg6
        have HLW := Lib.hid (show w.heap.size + 2 ≤ w6.heap.size by have := block_lt HTL.out.b; omega)
        clear hg6
        have hLl : L.length ≤ 256 := hsum
        clear hsum
        have v4 := block_cell hbx7 (i := 4) rfl
        go_wp2_with fail
        go_loopw [9] (fun i wr => ∃ k : Nat, k ≤ L.length ∧ i = .int .i64 (k : Int) ∧ Two2 w wr #[.int .i64 a.kind, .int .i64 a.int, .float .f64 a.flt, .string a.text, .slice ra an rc, .slice fa an fc] #[.int .i64 b.kind, .int .i64 b.int, .float .f64 b.flt, .string b.text, .slice ra' bn rc', .slice fa' bn fc'] ∧ wr.heap[g6]? = some (.cells #[.int .i64 6, .int .i64 0, .float .f64 0, .string ⟨#[]⟩, .slice na L.length nc, .slice va L.length vc] 27 (0, 0)) ∧ Below w6.heap.size w6 wr) (fun i _ => L.length - (intOf i).toNat)
        case atStart => exact ⟨0, Nat.zero_le _, rfl, hT7, hbx7, hb7⟩
        case round =>
          clear hT7 hbx7 hb7 v4
          obtain ⟨k, hk, rfl, hT8, hbx8, hb8⟩ := hrel
          have a0 := block_cell hT8.a (i := 0) rfl
          have a1 := block_cell hT8.a (i := 1) rfl
          have a2 := block_cell hT8.a (i := 2) rfl
          have a3 := block_cell hT8.a (i := 3) rfl
          have a4 := block_cell hT8.a (i := 4) rfl
          have a5 := block_cell hT8.a (i := 5) rfl
          have b0 := block_cell hT8.b (i := 0) rfl
          have b1 := block_cell hT8.b (i := 1) rfl
          have b2 := block_cell hT8.b (i := 2) rfl
          have b3 := block_cell hT8.b (i := 3) rfl
          have b4 := block_cell hT8.b (i := 4) rfl
          have b5 := block_cell hT8.b (i := 5) rfl
          have v4 := block_cell hbx8 (i := 4) rfl
          have v5 := block_cell hbx8 (i := 5) rfl
          by_cases hltk : k < L.length
          · obtain ⟨s, hs⟩ := get_lt L (k := k) hltk
            obtain ⟨nb, noff, rfl, n0, -, -⟩ := HNC.out k s hs
            have n0 := cell_keeps hb8 n0
            have hkI : (k : Int) < (L.length : Int) := by omega
            obtain ⟨x, hx, hw⟩ := HAT.out k s hs
            clear hs
            have hdr : Below wr.heap.size wr wr.drew := (Below.refl _ _).drew
            have hT9 := hT8.below hdr
            have hbx9 := block_below hbx8 hdr
            have HX := Lib.hid hx
            rcases hw with ⟨j, hj, hbj⟩ | ⟨hj, ja, hja, haj⟩
            · have hj0 : decide ((j : Int) < 0) = false := by simp
              have HBJ := Lib.hid hbj
              have HJ := Lib.hid hj
              clear hbj hj hx
              go_wp2_with fail
              go_still_tail 6, (by kernel_rfl)
              change wpList _ _ _ _ _ wr.drew
              clear a0 a1 a2 a3 a4 a5 b0 b1 b2 b3 b4 b5 v4 v5 n0
              go_wp2_with (go_at_call 14
                           refine (at_any (H2.out.keeps hT9.low) s).mono ?_
                           rw [HJ.out]
                           rintro e w9 ⟨rfl, hb9⟩
                           have hT10 := hT9.below hb9
                           have hbx10 := block_below hbx9 hb9
                           have hb10 := hb8.next (hdr.next hb9)
                           clear hT9 hbx9 hb9 hb8 hT8 hbx8 hdr
                           have b0 := block_cell hT10.b (i := 0) rfl
                           have b1 := block_cell hT10.b (i := 1) rfl
                           have b2 := block_cell hT10.b (i := 2) rfl
                           have b3 := block_cell hT10.b (i := 3) rfl
                           have b4 := block_cell hT10.b (i := 4) rfl
                           have b5 := block_cell hT10.b (i := 5) rfl)
              obtain ⟨w11, hw11⟩ : ∃ w11, w9.alloc (.cells #[.int .i64 b.kind, .int .i64 b.int, .float .f64 b.flt, .string b.text, .slice ra' bn rc', .slice fa' bn fc'] 27) = w11 := ⟨_, rfl⟩
              have hb9a : Below w9.heap.size w9 w11 := by rw [← hw11]; exact (Below.refl _ _).alloc (Nat.le_refl _) _
              have ht11 : w11.heap[w9.heap.size]? = some (.cells #[.int .i64 b.kind, .int .i64 b.int, .float .f64 b.flt, .string b.text, .slice ra' bn rc', .slice fa' bn fc'] 27 (0, 0)) := by rw [← hw11]; exact block_new _ _ rfl
              rw [hw11]
              have hT11 := hT10.below hb9a
              have hbx11 := block_below hbx10 hb9a
              have hb11 := hb10.next hb9a
              clear hT10 hbx10 hb9a hb10 b0 b1 b2 b3 b4 b5 hw11
              obtain ⟨vb, voff, rx, fx, hva, k1, k2, k3, k4, k5, k6, hvx⟩ := HVC.out k x HX.out
              subst hva
              have k1 := cell_keeps hb11 k1
              have k2 := cell_keeps hb11 k2
              have k3 := cell_keeps hb11 k3
              have k4 := cell_keeps hb11 k4
              have k5 := cell_keeps hb11 k5
              have k6 := cell_keeps hb11 k6
              have hvx := hvx.keeps hb11
              obtain ⟨b1', off1, ry, fy, hfa, j1, j2, j3, j4, j5, j6, hvy⟩ := (H2.out.keeps hT11.low).item HBJ.out
              subst hfa
              have hlk := World.block_lt_of_cell? w11 _ k1
              have hlj := World.block_lt_of_cell? w11 _ j1
              have t5 := block_cell ht11 (i := 5) rfl
              have v5 := block_cell hbx11 (i := 5) rfl
              have hjl := (List.getElem?_eq_some_iff.1 HBJ.out).1
              rw [HN2.out] at hjl
              have hjI : (j : Int) < (bn : Int) := by omega
              have HDS := Lib.hid (sameP_refl d hvx)
              have HVX := Lib.hid (hvx.keeps (w' := w11.drew) (Below.refl _ _).drew)
              have HVY := Lib.hid (hvy.keeps (w' := w11.drew) (Below.refl _ _).drew)
              clear hvx hvy
              go_still_tail 13, (by kernel_rfl)
              change wpList _ _ _ _ _ w11.drew
              go_wp2_with (go_at_call 15; refine (Same_any d HVY.out HVX.out).mono ?_; rw [HDS.out]; rintro e w12 ⟨rfl, hb12⟩)
              have hb13 : Below w11.heap.size w11 w12 := (Below.refl _ _).drew.next hb12
              go_roundw
              case rel => exact ⟨k + 1, by omega, by go_num, hT11.below hb13, block_below hbx11 hb13, hb11.next hb13⟩
              case measure => simp [intOf]; omega
            · have hm1 : decide ((-1 : Int) < 0) = true := by decide
              have hja0 : decide ((ja : Int) < 0) = false := by simp
              have HAJ := Lib.hid haj
              have HJ := Lib.hid hj
              have HJA := Lib.hid hja
              clear haj hj hja hx
              go_wp2_with fail
              go_still_tail 6, (by kernel_rfl)
              change wpList _ _ _ _ _ wr.drew
              clear a0 a1 a2 a3 a4 a5 b0 b1 b2 b3 b4 b5 v4 v5
              go_wp2_with (go_at_call 14
                           refine (at_any (H2.out.keeps hT9.low) s).mono ?_
                           rw [HJ.out]
                           rintro e w9 ⟨rfl, hb9⟩
                           have hT10 := hT9.below hb9
                           have hbx10 := block_below hbx9 hb9
                           have hb10 := hb8.next (hdr.next hb9)
                           have n0 := cell_keeps (hdr.next hb9) n0
                           clear hT9 hbx9 hb9 hb8 hT8 hbx8 hdr
                           have b0 := block_cell hT10.b (i := 0) rfl
                           have b1 := block_cell hT10.b (i := 1) rfl
                           have b2 := block_cell hT10.b (i := 2) rfl
                           have b3 := block_cell hT10.b (i := 3) rfl
                           have b4 := block_cell hT10.b (i := 4) rfl
                           have b5 := block_cell hT10.b (i := 5) rfl)
              obtain ⟨w11, hw11⟩ : ∃ w11, w9.alloc (.cells #[.int .i64 b.kind, .int .i64 b.int, .float .f64 b.flt, .string b.text, .slice ra' bn rc', .slice fa' bn fc'] 27) = w11 := ⟨_, rfl⟩
              have hb9a : Below w9.heap.size w9 w11 := by rw [← hw11]; exact (Below.refl _ _).alloc (Nat.le_refl _) _
              have ht11 : w11.heap[w9.heap.size]? = some (.cells #[.int .i64 b.kind, .int .i64 b.int, .float .f64 b.flt, .string b.text, .slice ra' bn rc', .slice fa' bn fc'] 27 (0, 0)) := by rw [← hw11]; exact block_new _ _ rfl
              rw [hw11]
              have hT11 := hT10.below hb9a
              have hbx11 := block_below hbx10 hb9a
              have hb11 := hb10.next hb9a
              have HB69 := Lib.hid hb10.size
              have HG69 := Lib.hid (block_lt hbx10)
              have n0 := cell_keeps hb9a n0
              clear hT10 hbx10 hb9a hb10 b0 b1 b2 b3 b4 b5 hw11
              have v4 := block_cell hbx11 (i := 4) rfl
              have a0 := block_cell hT11.a (i := 0) rfl
              have a1 := block_cell hT11.a (i := 1) rfl
              have a2 := block_cell hT11.a (i := 2) rfl
              have a3 := block_cell hT11.a (i := 3) rfl
              have a4 := block_cell hT11.a (i := 4) rfl
              have a5 := block_cell hT11.a (i := 5) rfl
              go_wp2_with fail
              go_still_tail 6, (by kernel_rfl)
              change wpList _ _ _ _ _ w11.drew
              clear a0 a1 a2 a3 a4 a5 v4 n0
              have hdr : Below w11.heap.size w11 w11.drew := (Below.refl _ _).drew
              have hT12 := hT11.below hdr
              have hb69 : w6.heap.size ≤ w9.heap.size := HB69.out
              go_wp2_with (go_at_call 14
                           refine (at_any (H1.out.keeps hT12.low) s).mono ?_
                           rw [HJA.out]
                           rintro e w12 ⟨rfl, hb12⟩
                           have hT13 := hT12.below hb12
                           have hbx13 := block_below hbx11 (hdr.next hb12)
                           have hb13 := hb11.next (hdr.next hb12)
                           have ht13 := block_below ht11 (hdr.next hb12)
                           clear hT12 hbx11 hb12 hb11 hT11 hdr ht11
                           have a0 := block_cell hT13.a (i := 0) rfl
                           have a1 := block_cell hT13.a (i := 1) rfl
                           have a2 := block_cell hT13.a (i := 2) rfl
                           have a3 := block_cell hT13.a (i := 3) rfl
                           have a4 := block_cell hT13.a (i := 4) rfl
                           have a5 := block_cell hT13.a (i := 5) rfl
                           have z0 := block_cell ht13 (i := 0) rfl
                           have z1 := block_cell ht13 (i := 1) rfl
                           have z2 := block_cell ht13 (i := 2) rfl
                           have z3 := block_cell ht13 (i := 3) rfl
                           have z4 := block_cell ht13 (i := 4) rfl
                           have z5 := block_cell ht13 (i := 5) rfl
                           have y0 := block_free (i := 0) ht13
                           have y1 := block_free (i := 1) ht13
                           have y2 := block_free (i := 2) ht13
                           have y3 := block_free (i := 3) ht13
                           have y4 := block_free (i := 4) ht13
                           have y5 := block_free (i := 5) ht13)
              obtain ⟨w14, hw14⟩ : ∃ w14, ((((((w12.setCell ⟨w9.heap.size, 0, none⟩ (.int .i64 a.kind)).setCell ⟨w9.heap.size, 1, none⟩ (.int .i64 a.int)).setCell ⟨w9.heap.size, 2, none⟩ (.float .f64 a.flt)).setCell ⟨w9.heap.size, 3, none⟩ (.string a.text)).setCell ⟨w9.heap.size, 4, none⟩ (.slice ra an rc)).setCell ⟨w9.heap.size, 5, none⟩ (.slice fa an fc)) = w14 := ⟨_, rfl⟩
              have hg6 := HG69.out
              have hsz := World.block_lt_of_cell? w12 _ z0
              have hlt6 := block_lt hbx13
              have hbo := block_lt hT13.b
              have hlw := HLW.out
              have hT14 := hT13.set6 (g := w9.heap.size) (by omega) (.int .i64 a.kind) (.int .i64 a.int) (.float .f64 a.flt) (.string a.text) (.slice ra an rc) (.slice fa an fc)
              have hbx14 := set6_other (B := w9.heap.size) hbx13 (by omega) (.int .i64 a.kind) (.int .i64 a.int) (.float .f64 a.flt) (.string a.text) (.slice ra an rc) (.slice fa an fc)
              have hb14 := set6_below (B := w9.heap.size) hb13 (by omega) (.int .i64 a.kind) (.int .i64 a.int) (.float .f64 a.flt) (.string a.text) (.slice ra an rc) (.slice fa an fc)
              have ht14 := row6 ht13 (.int .i64 a.kind) (.int .i64 a.int) (.float .f64 a.flt) (.string a.text) (.slice ra an rc) (.slice fa an fc)
              rw [hw14] at hT14 hbx14 hb14 ht14
              rw [hw14]
              clear hT13 hbx13 hb13 ht13 hw14 a0 a1 a2 a3 a4 a5 z0 z1 z2 z3 z4 z5 y0 y1 y2 y3 y4 y5 hsz hlt6 hbo hlw hg6
              obtain ⟨vb, voff, rx, fx, hva, k1, k2, k3, k4, k5, k6, hvx⟩ := HVC.out k x HX.out
              subst hva
              have k1 := cell_keeps hb14 k1
              have k2 := cell_keeps hb14 k2
              have k3 := cell_keeps hb14 k3
              have k4 := cell_keeps hb14 k4
              have k5 := cell_keeps hb14 k5
              have k6 := cell_keeps hb14 k6
              have hvx := hvx.keeps hb14
              obtain ⟨b1', off1, ry, fy, hfa, j1, j2, j3, j4, j5, j6, hvy⟩ := (H1.out.keeps hT14.low).item HAJ.out
              subst hfa
              have hlk := World.block_lt_of_cell? w14 _ k1
              have hlj := World.block_lt_of_cell? w14 _ j1
              have t5 := block_cell ht14 (i := 5) rfl
              have v5 := block_cell hbx14 (i := 5) rfl
              have hjl := (List.getElem?_eq_some_iff.1 HAJ.out).1
              rw [HN1.out] at hjl
              have hjI : (ja : Int) < (an : Int) := by omega
              have HDS := Lib.hid (sameP_refl d hvx)
              have HVX := Lib.hid (hvx.keeps (w' := w14.drew) (Below.refl _ _).drew)
              have HVY := Lib.hid (hvy.keeps (w' := w14.drew) (Below.refl _ _).drew)
              clear hvx hvy
              go_still_tail 13, (by kernel_rfl)
              change wpList _ _ _ _ _ w14.drew
              go_wp2_with (go_at_call 15; refine (Same_any d HVY.out HVX.out).mono ?_; rw [HDS.out]; rintro e w15 ⟨rfl, hb15⟩)
              have hb16 : Below w14.heap.size w14 w15 := (Below.refl _ _).drew.next hb15
              go_roundw
              case rel => exact ⟨k + 1, by omega, by go_num, hT14.below hb16, block_below hbx14 hb16, hb14.next hb16⟩
              case measure => simp [intOf]; omega
          · obtain rfl : k = L.length := by omega
            clear a0 a1 a2 a3 a4 a5 b0 b1 b2 b3 b4 b5 v5 HAT
            go_wp2_with fail
            clear v4
            go_loopw [8, 12] (fun n i wr2 => ∃ k c : Nat, k ≤ an ∧ i = .int .i64 (k : Int) ∧ n = .int .i64 (c : Int) ∧ Hid (c = cntP a b k) ∧ c ≤ k ∧ Two2 w wr2 #[.int .i64 a.kind, .int .i64 a.int, .float .f64 a.flt, .string a.text, .slice ra an rc, .slice fa an fc] #[.int .i64 b.kind, .int .i64 b.int, .float .f64 b.flt, .string b.text, .slice ra' bn rc', .slice fa' bn fc'] ∧ wr2.heap[g6]? = some (.cells #[.int .i64 6, .int .i64 0, .float .f64 0, .string ⟨#[]⟩, .slice na L.length nc, .slice va L.length vc] 27 (0, 0)) ∧ Below w6.heap.size w6 wr2) (fun _ i _ => an - (intOf i).toNat)
            case atStart => exact ⟨0, 0, Nat.zero_le _, rfl, rfl, cntP_zero.symm, Nat.le_refl _, hT8, hbx8, hb8⟩
            case round =>
              clear hT8 hbx8 hb8 hk hltk
              obtain ⟨k, c, hk, rfl, rfl, hc, hck, hT8, hbx8, hb8⟩ := hrel
              have a0 := block_cell hT8.a (i := 0) rfl
              have a1 := block_cell hT8.a (i := 1) rfl
              have a2 := block_cell hT8.a (i := 2) rfl
              have a3 := block_cell hT8.a (i := 3) rfl
              have a4 := block_cell hT8.a (i := 4) rfl
              have a5 := block_cell hT8.a (i := 5) rfl
              have b0 := block_cell hT8.b (i := 0) rfl
              have b1 := block_cell hT8.b (i := 1) rfl
              have b2 := block_cell hT8.b (i := 2) rfl
              have b3 := block_cell hT8.b (i := 3) rfl
              have b4 := block_cell hT8.b (i := 4) rfl
              have b5 := block_cell hT8.b (i := 5) rfl
              have v4 := block_cell hbx8 (i := 4) rfl
              by_cases hltk : k < an
              · obtain ⟨s, hs⟩ := get_lt a.names (k := k) (by have := HNA.out; omega)
                have hnn := H1.out.names
                obtain ⟨a', cap', he, hz1, hz2, hcc⟩ := hnn
                obtain ⟨nb, noff, ha', n0, -, -⟩ := hcc k s hs
                simp only [Value.slice.injEq] at he
                obtain ⟨he1, -, -⟩ := he
                rw [ha'] at he1
                subst he1
                have n0 := cell_keeps hT8.low n0
                have hkI : (k : Int) < (an : Int) := by omega
                have HST := Lib.hid (cntP_step (a := a) (b := b) hs)
                have hdr : Below wr.heap.size wr wr.drew := (Below.refl _ _).drew
                have hT9 := hT8.below hdr
                have hb9 := hb8.next hdr
                have hbx9 := block_below hbx8 hdr
                have hat := at_any (H2.out.keeps hT9.low) s
                clear hs hcc ha' hz1 hz2
                generalize atP b s = q at *
                have HATC := Lib.hid hat
                clear hat
                by_cases hq : q < 0
                · have hqd : decide (q < 0) = true := by simp [hq]
                  go_wp2_with fail
                  go_still_tail 6, (by kernel_rfl)
                  change wpList _ _ _ _ _ wr.drew
                  go_wp2_with (go_at_call 14
                               refine HATC.out.mono ?_
                               rintro e w10 ⟨rfl, hb10⟩)
                  go_roundw
                  case rel => exact ⟨k + 1, c + 1, by omega, by go_num, by go_num, by unfold Hid; rw [HST.out, if_pos hq, ← hc.out], by omega, hT9.below hb10, block_below hbx9 hb10, hb9.next hb10⟩
                  case measure => simp [intOf]; omega
                · have hqd : decide (q < 0) = false := by simp [hq]
                  go_wp2_with fail
                  go_still_tail 6, (by kernel_rfl)
                  change wpList _ _ _ _ _ wr.drew
                  go_wp2_with (go_at_call 14
                               refine HATC.out.mono ?_
                               rintro e w10 ⟨rfl, hb10⟩)
                  go_roundw
                  case rel => exact ⟨k + 1, c, by omega, by go_num, by go_num, by unfold Hid; rw [HST.out, if_neg (by omega), ← hc.out, Nat.add_zero], by omega, hT9.below hb10, block_below hbx9 hb10, hb9.next hb10⟩
                  case measure => simp [intOf]; omega
              · obtain rfl : k = an := by omega
                have hcnt : L.length = c + bn := by rw [HCNT.out, HNA.out, HNB.out, ← hc.out]
                have hcntI : ((L.length : Int) == (c : Int) + (bn : Int)) = true := by simp; omega
                have HTT := Lib.hid hT8
                go_wp2_with fail
                refine (reckon_upd (H1.out.keeps hT8.low) (H1.out.keeps hT8.low) HKA.out HKA.out HGA.out HGA.out).mono ?_
                rintro e w10 ⟨⟨L2, xs2, hup2, hok2, _⟩, hb10⟩
                obtain ⟨hself, hle2⟩ := up_self HKA.out HGA.out hup2
                obtain ⟨r4, f4, rfl, hv2⟩ := hok2 hle2
                have hsame : sameP (d + 1) (.mk 6 0 0 ⟨#[]⟩ L2 xs2) a = true := by rw [hself]; exact sameP_refl _ H1.out
                have hnm2 : SL w10 r4 L2 := hv2.names
                have hvl2 : VLs d w10 f4 xs2 := hv2.list
                obtain ⟨va2, vc2, rfl, -, -, -⟩ := hvl2
                obtain ⟨na2, nc2, rfl, -, -, -⟩ := hnm2
                have hT10 := hT8.below hb10
                have hbx10 := block_below hbx8 hb10
                have HV2 := Lib.hid hv2
                have HSM := Lib.hid hsame
                clear hup2 hok2 hself hv2 hsame a0 a1 a2 a3 a4 a5 b0 b1 b2 b3 b4 b5 v4
                have a0 := block_cell hT10.a (i := 0) rfl
                have a1 := block_cell hT10.a (i := 1) rfl
                have a2 := block_cell hT10.a (i := 2) rfl
                have a3 := block_cell hT10.a (i := 3) rfl
                have a4 := block_cell hT10.a (i := 4) rfl
                have a5 := block_cell hT10.a (i := 5) rfl
                have b4 := block_cell hT10.b (i := 4) rfl
                have v4 := block_cell hbx10 (i := 4) rfl
                have hlt := block_lt hT10.b
                have hltg := block_lt hbx10
                have hlt0 := block_lt hT10.a
                have hT11 := hT10.below (W' := w10.alloc (.cells #[.int .i64 6, .int .i64 0, .float .f64 0, .string ⟨#[]⟩, .slice na2 L2.length nc2, .slice va2 xs2.length vc2] 27 (0, 0))) (by (repeat' (first | (with_reducible exact Below.refl _ _) | (with_reducible assumption) | (with_reducible refine below_drewN ?_ _) | (with_reducible refine Below.drew ?_) | (with_reducible refine Below.alloc ?_ ?_ _) | (with_reducible refine Below.setCell ?_ ?_ _) | omega | (simp; done) | (simp; omega))))
                go_wp2_with fail
                refine (Same_any (d + 1) (HV2.out.keeps (w' := w10.alloc (.cells #[.int .i64 6, .int .i64 0, .float .f64 0, .string ⟨#[]⟩, .slice na2 L2.length nc2, .slice va2 xs2.length vc2] 27 (0, 0))) (by (repeat' (first | (with_reducible exact Below.refl _ _) | (with_reducible assumption) | (with_reducible refine below_drewN ?_ _) | (with_reducible refine Below.drew ?_) | (with_reducible refine Below.alloc ?_ ?_ _) | (with_reducible refine Below.setCell ?_ ?_ _) | omega | (simp; done) | (simp; omega))))) (H1.out.keeps hT11.low)).mono ?_
                rw [HSM.out]
                rintro e w12 ⟨rfl, hb12⟩
                go_wp2_with fail
                go_ret
                exact ⟨rfl, hT11.low.next hb12⟩
      · obtain rfl := hlong (by omega)
        have hgt : (256 : Int) < (an : Int) + (bn : Int) := by omega
        clear hok hlong
        go_wp2_with fail
        go_ret
        refine ⟨rfl, ?_⟩
        have := hT6.low
        (repeat' (first | (with_reducible exact Below.refl _ _) | (with_reducible assumption) | (with_reducible refine below_drewN ?_ _) | (with_reducible refine Below.drew ?_) | (with_reducible refine Below.alloc ?_ ?_ _) | (with_reducible refine Below.setCell ?_ ?_ _) | omega | (simp; done) | (simp; omega)))
    · have hkbb : (b.kind != 6) = true := by simp [hkb]
      go_wp2_with fail
      go_ret
      exact ⟨rfl, hT5.low⟩
  · have hkab : (a.kind != 6) = true := by simp [hka]
    go_wp2_with fail
    go_ret
    exact ⟨rfl, hT5.low⟩
end Go.Proofs.YtdpnknlpkjablaaGreatDoor
