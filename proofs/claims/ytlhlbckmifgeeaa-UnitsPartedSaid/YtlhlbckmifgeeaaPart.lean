/- UnitsParted returns true for whatever two lists of units. -/
import Derived.Test.YtlhlbckmifgeeaaDiffs
import Derived.Test.YtlhlbckmifgeeaaPartP
namespace Go.Proofs.Ytlhlbckmifgeeaa
open Go.RowKit

theorem mem_take_succ {ks : List ByteArray} {x : Nat} {s : ByteArray} (h : ks[x]? = some s) (r : ByteArray) : r ∈ ks.take (x + 1) ↔ r ∈ ks.take x ∨ r = s := by
  rw [List.take_add_one, h]
  simp

set_option maxHeartbeats 4000000 in
set_option maxRecDepth 100000 in
theorem parted_law {v1 v2 : Value} {old fresh : List U} {w : World} (h1 : UL w v1 old) (h2 : UL w v2 fresh) :
    Calls Try.prog 7 #[v1, v2] w fun e w' => e = .returned (.bool true) ∧ Below w.heap.size w w' := by
  have h10 := h1
  have h20 := h2
  obtain ⟨a1, cap1, rfl, hm1, hc1⟩ := h10
  obtain ⟨a2, cap2, rfl, hm2, hc2⟩ := h20
  generalize hn1 : old.length = n1 at *
  generalize hn2 : fresh.length = n2 at *
  have HN1 := Lib.hid hn1
  have HN2 := Lib.hid hn2
  have HC1 := Lib.hid hc1
  have HC2 := Lib.hid hc2
  clear hn1 hn2 hc1 hc2
  have hl1 := Lib.hid (show largeU old = decide (2000 < sizeU old) from rfl)
  have hl2 := Lib.hid (show largeU fresh = decide (2000 < sizeU fresh) from rfl)
  by_cases hbig1 : 2000 < sizeU old
  · have HL1 := Lib.hid (show largeU old = true by rw [hl1.out]; simpa using hbig1)
    go_enter Try.func7, Try.ntmps7
    go_wp2_with fail
    refine (shown_any w).mono ?_
    rintro e w1 ⟨rfl, hb1⟩
    go_wp2_with fail
    refine (large_any (h1.keeps hb1)).mono ?_
    rw [HL1.out]
    rintro e w2 ⟨rfl, m2, rfl⟩
    have hb2 : Below w.heap.size w (w1.drewN m2) := below_drewN hb1 _
    go_wp2_with fail
    refine (large_any (h2.keeps hb2)).mono ?_
    rintro e w3 ⟨rfl, m3, rfl⟩
    have hb3 := below_drewN hb1 (m2 + m3)
    go_wp2_with fail
    go_ret
    exact ⟨rfl, hb3⟩
  · have HL1 := Lib.hid (show largeU old = false by rw [hl1.out]; simpa using hbig1)
    have HS1 := Lib.hid (show sizeU old ≤ 2000 by omega)
    clear hbig1
    by_cases hbig2 : 2000 < sizeU fresh
    · have HL2 := Lib.hid (show largeU fresh = true by rw [hl2.out]; simpa using hbig2)
      go_enter Try.func7, Try.ntmps7
      go_wp2_with fail
      refine (shown_any w).mono ?_
      rintro e w1 ⟨rfl, hb1⟩
      go_wp2_with fail
      refine (large_any (h1.keeps hb1)).mono ?_
      rw [HL1.out]
      rintro e w2 ⟨rfl, m2, rfl⟩
      have hb2 : Below w.heap.size w (w1.drewN m2) := below_drewN hb1 _
      go_wp2_with fail
      refine (large_any (h2.keeps hb2)).mono ?_
      rw [HL2.out]
      rintro e w3 ⟨rfl, m3, rfl⟩
      have hb3 := below_drewN hb1 (m2 + m3)
      go_wp2_with fail
      go_ret
      exact ⟨rfl, hb3⟩
    · have HL2 := Lib.hid (show largeU fresh = false by rw [hl2.out]; simpa using hbig2)
      have HS2 := Lib.hid (show sizeU fresh ≤ 2000 by omega)
      clear hbig2
      have hok1 := Lib.hid (@order_ok old)
      have hok2 := Lib.hid (@order_ok fresh)
      go_enter Try.func7, Try.ntmps7
      go_wp2_with fail
      refine (shown_any w).mono ?_
      rintro e w1 ⟨rfl, hb1⟩
      go_wp2_with fail
      refine (large_any (h1.keeps hb1)).mono ?_
      rw [HL1.out]
      rintro e w2 ⟨rfl, m2, rfl⟩
      have hb2 : Below w.heap.size w (w1.drewN m2) := below_drewN hb1 _
      go_wp2_with fail
      refine (large_any (h2.keeps hb2)).mono ?_
      rw [HL2.out]
      rintro e w3 ⟨rfl, m3, rfl⟩
      have hb3 := below_drewN hb1 (m2 + m3)
      go_wp2_with fail
      refine (order_any (h1.keeps hb3) HS1.out).mono ?_
      rintro e w4 hA1
      generalize orderU old = R1 at hA1 hok1
      obtain ⟨xr1, nr1, er1⟩ := R1
      obtain ⟨xv1, rfl, _, hb4⟩ := hA1
      have hb4' := hb3.next hb4
      go_wp2_with fail
      refine (order_any (h2.keeps hb4') HS2.out).mono ?_
      rintro e w5 hA2
      generalize orderU fresh = R2 at hA2 hok2
      obtain ⟨xr2, nr2, er2⟩ := R2
      obtain ⟨xv2, rfl, _, hb5⟩ := hA2
      have hb5' := hb4'.next hb5
      simp only at hok1 hok2
      by_cases he1 : er1 = 0
      · obtain ⟨hnm1, hle1, hnd1, _⟩ := hok1.out he1
        have HND1 := Lib.hid hnd1
        clear hnd1
        subst he1
        subst hnm1
        by_cases he2 : er2 = 0
        · obtain ⟨hnm2, hle2, hnd2, hrq2⟩ := hok2.out he2
          have HND2 := Lib.hid hnd2
          have HRQ2 := Lib.hid hrq2
          clear hnd2 hrq2 hok1 hok2 hl1 hl2 HL1 HL2
          subst he2
          subst hnm2
          go_wp2_with fail
          refine (unitsDiff_any (h1.keeps hb5') (h2.keeps hb5') HS1.out HS2.out).mono ?_
          rintro e w6 ⟨S, hM, hC, x1, x2, x3, rfl, hx1, hx2, hx3, hb6⟩
          have hb6' := hb5'.next hb6
          have HM := Lib.hid hM
          have HC := Lib.hid hC
          have hp1 := part_old HND1.out HND2.out hM
          have hp2 := part_new HND2.out S
          rw [HN1.out, HN2.out] at hp1
          rw [HN2.out] at hp2
          rw [HN1.out] at hx1
          rw [HN2.out] at hx2 hx3
          have HKA : Hid (∀ s, s ∈ keepP fresh S n2 → ∃ i k u x, findI fresh s = ((i : Nat) : Int) ∧ findI old s = ((k : Nat) : Int) ∧ fresh[i]? = some u ∧ old[k]? = some x ∧ sameU x u = true ∧ S s = true) := Lib.hid (fun s hs => keep_at HND2.out hM (by rw [HN2.out]; exact hs))
          have HKR : Hid (∀ (s : ByteArray) (i : Nat) (u : U), S s = true → findI fresh s = (i : Int) → fresh[i]? = some u → ∀ r, r ∈ u.req → r ∈ keepP fresh S n2) := Lib.hid (fun s i u hs hi hu r hr => by have := keep_req HND2.out HRQ2.out hC hs hi hu hr; rw [HN2.out] at this; exact this)
          clear hM hC HM HC
          generalize stopP old S n1 = ls at *
          generalize keepP fresh S n2 = ks at *
          generalize startP fresh S n2 = ts at *
          obtain ⟨la, lc, rfl, _, _, _⟩ := hx1
          obtain ⟨ka, kc, rfl, _, hkm, hkc⟩ := hx2
          obtain ⟨sa, sc, rfl, _, _, _⟩ := hx3
          generalize hln : ls.length = ln at *
          generalize hkn : ks.length = kn at *
          generalize htn : ts.length = tn at *
          have HKN := Lib.hid hkn
          have HKC := Lib.hid hkc
          clear hln hkn htn hkc
          have hne1 : (((ln : Int) + (kn : Int)) != (n1 : Int)) = false := by rw [← hp1]; simp
          have hne2 : (((kn : Int) + (tn : Int)) != (n2 : Int)) = false := by rw [← hp2]; simp
          clear hp1 hp2
          go_wp2_with fail
          obtain ⟨wo, hwo⟩ : ∃ wo, wo = w6 := ⟨_, rfl⟩
          subst hwo
          go_loopw [17] (fun i wq => ∃ k : Nat, k ≤ kn ∧ i = .int .i64 (k : Int) ∧ Below wo.heap.size wo wq) (fun i _ => kn - (intOf i).toNat)
          case atStart => exact ⟨0, Nat.zero_le _, rfl, Below.refl _ _⟩
          case round =>
            obtain ⟨k, hk, rfl, hb7⟩ := hrel
            have hbq := hb6'.next hb7
            by_cases hlt : k < kn
            · obtain ⟨s, hs⟩ := get_lt ks (k := k) (by have := HKN.out; omega)
              obtain ⟨kb, ko, rfl, hcs, hss, _⟩ := HKC.out k s hs
              have hcs := cell_keeps hb7 hcs
              obtain ⟨b, a, u, x, hfb, hfa, hu, hx, hsame, hS⟩ := HKA.out s (List.mem_of_getElem? hs)
              have HFA := Lib.hid hfa
              have HFB := Lib.hid hfb
              have HSAME := Lib.hid hsame
              have HKR2 := Lib.hid (HKR.out s b u hS hfb hu)
              obtain ⟨b1, off1, rfl, hcx, _⟩ := HC1.out a _ hx
              obtain ⟨b2, off2, rfl, hcu, _⟩ := HC2.out b _ hu
              have hal : a < n1 := by have := (List.getElem?_eq_some_iff.1 hx).1; have := HN1.out; omega
              have hbl : b < n2 := by have := (List.getElem?_eq_some_iff.1 hu).1; have := HN2.out; omega
              have halI : (a : Int) < (n1 : Int) := by omega
              have hblI : (b : Int) < (n2 : Int) := by omega
              have ha0I : (0 : Int) ≤ (a : Int) := by omega
              have hb0I : (0 : Int) ≤ (b : Int) := by omega
              have ha0b : decide ((a : Int) < 0) = false := decide_eq_false (by omega)
              have hb0b : decide ((b : Int) < 0) = false := decide_eq_false (by omega)
              have HCU := Lib.hid hcu
              have hcx := UCP.keeps hbq hcx
              have hcu := UCP.keeps hbq hcu
              obtain ⟨r1, f1, hr1, hf1, hv1⟩ := hcx.value
              obtain ⟨r2, f2, hr2, hf2, hv2⟩ := hcu.value
              obtain ⟨p0, p1, _⟩ := hcx
              obtain ⟨q0, q1, _⟩ := hcu
              clear hs hfa hfb hsame hS hu hx
              go_wp2_with fail
              refine (find_any (ULP.keeps hbq h1)).mono ?_
              rw [HFA.out]
              rintro e w1' ⟨rfl, rfl⟩
              go_wp2_with fail
              refine (find_any (ULP.keeps hbq h2)).mono ?_
              rw [HFB.out]
              rintro e w1' ⟨rfl, rfl⟩
              go_upto_region 18 with fail
              go_cut [135] (fun c wx => c = .bool false ∧ Below wr.heap.size wr wx)
              case first =>
                refine with_frame fun a0 ha0 => ?_
                have e0 : a0.eval (.tmp 0) = .slice (some ⟨b1, off1, none⟩) n1 cap1 := by rw [ha0]; rfl
                have e1 : a0.eval (.tmp 1) = .slice (some ⟨b2, off2, none⟩) n2 cap2 := by rw [ha0]; rfl
                have e18 : a0.eval (.tmp 18) = .int .i64 (a : Int) := by rw [ha0]; rfl
                have e19 : a0.eval (.tmp 19) = .int .i64 (b : Int) := by rw [ha0]; rfl
                have hsz : a0.tmps.size = 192 := by rw [ha0]; rfl
                have HA := Lib.hid ha0
                clear ha0
                have hD : ∀ d, (List.range' 118 17).contains d = true → d < a0.tmps.size := by
                  intro d h
                  rw [hsz]
                  have hm : d ∈ List.range' 118 17 := by simpa using h
                  rw [List.mem_range'_1] at hm
                  omega
                refine wp_region_tab (by kernel_rfl) 17 118 (fun jj => ([.int .i64 (a : Int), .bool false, .bool false, .int .i64 (b : Int), .bool false, .bool false, .bool false, .slice (some ⟨b1, off1, none⟩) n1 cap1, .int .i64 (a : Int), .pointer (some ⟨b1, off1 + a * 4, none⟩), .agg #[.string x.name, .string x.start, r1, f1], .slice (some ⟨b2, off2, none⟩) n2 cap2, .int .i64 (b : Int), .pointer (some ⟨b2, off2 + b * 4, none⟩), .agg #[.string u.name, .string u.start, r2, f2], .bool true, .bool false] : List Value).getD jj undef) (fun w' => Below wr.heap.size wr w') rfl (by kernel_rfl) (by kernel_rfl) (by (repeat' (first | (with_reducible exact Below.refl _ _) | (with_reducible assumption) | (with_reducible refine below_drewN ?_ _) | (with_reducible refine Below.drew ?_) | (with_reducible refine Below.alloc ?_ ?_ _) | (with_reducible refine Below.setCell ?_ ?_ _) | omega | (simp; done) | (simp; omega)))) ?_ ?_
                · intro i0 hi0 v w0 hW hv
                  have p0 := cell_keeps hW p0
                  have p1 := cell_keeps hW p1
                  have q0 := cell_keeps hW q0
                  have q1 := cell_keeps hW q1
                  have hr1 := cell_keeps hW hr1
                  have hf1 := cell_keeps hW hf1
                  have hr2 := cell_keeps hW hr2
                  have hf2 := cell_keeps hW hf2
                  have inn : ∀ d, (List.range' 118 17).contains d = true → (frameOf a0 (List.range' 118 17) v).tmps[d]?.getD undef = v d := fun d h => frameOf_in' h (hD d h)
                  rcases (by omega : i0 = 0 ∨ i0 = 1 ∨ i0 = 2 ∨ i0 = 3 ∨ i0 = 4 ∨ i0 = 5 ∨ i0 = 6 ∨ i0 = 7 ∨ i0 = 8 ∨ i0 = 9 ∨ i0 = 10 ∨ i0 = 11 ∨ i0 = 12 ∨ i0 = 13 ∨ i0 = 14 ∨ i0 = 15 ∨ i0 = 16) with rfl | rfl | rfl | rfl | rfl | rfl | rfl | rfl | rfl | rfl | rfl | rfl | rfl | rfl | rfl | rfl | rfl
                  · -- operation 0
                    have E18 : (frameOf a0 (List.range' 118 17) v).tmps[18]?.getD undef = .int .i64 (a : Int) := (frameOf_out' rfl).trans e18
                    refine wpOp_value (v := .int .i64 (a : Int)) (w' := w0) rfl rfl (by go_simp) ?_
                    exact ⟨frameOf_put rfl, hW⟩
                  · -- operation 1
                    have x118 : v 118 = .int .i64 (a : Int) := hv 0 (by kernel_rfl)
                    have E118 := (inn 118 rfl).trans x118
                    refine wpOp_value (v := .bool false) (w' := w0) rfl rfl (by go_simp) ?_
                    exact ⟨frameOf_put rfl, hW⟩
                  · -- operation 2
                    have x119 : v 119 = .bool false := hv 1 (by kernel_rfl)
                    have E119 := (inn 119 rfl).trans x119
                    refine wpOp_value (v := .bool false) (w' := w0) rfl rfl (by go_simp) ?_
                    exact ⟨frameOf_put rfl, hW⟩
                  · -- operation 3
                    have E19 : (frameOf a0 (List.range' 118 17) v).tmps[19]?.getD undef = .int .i64 (b : Int) := (frameOf_out' rfl).trans e19
                    have x120 : v 120 = .bool false := hv 2 (by kernel_rfl)
                    have E120 := (inn 120 rfl).trans x120
                    refine wpOp_guard (v := .int .i64 (b : Int)) (w' := w0) rfl rfl (yielded_at rfl rfl (by simp [frameOf, hsz]) E120) (by go_simp) ?_
                    exact ⟨frameOf_put rfl, hW⟩
                  · -- operation 4
                    have x120 : v 120 = .bool false := hv 2 (by kernel_rfl)
                    have E120 := (inn 120 rfl).trans x120
                    have x121 : v 121 = .int .i64 (b : Int) := hv 3 (by kernel_rfl)
                    have E121 := (inn 121 rfl).trans x121
                    refine wpOp_guard (v := .bool false) (w' := w0) rfl rfl (yielded_at rfl rfl (by simp [frameOf, hsz]) E120) (by go_simp) ?_
                    exact ⟨frameOf_put rfl, hW⟩
                  · -- operation 5
                    have x120 : v 120 = .bool false := hv 2 (by kernel_rfl)
                    have E120 := (inn 120 rfl).trans x120
                    have x122 : v 122 = .bool false := hv 4 (by kernel_rfl)
                    have E122 := (inn 122 rfl).trans x122
                    refine wpOp_value (v := .bool false) (w' := w0) rfl rfl (by go_simp) ?_
                    exact ⟨frameOf_put rfl, hW⟩
                  · -- operation 6
                    have x123 : v 123 = .bool false := hv 5 (by kernel_rfl)
                    have E123 := (inn 123 rfl).trans x123
                    refine wpOp_value (v := .bool false) (w' := w0) rfl rfl (by go_simp) ?_
                    exact ⟨frameOf_put rfl, hW⟩
                  · -- operation 7
                    have E0 : (frameOf a0 (List.range' 118 17) v).tmps[0]?.getD undef = .slice (some ⟨b1, off1, none⟩) n1 cap1 := (frameOf_out' rfl).trans e0
                    have x124 : v 124 = .bool false := hv 6 (by kernel_rfl)
                    have E124 := (inn 124 rfl).trans x124
                    refine wpOp_guard (v := .slice (some ⟨b1, off1, none⟩) n1 cap1) (w' := w0) rfl rfl (yielded_at rfl rfl (by simp [frameOf, hsz]) E124) (by go_simp) ?_
                    exact ⟨frameOf_put rfl, hW⟩
                  · -- operation 8
                    have E18 : (frameOf a0 (List.range' 118 17) v).tmps[18]?.getD undef = .int .i64 (a : Int) := (frameOf_out' rfl).trans e18
                    have x124 : v 124 = .bool false := hv 6 (by kernel_rfl)
                    have E124 := (inn 124 rfl).trans x124
                    refine wpOp_guard (v := .int .i64 (a : Int)) (w' := w0) rfl rfl (yielded_at rfl rfl (by simp [frameOf, hsz]) E124) (by go_simp) ?_
                    exact ⟨frameOf_put rfl, hW⟩
                  · -- operation 9
                    have x124 : v 124 = .bool false := hv 6 (by kernel_rfl)
                    have E124 := (inn 124 rfl).trans x124
                    have x125 : v 125 = .slice (some ⟨b1, off1, none⟩) n1 cap1 := hv 7 (by kernel_rfl)
                    have E125 := (inn 125 rfl).trans x125
                    have x126 : v 126 = .int .i64 (a : Int) := hv 8 (by kernel_rfl)
                    have E126 := (inn 126 rfl).trans x126
                    refine wpOp_guard (v := .pointer (some ⟨b1, off1 + a * 4, none⟩)) (w' := w0) rfl rfl (yielded_at rfl rfl (by simp [frameOf, hsz]) E124) (by go_simp) ?_
                    exact ⟨frameOf_put rfl, hW⟩
                  · -- operation 10
                    have x124 : v 124 = .bool false := hv 6 (by kernel_rfl)
                    have E124 := (inn 124 rfl).trans x124
                    have x127 : v 127 = .pointer (some ⟨b1, off1 + a * 4, none⟩) := hv 9 (by kernel_rfl)
                    have E127 := (inn 127 rfl).trans x127
                    refine wpOp_guard (v := .agg #[.string x.name, .string x.start, r1, f1]) (w' := w0) rfl rfl (yielded_at rfl rfl (by simp [frameOf, hsz]) E124) (by go_simp) ?_
                    exact ⟨frameOf_put rfl, hW⟩
                  · -- operation 11
                    have E1 : (frameOf a0 (List.range' 118 17) v).tmps[1]?.getD undef = .slice (some ⟨b2, off2, none⟩) n2 cap2 := (frameOf_out' rfl).trans e1
                    have x124 : v 124 = .bool false := hv 6 (by kernel_rfl)
                    have E124 := (inn 124 rfl).trans x124
                    refine wpOp_guard (v := .slice (some ⟨b2, off2, none⟩) n2 cap2) (w' := w0) rfl rfl (yielded_at rfl rfl (by simp [frameOf, hsz]) E124) (by go_simp) ?_
                    exact ⟨frameOf_put rfl, hW⟩
                  · -- operation 12
                    have E19 : (frameOf a0 (List.range' 118 17) v).tmps[19]?.getD undef = .int .i64 (b : Int) := (frameOf_out' rfl).trans e19
                    have x124 : v 124 = .bool false := hv 6 (by kernel_rfl)
                    have E124 := (inn 124 rfl).trans x124
                    refine wpOp_guard (v := .int .i64 (b : Int)) (w' := w0) rfl rfl (yielded_at rfl rfl (by simp [frameOf, hsz]) E124) (by go_simp) ?_
                    exact ⟨frameOf_put rfl, hW⟩
                  · -- operation 13
                    have x124 : v 124 = .bool false := hv 6 (by kernel_rfl)
                    have E124 := (inn 124 rfl).trans x124
                    have x129 : v 129 = .slice (some ⟨b2, off2, none⟩) n2 cap2 := hv 11 (by kernel_rfl)
                    have E129 := (inn 129 rfl).trans x129
                    have x130 : v 130 = .int .i64 (b : Int) := hv 12 (by kernel_rfl)
                    have E130 := (inn 130 rfl).trans x130
                    refine wpOp_guard (v := .pointer (some ⟨b2, off2 + b * 4, none⟩)) (w' := w0) rfl rfl (yielded_at rfl rfl (by simp [frameOf, hsz]) E124) (by go_simp) ?_
                    exact ⟨frameOf_put rfl, hW⟩
                  · -- operation 14
                    have x124 : v 124 = .bool false := hv 6 (by kernel_rfl)
                    have E124 := (inn 124 rfl).trans x124
                    have x131 : v 131 = .pointer (some ⟨b2, off2 + b * 4, none⟩) := hv 13 (by kernel_rfl)
                    have E131 := (inn 131 rfl).trans x131
                    refine wpOp_guard (v := .agg #[.string u.name, .string u.start, r2, f2]) (w' := w0) rfl rfl (yielded_at rfl rfl (by simp [frameOf, hsz]) E124) (by go_simp) ?_
                    exact ⟨frameOf_put rfl, hW⟩
                  · -- operation 15
                    have x124 : v 124 = .bool false := hv 6 (by kernel_rfl)
                    have E124 := (inn 124 rfl).trans x124
                    have x128 : v 128 = .agg #[.string x.name, .string x.start, r1, f1] := hv 10 (by kernel_rfl)
                    have E128 := (inn 128 rfl).trans x128
                    have x132 : v 132 = .agg #[.string u.name, .string u.start, r2, f2] := hv 14 (by kernel_rfl)
                    have E132 := (inn 132 rfl).trans x132
                    refine wpOp_guardcall (f := 18) (args := #[.agg #[.string x.name, .string x.start, r1, f1], .agg #[.string u.name, .string u.start, r2, f2]]) rfl rfl (yielded_at rfl rfl (by simp [frameOf, hsz]) E124) (by go_simp) (same_any (UVP.keeps hW hv1) (UVP.keeps hW hv2)) ?_
                    rw [HSAME.out]
                    rintro e w' ⟨rfl, hB'⟩
                    exact ⟨_, rfl, frameOf_put rfl, hW.next hB'⟩
                  · -- operation 16
                    have x124 : v 124 = .bool false := hv 6 (by kernel_rfl)
                    have E124 := (inn 124 rfl).trans x124
                    have x133 : v 133 = .bool true := hv 15 (by kernel_rfl)
                    have E133 := (inn 133 rfl).trans x133
                    refine wpOp_guard (v := .bool false) (w' := w0) rfl rfl (yielded_at rfl rfl (by simp [frameOf, hsz]) E124) (by go_simp) ?_
                    exact ⟨frameOf_put rfl, hW⟩
                · intro w0 hW
                  have h0 := HA.out
                  subst h0
                  have hrg : List.range' 118 17 = [118, 119, 120, 121, 122, 123, 124, 125, 126, 127, 128, 129, 130, 131, 132, 133, 134] := rfl
                  rw [hrg]
                  clear hrg
                  simp only [frameOf_cons, frameOf_nil, Act.put, List.setIfInBounds_toArray, List.set_cons_zero, List.set_cons_succ]
                  refine wpOp_value (v := .bool false) (w' := w0) rfl rfl (by go_simp) ?_
                  go_wp2_with fail
                  go_meet
                  exact ⟨rfl, hW⟩
              case rest =>
                obtain ⟨rfl, hb8⟩ := hcut
                have hb9 := hb7.next hb8
                clear hcs p0 p1 q0 q1 hr1 hf1 hr2 hf2 hv1 hv2 hb7 hbq hb8 ha0b hb0b
                obtain ⟨_, _, _, _, rr, ff, cr, _, hrs, _⟩ := HCU.out
                obtain ⟨ra, rc, rfl, _, _, hrc⟩ := hrs
                have HRC := Lib.hid hrc
                have HCR := Lib.hid cr
                clear hrc cr
                go_wp2_with fail
                go_loopw [20] (fun i wq => ∃ k2 : Nat, k2 ≤ u.req.length ∧ i = .int .i64 (k2 : Int) ∧ Below wo.heap.size wo wq) (fun i _ => u.req.length - (intOf i).toNat)
                case atStart => exact ⟨0, Nat.zero_le _, rfl, hb9⟩
                case round =>
                  clear hb9
                  obtain ⟨k2, hk2, rfl, hb9⟩ := hrel
                  have hbq9 := hb6'.next hb9
                  have cr := cell_keeps hbq9 HCR.out
                  by_cases hlt2 : k2 < u.req.length
                  · obtain ⟨r, hr⟩ := get_lt u.req hlt2
                    obtain ⟨rb, ro, rfl, hcr, _, _⟩ := HRC.out k2 r hr
                    have HIN := Lib.hid (HKR2.out r (List.mem_of_getElem? hr))
                    have HCR2 := Lib.hid hcr
                    clear hr hcr
                    go_wp2_with fail
                    go_loopw [21, 22] (fun c i wq => ∃ (k3 : Nat) (B : Bool), k3 ≤ kn ∧ c = .bool B ∧ i = .int .i64 (k3 : Int) ∧ Hid (B = true ↔ r ∈ ks.take k3) ∧ Below wo.heap.size wo wq) (fun _ i _ => kn - (intOf i).toNat)
                    case atStart => exact ⟨0, false, Nat.zero_le _, rfl, rfl, (by unfold Hid; simp), hb9⟩
                    case round =>
                      clear hb9 hbq9 cr
                      obtain ⟨k3, B, hk3, rfl, rfl, HB, hb9⟩ := hrel
                      have hbq9 := hb6'.next hb9
                      have cr := cell_keeps hbq9 HCR.out
                      have hcr := cell_keeps hbq9 HCR2.out
                      by_cases hlt3 : k3 < kn
                      · obtain ⟨s3, hs3⟩ := get_lt ks (k := k3) (by have := HKN.out; omega)
                        obtain ⟨_, _, he3, hcs3, _, _⟩ := HKC.out k3 s3 hs3
                        simp only [Option.some.injEq, Addr.mk.injEq, and_true] at he3
                        obtain ⟨rfl, rfl⟩ := he3
                        have hcs3 := cell_keeps hb9 hcs3
                        have HT := Lib.hid (mem_take_succ hs3 r)
                        clear hs3
                        cases B
                        · generalize hcmp : (s3.toList == r.toList) = C
                          have HCMP := Lib.hid hcmp
                          go_wp2_with fail
                          go_quiet (fail)
                          go_wp2_with fail
                          go_roundw
                          case rel =>
                            refine ⟨k3 + 1, C, by omega, rfl, by go_num, ?_, below_drewN hb9 _⟩
                            unfold Hid
                            rw [HT.out, ← HCMP.out, eqs_true]
                            have h := HB.out
                            simp at h
                            constructor
                            · rintro rfl; exact Or.inr rfl
                            · rintro (h1 | h1)
                              · exact absurd h1 h
                              · exact h1.symm
                          case measure => simp [intOf]; omega
                        · go_wp2_with fail
                          go_quiet (fail)
                          go_wp2_with fail
                          go_roundw
                          case rel => exact ⟨k3 + 1, true, by omega, rfl, by go_num, (by unfold Hid; rw [HT.out]; simp only [true_iff]; exact Or.inl (HB.out.1 (by simp))), below_drewN hb9 _⟩
                          case measure => simp [intOf]; omega
                      · obtain rfl : k3 = kn := by omega
                        have hBt : B = true := HB.out.2 (by rw [List.take_of_length_le (by rw [HKN.out]; exact Nat.le_refl _)]; exact HIN.out)
                        subst hBt
                        go_wp2_with fail
                        go_roundw
                        case rel => exact ⟨k2 + 1, by omega, by go_num, hb9⟩
                        case measure => simp [intOf]; omega
                  · obtain rfl : k2 = u.req.length := by omega
                    go_wp2_with fail
                    go_roundw
                    case rel => exact ⟨k + 1, by omega, by go_num, hb9⟩
                    case measure => simp [intOf]; omega
            · obtain rfl : k = kn := by omega
              go_wp2_with fail
              refine (unitsDiff_any (h1.keeps hbq) (h1.keeps hbq) HS1.out HS1.out).mono ?_
              rintro e w8 ⟨T, hM, _, y1, y2, y3, rfl, hy1, hy2, hy3, hb8⟩
              rw [self_stop HND1.out hM] at hy1
              rw [self_start HND1.out hM] at hy3
              have hkl := self_keep HND1.out hM
              rw [HN1.out] at hkl hy2
              clear hM
              obtain ⟨_, _, rfl, _, _, _⟩ := hy1
              obtain ⟨_, _, rfl, _, _, _⟩ := hy2
              obtain ⟨_, _, rfl, _, _, _⟩ := hy3
              rw [hkl]
              have hnn : ((n1 : Int) == (n1 : Int)) = true := by simp
              go_wp2_with fail
              go_ret
              exact ⟨rfl, hbq.next hb8⟩
        · have hne2 : (er2 != 0) = true := by simp [he2]
          go_wp2_with fail
          go_ret
          exact ⟨rfl, hb5'⟩
      · have hne1 : (er1 != 0) = true := by simp [he1]
        by_cases he2 : er2 = 0
        · obtain ⟨hnm2, _, _, _⟩ := hok2.out he2
          subst he2
          subst hnm2
          go_wp2_with fail
          go_ret
          exact ⟨rfl, hb5'⟩
        · have hne2 : (er2 != 0) = true := by simp [he2]
          go_wp2_with fail
          go_ret
          exact ⟨rfl, hb5'⟩
end Go.Proofs.Ytlhlbckmifgeeaa
