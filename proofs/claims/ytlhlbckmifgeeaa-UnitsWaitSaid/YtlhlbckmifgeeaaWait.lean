/- UnitsWait returns true for whatever units. -/
import Derived.Test.YtlhlbckmifgeeaaWaitP
namespace Go.Proofs.Ytlhlbckmifgeeaa
open Go.RowKit

theorem sameU_refl (u : U) : sameU u u = true := by simp [sameU]
theorem sameAllU_refl (us : List U) : sameAllU us us = true := by
  refine sameAll_yes (n := us.length) (fun j x y _ hx hy => ?_) rfl rfl
  rw [hx] at hy; cases hy; exact sameU_refl _

theorem sizeU_reverse (us : List U) : sizeU us.reverse = sizeU us := by
  unfold sizeU
  rw [List.length_reverse, List.map_reverse, List.sum_reverse]

theorem rev_take {us : List U} {j : Nat} {u : U} (h : us[j]? = some u) : us.reverse.take (us.length - j) = us.reverse.take (us.length - (j + 1)) ++ [u] := by
  obtain ⟨hlt, he⟩ := List.getElem?_eq_some_iff.1 h
  have hk : us.reverse[us.length - (j + 1)]? = some u := by
    rw [List.getElem?_reverse (by omega), show us.length - 1 - (us.length - (j + 1)) = j by omega, h]
  rw [show us.length - j = us.length - (j + 1) + 1 by omega]
  exact take_snoc hk

set_option maxHeartbeats 1000000 in
set_option maxRecDepth 100000 in
theorem wait_law {v : Value} {us : List U} {w : World} (h1 : UL w v us) :
    Calls Try.prog 4 #[v] w fun e w' => e = .returned (.bool true) ∧ Below w.heap.size w w' := by
  have h0 := h1
  obtain ⟨a, cap, rfl, hm, hc⟩ := h0
  have HC := Lib.hid hc
  clear hc
  have hlarge := Lib.hid (show largeU us = decide (2000 < sizeU us) from rfl)
  by_cases hbig : 2000 < sizeU us
  · have HL := Lib.hid (show largeU us = true by rw [hlarge.out]; simpa using hbig)
    go_enter Try.func4, Try.ntmps4
    go_wp2_with fail
    refine (shown_any w).mono ?_
    rintro e w1 ⟨rfl, hb1⟩
    go_wp2_with fail
    refine (large_any (h1.keeps hb1)).mono ?_
    rw [HL.out]
    rintro e w2 ⟨rfl, m2, rfl⟩
    go_wp2_with fail
    go_ret
    exact ⟨rfl, (by (repeat' (first | (with_reducible exact Below.refl _ _) | (with_reducible assumption) | (with_reducible refine below_drewN ?_ _) | (with_reducible refine Below.drew ?_) | (with_reducible refine Below.alloc ?_ ?_ _) | (with_reducible refine Below.setCell ?_ ?_ _) | omega | (simp; done) | (simp; omega))))⟩
  · have HL := Lib.hid (show largeU us = false by rw [hlarge.out]; simpa using hbig)
    have hsz : sizeU us ≤ 2000 := by omega
    have hln : us.length ≤ 2000 := by unfold sizeU at hsz; omega
    generalize hn : us.length = n at *
    have HN := Lib.hid hn
    have HS := Lib.hid hsz
    clear hn hbig hsz
    go_enter Try.func4, Try.ntmps4
    go_wp2_with fail
    refine (shown_any w).mono ?_
    rintro e w1 ⟨rfl, hb1⟩
    go_wp2_with fail
    refine (large_any (h1.keeps hb1)).mono ?_
    rw [HL.out]
    rintro e w2 ⟨rfl, m2, rfl⟩
    have hb2 : Below w.heap.size w (w1.drewN m2) := below_drewN hb1 _
    go_wp2_with fail
    refine (order_any (h1.keeps hb2) HS.out).mono ?_
    rintro e w3 hA
    generalize hO : orderU us = R at hA
    obtain ⟨xr, nr, er⟩ := R
    have HO := Lib.hid hO
    clear hO
    have hspec := order_spec us
    have hrev := order_rev us
    rw [HO.out] at hspec hrev
    have HSPEC := Lib.hid hspec
    have HREV := Lib.hid hrev
    have hxl : xr.length ≤ 2000 := by
      rcases hspec with h | h
      · simp at h; rw [h.2]; simp
      · have := h.2.2.2.2.2.2; simp at this; rw [this, HN.out]; exact hln
    clear hspec hrev
    obtain ⟨v3, rfl, hu3, hb3⟩ := hA.read (by simp; omega)
    clear hA
    have hb3' : Below w.heap.size w w3 := hb2.trans (hb3.mono hb2.size)
    go_wp2_with fail
    go_loopw [8, 9] (fun t i wr => ∃ (m : Nat) (q : Int) (xs : List Value), m ≤ n ∧ Hid (q = (m : Int) - 1) ∧ i = .int .i64 q ∧ wr.ownsRow w3.heap.size 32 4 t (n - m) xs ∧ UFlat (fun b => b < w3.heap.size) wr xs (us.reverse.take (n - m)) ∧ Below w3.heap.size w3 wr) (fun _ i _ => (intOf i + 1).toNat)
    case atStart => exact ⟨n, _, [], Nat.le_refl _, rfl, rfl, by rw [Nat.sub_self]; exact World.ownsRow_nil _ _ _ _, by rw [Nat.sub_self]; exact UFlat.nil _ _, Below.refl _ _⟩
    case round =>
      obtain ⟨m, q, xs, hmn, HQ, rfl, hown, hflat, hb4⟩ := hrel
      cases m with
      | zero =>
        obtain rfl : q = -1 := by have := HQ.out; simpa using this
        simp only [Nat.sub_zero] at hown hflat
        rw [List.take_of_length_le (by simp; have := HN.out; omega)] at hflat
        have hz4 := hb4.size
        have hb4' : Below w.heap.size w wr := hb3'.trans (hb4.mono hb3'.size)
        go_wp2_with fail
        refine (order_any (ULP.of_own hown hflat (by simp; have := HN.out; omega)).any (by rw [sizeU_reverse]; exact HS.out)).mono ?_
        rintro e w5 hA2
        rcases HREV.out with hr | hr
        · rw [hr] at hA2
          obtain ⟨v5, rfl, hu5, hb5⟩ := hA2.read (by simp; omega)
          have hx3 : UL w5 v3 xr := (hu3.any.keeps hb4).keeps hb5
          have hb5' : Below w.heap.size w w5 := hb4'.trans (hb5.mono hb4'.size)
          clear hA2 hr
          go_wp2_with fail
          refine (sameAll_any hx3 hu5.any).mono ?_
          rw [sameAllU_refl]
          rintro e w6 ⟨rfl, hb6⟩
          have hx6 := hx3.keeps hb6
          have hb6' : Below w.heap.size w w6 := hb5'.trans (hb6.mono hb5'.size)
          rcases HSPEC.out with hs | hs
          · have hx0 : xr = [] := hs.2
            subst hx0
            have hne : (er != 0) = true := by rw [bne_iff_ne]; exact hs.1
            obtain ⟨a3, c3, rfl, _⟩ := hx3
            clear hs
            cases h10 : (er != 10)
            · go_wp2_with fail
              go_ret
              exact ⟨rfl, hb6'⟩
            · go_wp2_with fail
              go_ret
              exact ⟨rfl, hb6'⟩
          · have her : er = 0 := hs.1
            subst her
            obtain ⟨_, _, hnd, hgood, hxnd, hsub, hxlen⟩ := hs
            have hxn : xr.length = n := by rw [hxlen]; exact HN.out
            have HXN := Lib.hid hxn
            have HG := Lib.hid hgood
            have HXD := Lib.hid hxnd
            have HSUB := Lib.hid hsub
            have hl6 := h1.keeps hb6'
            have hx6' := hx6
            obtain ⟨a3, c3, he3, _, hc3⟩ := hx6'
            rw [hxn] at he3
            subst he3
            have HC3 := Lib.hid hc3
            have hnn : ((n : Int) != (n : Int)) = false := by simp
            clear hgood hxnd hsub hxlen hxn hc3 hu3 hx3 hnd
            go_wp2_with fail
            go_loopw [14] (fun i wr => ∃ k : Nat, k ≤ n ∧ i = .int .i64 k ∧ wr = w6) (fun i _ => n - (intOf i).toNat)
            case atStart => exact ⟨0, Nat.zero_le _, rfl, rfl⟩
            case round =>
              obtain ⟨k, hk, rfl, rfl⟩ := hrel
              by_cases hlt : k < n
              · obtain ⟨u, hu⟩ := get_lt xr (k := k) (by have := HXN.out; omega)
                obtain ⟨b, off, rfl, ⟨p0, p1, hsn, hss, r, f, p2, p3, hr, hf⟩, _⟩ := HC3.out k u hu
                have hr' := hr
                have hf' := hf
                obtain ⟨ra, rc, rfl, _, hrl, hrc⟩ := hr'
                obtain ⟨fa, fc, rfl, _, hfl, hfc⟩ := hf'
                have HRC := Lib.hid hrc
                have HFC := Lib.hid hfc
                have HF1 := Lib.hid (findI_self HXD.out hu)
                have hum := HSUB.out u (List.mem_of_getElem? hu)
                have hq := findI_ge (us := us) (List.mem_map.2 ⟨u, hum, rfl⟩)
                generalize hqq : findI us u.name = q at hq
                have HF2 := Lib.hid hqq
                have HGU := Lib.hid (HG.out k u hu)
                clear hrc hfc hqq hu
                go_wp2_with fail
                refine (find_any hx6).mono ?_
                rw [HF1.out]
                rintro e w7 ⟨rfl, rfl⟩
                go_wp2_with fail
                refine (find_any hl6).mono ?_
                rw [HF2.out]
                rintro e w7 ⟨rfl, rfl⟩
                go_wp2_with fail
                go_loopw [15] (fun i wq => ∃ kk : Nat, kk ≤ u.req.length ∧ i = .int .i64 kk ∧ wq = wr) (fun i _ => u.req.length - (intOf i).toNat)
                case atStart => exact ⟨0, Nat.zero_le _, rfl, rfl⟩
                case round =>
                  obtain ⟨kk, hkk, rfl, rfl⟩ := hrel
                  by_cases hlt2 : kk < u.req.length
                  · obtain ⟨s, hs⟩ := get_lt u.req hlt2
                    obtain ⟨b2, off2, rfl, hcell2, _, _⟩ := HRC.out kk s hs
                    have hq3 := findI_lt (HGU.out.1 s (List.mem_of_getElem? hs))
                    generalize hqq : findI xr s = q3 at hq3
                    have HF3 := Lib.hid hqq
                    have hq31 := hq3.1
                    have hq32 := hq3.2
                    clear hqq hs hq3
                    go_wp2_with fail
                    refine (find_any hx6).mono ?_
                    rw [HF3.out]
                    rintro e w7 ⟨rfl, rfl⟩
                    go_wp2_with fail
                    go_roundw
                    case rel => exact ⟨kk + 1, by omega, by go_num, trivial⟩
                    case measure => simp [intOf]; omega
                  · obtain rfl : kk = u.req.length := by omega
                    go_wp2_with fail
                    go_loopw [17] (fun i wq => ∃ kk : Nat, kk ≤ u.aft.length ∧ i = .int .i64 kk ∧ wq = wr) (fun i _ => u.aft.length - (intOf i).toNat)
                    case atStart => exact ⟨0, Nat.zero_le _, rfl, rfl⟩
                    case round =>
                      obtain ⟨kk, hkk, rfl, rfl⟩ := hrel
                      by_cases hlt3 : kk < u.aft.length
                      · obtain ⟨s, hs⟩ := get_lt u.aft hlt3
                        obtain ⟨b2, off2, rfl, hcell2, _, _⟩ := HFC.out kk s hs
                        have hq3 : findI xr s < k := by
                          rcases HGU.out.2 s (List.mem_of_getElem? hs) with h | h
                          · exact (findI_lt h).2
                          · rw [findI_out (fun hm => h (by
                              obtain ⟨x, hx, rfl⟩ := List.mem_map.1 hm
                              exact List.mem_map.2 ⟨x, HSUB.out x hx, rfl⟩))]
                            omega
                        generalize hqq : findI xr s = q3 at hq3
                        have HF3 := Lib.hid hqq
                        clear hqq hs
                        go_wp2_with fail
                        refine (find_any hx6).mono ?_
                        rw [HF3.out]
                        rintro e w7 ⟨rfl, rfl⟩
                        go_wp2_with fail
                        go_roundw
                        case rel => exact ⟨kk + 1, by omega, by go_num, trivial⟩
                        case measure => simp [intOf]; omega
                      · obtain rfl : kk = u.aft.length := by omega
                        go_wp2_with fail
                        go_roundw
                        case rel => exact ⟨k + 1, by omega, by go_num, trivial⟩
                        case measure => simp [intOf]; omega
              · obtain rfl : k = n := by omega
                go_wp2_with fail
                go_ret
                exact ⟨rfl, hb6'⟩
        · generalize hO2 : orderU us.reverse = R2 at hA2 hr
          obtain ⟨yr, mr, fr⟩ := R2
          obtain ⟨h10, h11, h12, h13⟩ := hr
          simp only at h10 h11 h12 h13
          subst h10 h11 h12 h13
          obtain ⟨v5, rfl, hu5, hb5⟩ := hA2.read (by simp)
          have hx3 : UL w5 v3 [] := (hu3.any.keeps hb4).keeps hb5
          have hb5' : Below w.heap.size w w5 := hb4'.trans (hb5.mono hb4'.size)
          clear hA2 hO2
          go_wp2_with fail
          refine (sameAll_any hx3 hu5.any).mono ?_
          rw [sameAllU_refl]
          rintro e w6 ⟨rfl, hb6⟩
          have hb6' : Below w.heap.size w w6 := hb5'.trans (hb6.mono hb5'.size)
          obtain ⟨a3, c3, rfl, _⟩ := hx3
          go_wp2_with fail
          go_ret
          exact ⟨rfl, hb6'⟩
      | succ j =>
        obtain rfl : q = (j : Int) := by have := HQ.out; omega
        obtain ⟨u, hu⟩ := get_lt us (k := j) (by have := HN.out; omega)
        obtain ⟨b, off, rfl, hcell, _⟩ := HC.out j u hu
        have HU := Lib.hid hu
        have hcell := UCP.keeps (hb3'.trans (hb4.mono hb3'.size)) (UCP.there hcell)
        obtain ⟨p0, p1, hsn, hss, r, f, p2, p3, hr, hf⟩ := hcell
        have hr' := hr
        have hf' := hf
        obtain ⟨ra, rc, rfl, _, hrl, _⟩ := hr'
        obtain ⟨fa, fc, rfl, _, hfl, _⟩ := hf'
        have hz4 := hb4.size
        have hz3 := hb3'.size
        have hjn : j < n := by omega
        clear hu
        have hbs : b < wr.heap.size := World.block_lt_of_cell? wr _ p0
        have tok1 : True := trivial
        go_wp2_with (at_builtin; have _t := tok1
                     refine append_unit rfl _ _ rfl w3.heap.size u8 (n - (j + 1)) xs rfl (own_below hown (by (repeat' (first | (with_reducible exact Below.refl _ _) | (with_reducible assumption) | (with_reducible refine below_drewN ?_ _) | (with_reducible refine Below.drew ?_) | (with_reducible refine Below.alloc ?_ ?_ _) | (with_reducible refine Below.setCell ?_ ?_ _) | omega | (simp; done) | (simp; omega))))) _ _ (.string u.name) (.string u.start) (.slice ra u.req.length rc) (.slice fa u.aft.length fc) rfl (block_cell (block_new _ _ (by simp)) rfl) (block_cell (block_new _ _ (by simp)) rfl) (block_cell (block_new _ _ (by simp)) rfl) (block_cell (block_new _ _ (by simp)) rfl) rfl rfl rfl rfl (by omega) (by simp <;> omega) ?_
                     intro v5 w5 hown5 hg5 hl5
                     clear tok1)
        go_roundw
        case rel =>
          have hlo := hown.lt
          have hb5 : Below w3.heap.size w3 w5 := Below.grown (w := wr.alloc _) (hb4.alloc (by omega) _) hg5 (by simp; omega) (fun j hj => (hlo j hj).1)
          have hkp := Kept.two hb4 hb5
          have hnj : n - j = n - (j + 1) + 1 := by omega
          refine ⟨j, _, _, by omega, rfl, by go_num, by rw [hnj]; exact hown5, ?_, hb5⟩
          have ht := rev_take HU.out
          rw [HN.out] at ht
          rw [ht]
          exact UFlat.snoc (hflat.kept hkp) hsn hss ((hr.mono fun b hb => by omega).kept hkp) ((hf.mono fun b hb => by omega).kept hkp)
        case measure => simp [intOf]
end Go.Proofs.Ytlhlbckmifgeeaa
