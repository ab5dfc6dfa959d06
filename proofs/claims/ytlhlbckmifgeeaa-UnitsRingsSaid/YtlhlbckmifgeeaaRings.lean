/- UnitsRings, walked: whatever two numbers and a Boolean, true. -/
import Derived.Test.YtlhlbckmifgeeaaRing12
import Derived.Test.YtlhlbckmifgeeaaRingsP
import Derived.Test.YtlhlbckmifgeeaaWaitP
import Derived.Deep.DeepCutAuto
import Derived.BigRegion
import Derived.IntWalk
namespace Go.Proofs.Ytlhlbckmifgeeaa
open Go.RowKit

attribute [local go_sem] run_conv1 conv1_some

set_option maxRecDepth 20000 in
set_option maxHeartbeats 1000000 in
theorem rings_law {w : World} {x y : Int} (c : Bool) (hx1 : -9223372036854775808 ≤ x) (hx2 : x ≤ 9223372036854775807) (hy1 : -9223372036854775808 ≤ y) (hy2 : y ≤ 9223372036854775807) :
    Calls Try.prog 5 #[.int .i64 x, .int .i64 y, .bool c] w fun e w' => e = .returned (.bool true) ∧ Below w.heap.size w w' := by
  go_enter Try.func5, Try.ntmps5
  go_wp2_with fail
  refine (shown_any w).mono ?_
  rintro e w1 ⟨rfl, hb1⟩
  go_upto_if 19 with fail
  go_cut [0] (fun s0 wx => ∃ z : Nat, s0 = .int .i64 z ∧ z < 9223372036854775808 ∧ wx = w1)
  case first =>
    go_wp2_with fail
    all_goals go_meet
    · exact ⟨(-(x + 1)).toNat, by rw [Int.toNat_of_nonneg (by omega)], by omega, rfl⟩
    · exact ⟨x.toNat, by rw [Int.toNat_of_nonneg (by omega)], by omega, rfl⟩
  case rest =>
    obtain ⟨xn, rfl, hxn, rfl⟩ := hcut
    go_upto_if 24 with fail
    go_cut [1] (fun s0 wx => ∃ z : Nat, s0 = .int .i64 z ∧ z < 9223372036854775808 ∧ wx = wc)
    case first =>
      go_wp2_with fail
      all_goals go_meet
      · exact ⟨(-(y + 1)).toNat, by rw [Int.toNat_of_nonneg (by omega)], by omega, rfl⟩
      · exact ⟨y.toNat, by rw [Int.toNat_of_nonneg (by omega)], by omega, rfl⟩
    case rest =>
      obtain ⟨yn, rfl, hyn, rfl⟩ := hcut
      go_upto_region 6 with fail
      go_cut [0] (fun s0 wx => ∃ z : Nat, s0 = .int .i64 z ∧ 1 ≤ z ∧ z ≤ 12 ∧ wx = wc)
      case first =>
        go_wp2_with fail
        go_meet
        exact ⟨1 + xn % 12, by simp, by omega, by omega, rfl⟩
      case rest =>
        obtain ⟨n, rfl, hn1, hn2, rfl⟩ := hcut
        go_upto_region 7 with fail
        go_cut [1] (fun s0 wx => ∃ z : Nat, s0 = .int .i64 z ∧ z < 12 ∧ wx = wc)
        case first =>
          go_wp2_with fail
          go_meet
          exact ⟨yn % 12, by simp, by omega, rfl⟩
        case rest =>
          obtain ⟨o, rfl, ho, rfl⟩ := hcut
          obtain ⟨w2, hw2⟩ : ∃ w2, w2 = wc := ⟨_, rfl⟩
          subst hw2
          go_wp2_with fail
          go_loopw [8, 9] (fun t i wr => ∃ (k : Nat) (xs : List Value), k ≤ n ∧ i = .int .i64 k ∧ wr.ownsRow w2.heap.size 32 4 t k xs ∧ Below w2.heap.size w2 wr ∧ UFlat (fun b => w2.heap.size ≤ b ∧ t.ownBlock ≠ some b) wr xs ((ringL n c).take k)) (fun _ i _ => n - (intOf i).toNat)
          case atStart => exact ⟨0, [], Nat.zero_le _, rfl, World.ownsRow_nil _ _ _ _, Below.refl _ _, UFlat.nil _ _⟩
          case round =>
            obtain ⟨k, xs, hk, rfl, hown, hb, hflat⟩ := hrel
            by_cases hlt : k < n
            · go_upto_region 12 with fail
              go_cut [10] (fun s10 wx => ∃ g r : Nat, s10 = .pointer (some ⟨g, 0, none⟩) ∧ wx.heap[g]? = some (.cells #[.string (rn k), .string ⟨#[]⟩, .slice none 0 0, .slice (some ⟨r, 0, none⟩) 1 1] 32 (0, 0)) ∧ wx.heap[r]? = some (.cells #[.string (rn ((k + 1) % n))] 9 (0, 0)) ∧ wr.heap.size ≤ g ∧ wr.heap.size ≤ r ∧ r ≠ g ∧ Below wr.heap.size wr wx)
              case first =>
                obtain ⟨m, hm⟩ : ∃ m, m = (k + 1) % n := ⟨_, rfl⟩
                have hmn : m < n := by rw [hm]; exact Nat.mod_lt _ (by omega)
                have hmi : ((k : Int) + 1) % (n : Int) = (m : Int) := by rw [hm]; simp
                have HM := Lib.hid hm
                clear hm
                refine with_frame fun a0 ha0 => ?_
                have e9 : a0.eval (.tmp 9) = .int .i64 k := by rw [ha0]; rfl
                have e0 : a0.eval (.tmp 0) = .int .i64 n := by rw [ha0]; rfl
                have hsz : a0.tmps.size = 157 := by rw [ha0]; rfl
                have HA := Lib.hid ha0
                clear ha0
                have hD : ∀ d, D12.contains d = true → d < a0.tmps.size := by
                  intro d h
                  rw [hsz]
                  simp [D12] at h
                  omega
                refine wp_region_inv (by kernel_rfl) (I12 a0 wr k m n) (by kernel_rfl) ⟨_, (frameOf_self a0 D12).symm, Or.inr ⟨rfl, (by (repeat' (first | (with_reducible exact Below.refl _ _) | (with_reducible assumption) | (with_reducible refine below_drewN ?_ _) | (with_reducible refine Below.drew ?_) | (with_reducible refine Below.alloc ?_ ?_ _) | (with_reducible refine Below.setCell ?_ ?_ _) | omega | (simp; done) | (simp; omega)))), fun i _ h => by cases h⟩⟩ ?_ ?_
                · intro i hi L a w hL hd hI
                  obtain ⟨v, rfl, ⟨h18, hall, _⟩ | ⟨h18, hb, hv⟩⟩ := hI
                  · have hi' : i < 19 := hi
                    by_cases h : i = 18
                    · subst h; rw [h18] at hL; cases hL
                    · rw [hall i (by omega)] at hL; cases hL
                  · have hi' : i < 19 := hi
                    have inn : ∀ d, D12.contains d = true → (frameOf a0 D12 v).tmps[d]?.getD undef = v d := fun d h => frameOf_in' h (hD d h)
                    have E9 : (frameOf a0 D12 v).tmps[9]?.getD undef = .int .i64 k := (frameOf_out' rfl).trans e9
                    have E0 : (frameOf a0 D12 v).tmps[0]?.getD undef = .int .i64 n := (frameOf_out' rfl).trans e0
                    clear e9 e0 hi hD hsz
                    rcases (by omega : i = 0 ∨ i = 1 ∨ i = 2 ∨ i = 3 ∨ i = 4 ∨ i = 5 ∨ i = 6 ∨ i = 7 ∨ i = 8 ∨ i = 9 ∨ i = 10 ∨ i = 11 ∨ i = 12 ∨ i = 13 ∨ i = 14 ∨ i = 15 ∨ i = 16 ∨ i = 17 ∨ i = 18) with rfl | rfl | rfl | rfl | rfl | rfl | rfl | rfl | rfl | rfl | rfl | rfl | rfl | rfl | rfl | rfl | rfl | rfl | rfl
                    · -- operation 0
                      refine wpOp_value (v := .int .i64 k) (w' := w) rfl rfl (by go_simp) ?_
                      exact I12.put h18 hv (i := 0) (by omega) hb (fun _ _ h => h) rfl
                    · -- operation 1
                      have x38 : v 38 = .int .i64 k := hv 0 (by omega) (hd 0 (by kernel_rfl))
                      have E38 := (inn 38 rfl).trans x38
                      clear x38
                      refine wpOp_value (v := .int .i64 ((97 + k : Nat) : Int)) (w' := w) rfl rfl (by go_simp; exact IntWalk.i64_in _ (by omega)) ?_
                      exact I12.put h18 hv (i := 1) (by omega) hb (fun _ _ h => h) rfl
                    · -- operation 2
                      have x39 : v 39 = .int .i64 ((97 + k : Nat) : Int) := hv 1 (by omega) (hd 1 (by kernel_rfl))
                      have E39 := (inn 39 rfl).trans x39
                      clear x39
                      refine wpOp_value (v := .int .u8 ((97 + k : Nat) : Int)) (w' := w) rfl rfl (by go_simp; exact IntWalk.u8_in _ (by omega)) ?_
                      exact I12.put h18 hv (i := 2) (by omega) hb (fun _ _ h => h) rfl
                    · -- operation 3
                      have x40 : v 40 = .int .u8 ((97 + k : Nat) : Int) := hv 2 (by omega) (hd 2 (by kernel_rfl))
                      have E40 := (inn 40 rfl).trans x40
                      clear x40
                      refine wpOp_value (v := .slice (some ⟨w.heap.size, 0, none⟩) 1 1) (w' := w.alloc (.cells #[.int .u8 ((97 + k : Nat) : Int)] 5)) rfl rfl (by go_simp) ?_
                      exact I12.put h18 hv (i := 3) (by omega) (hb.alloc hb.size _) (fun _ _ h => block_alloc h _) ⟨_, rfl, block_new _ _ rfl⟩
                    · -- operation 4
                      obtain ⟨b, x41, hcell⟩ := (hv 3 (by omega) (hd 3 (by kernel_rfl)) : ∃ b, v 41 = .slice (some ⟨b, 0, none⟩) 1 1 ∧ w.heap[b]? = some (.cells #[.int .u8 ((97 + k : Nat) : Int)] 5 (0, 0)))
                      have E41 := (inn 41 rfl).trans x41
                      have hc0 := block_cell (i := 0) hcell rfl
                      clear x41
                      refine wpOp_value (v := .string ⟨#[UInt8.ofNat (97 + k)]⟩) (w' := w) rfl rfl (by go_simp; exact ofNat_97 _) ?_
                      exact I12.put h18 hv (i := 4) (by omega) hb (fun _ _ h => h) rfl
                    · -- operation 5
                      have x42 : v 42 = .string ⟨#[UInt8.ofNat (97 + k)]⟩ := hv 4 (by omega) (hd 4 (by kernel_rfl))
                      have E42 := (inn 42 rfl).trans x42
                      clear x42
                      refine wpOp_value (v := .string (rn k)) (w' := w) rfl rfl (by rw [← rn_1]; go_simp) ?_
                      exact I12.put h18 hv (i := 5) (by omega) hb (fun _ _ h => h) rfl
                    · -- operation 6
                      refine wpOp_value (v := .int .i64 k) (w' := w) rfl rfl (by go_simp) ?_
                      exact I12.put h18 hv (i := 6) (by omega) hb (fun _ _ h => h) rfl
                    · -- operation 7
                      have x44 : v 44 = .int .i64 k := hv 6 (by omega) (hd 6 (by kernel_rfl))
                      have E44 := (inn 44 rfl).trans x44
                      clear x44
                      refine wpOp_value (v := .int .i64 ((k + 1 : Nat) : Int)) (w' := w) rfl rfl (by go_simp; exact IntWalk.i64_in _ (by omega)) ?_
                      exact I12.put h18 hv (i := 7) (by omega) hb (fun _ _ h => h) rfl
                    · -- operation 8
                      refine wpOp_value (v := .int .i64 n) (w' := w) rfl rfl (by go_simp) ?_
                      exact I12.put h18 hv (i := 8) (by omega) hb (fun _ _ h => h) rfl
                    · -- operation 9
                      have x45 : v 45 = .int .i64 ((k + 1 : Nat) : Int) := hv 7 (by omega) (hd 7 (by kernel_rfl))
                      have E45 := (inn 45 rfl).trans x45
                      clear x45
                      have x46 : v 46 = .int .i64 n := hv 8 (by omega) (hd 8 (by kernel_rfl))
                      have E46 := (inn 46 rfl).trans x46
                      clear x46
                      refine wpOp_value (v := .int .i64 m) (w' := w) rfl rfl (by go_simp; rw [if_neg (by omega), Int.tmod_eq_emod_of_nonneg (by omega), hmi]) ?_
                      exact I12.put h18 hv (i := 9) (by omega) hb (fun _ _ h => h) rfl
                    · -- operation 10
                      have x47 : v 47 = .int .i64 m := hv 9 (by omega) (hd 9 (by kernel_rfl))
                      have E47 := (inn 47 rfl).trans x47
                      clear x47
                      refine wpOp_value (v := .int .i64 ((97 + m : Nat) : Int)) (w' := w) rfl rfl (by go_simp; exact IntWalk.i64_in _ (by omega)) ?_
                      exact I12.put h18 hv (i := 10) (by omega) hb (fun _ _ h => h) rfl
                    · -- operation 11
                      have x48 : v 48 = .int .i64 ((97 + m : Nat) : Int) := hv 10 (by omega) (hd 10 (by kernel_rfl))
                      have E48 := (inn 48 rfl).trans x48
                      clear x48
                      refine wpOp_value (v := .int .u8 ((97 + m : Nat) : Int)) (w' := w) rfl rfl (by go_simp; exact IntWalk.u8_in _ (by omega)) ?_
                      exact I12.put h18 hv (i := 11) (by omega) hb (fun _ _ h => h) rfl
                    · -- operation 12
                      have x49 : v 49 = .int .u8 ((97 + m : Nat) : Int) := hv 11 (by omega) (hd 11 (by kernel_rfl))
                      have E49 := (inn 49 rfl).trans x49
                      clear x49
                      refine wpOp_value (v := .slice (some ⟨w.heap.size, 0, none⟩) 1 1) (w' := w.alloc (.cells #[.int .u8 ((97 + m : Nat) : Int)] 5)) rfl rfl (by go_simp) ?_
                      exact I12.put h18 hv (i := 12) (by omega) (hb.alloc hb.size _) (fun _ _ h => block_alloc h _) ⟨_, rfl, block_new _ _ rfl⟩
                    · -- operation 13
                      obtain ⟨b, x50, hcell⟩ := (hv 12 (by omega) (hd 12 (by kernel_rfl)) : ∃ b, v 50 = .slice (some ⟨b, 0, none⟩) 1 1 ∧ w.heap[b]? = some (.cells #[.int .u8 ((97 + m : Nat) : Int)] 5 (0, 0)))
                      have E50 := (inn 50 rfl).trans x50
                      have hc0 := block_cell (i := 0) hcell rfl
                      clear x50
                      refine wpOp_value (v := .string ⟨#[UInt8.ofNat (97 + m)]⟩) (w' := w) rfl rfl (by go_simp; exact ofNat_97 _) ?_
                      exact I12.put h18 hv (i := 13) (by omega) hb (fun _ _ h => h) rfl
                    · -- operation 14
                      have x51 : v 51 = .string ⟨#[UInt8.ofNat (97 + m)]⟩ := hv 13 (by omega) (hd 13 (by kernel_rfl))
                      have E51 := (inn 51 rfl).trans x51
                      clear x51
                      refine wpOp_value (v := .string (rn m)) (w' := w) rfl rfl (by rw [← rn_1]; go_simp) ?_
                      exact I12.put h18 hv (i := 14) (by omega) hb (fun _ _ h => h) rfl
                    · -- operation 15
                      have x52 : v 52 = .string (rn m) := hv 14 (by omega) (hd 14 (by kernel_rfl))
                      have E52 := (inn 52 rfl).trans x52
                      clear x52
                      refine wpOp_value (v := .slice (some ⟨w.heap.size, 0, none⟩) 1 1) (w' := w.alloc (.cells #[.string (rn m)] 9)) rfl rfl (by go_simp) ?_
                      exact I12.put h18 hv (i := 15) (by omega) (hb.alloc hb.size _) (fun _ _ h => block_alloc h _) ⟨_, rfl, hb.size, block_new _ _ rfl⟩
                    · -- operation 16
                      have x43 : v 43 = .string (rn k) := hv 5 (by omega) (hd 5 (by kernel_rfl))
                      have E43 := (inn 43 rfl).trans x43
                      clear x43
                      obtain ⟨r, x53, hr1, hr2⟩ := (hv 15 (by omega) (hd 15 (by kernel_rfl)) : ∃ r, v 53 = .slice (some ⟨r, 0, none⟩) 1 1 ∧ wr.heap.size ≤ r ∧ w.heap[r]? = some (.cells #[.string (rn m)] 9 (0, 0)))
                      have E53 := (inn 53 rfl).trans x53
                      clear x53
                      refine wpOp_value (v := .agg #[.string (rn k), .string ⟨#[]⟩, .slice none 0 0, .slice (some ⟨r, 0, none⟩) 1 1]) (w' := w) rfl rfl (by go_simp) ?_
                      exact I12.put h18 hv (i := 16) (by omega) hb (fun _ _ h => h) ⟨_, rfl, hr1, hr2⟩
                    · -- operation 17
                      refine wpOp_value (v := .pointer (some ⟨w.heap.size, 0, none⟩)) (w' := w.alloc (.cells #[.string ⟨#[]⟩, .string ⟨#[]⟩, .slice none 0 0, .slice none 0 0] 32)) rfl rfl (by go_simp) ?_
                      exact I12.put h18 hv (i := 17) (by omega) (hb.alloc hb.size _) (fun _ _ h => block_alloc h _) ⟨_, rfl, hb.size, block_new _ _ rfl⟩
                    · -- operation 18
                      obtain ⟨r, x54, hr1, hr2⟩ := (hv 16 (by omega) (hd 16 (by kernel_rfl)) : ∃ r, v 54 = .agg #[.string (rn k), .string ⟨#[]⟩, .slice none 0 0, .slice (some ⟨r, 0, none⟩) 1 1] ∧ wr.heap.size ≤ r ∧ w.heap[r]? = some (.cells #[.string (rn m)] 9 (0, 0)))
                      obtain ⟨g, x10, hg1, hg2⟩ := (hv 17 (by omega) (hd 17 (by kernel_rfl)) : ∃ g, v 10 = .pointer (some ⟨g, 0, none⟩) ∧ wr.heap.size ≤ g ∧ w.heap[g]? = some (.cells #[.string ⟨#[]⟩, .string ⟨#[]⟩, .slice none 0 0, .slice none 0 0] 32 (0, 0)))
                      have E54 := (inn 54 rfl).trans x54
                      have E10 := (inn 10 rfl).trans x10
                      have c0 := block_cell (i := 0) hg2 rfl
                      have c1 := block_cell (i := 1) hg2 rfl
                      have c2 := block_cell (i := 2) hg2 rfl
                      have c3 := block_cell (i := 3) hg2 rfl
                      have f0 := block_free (i := 0) hg2
                      have f1 := block_free (i := 1) hg2
                      have f2 := block_free (i := 2) hg2
                      have f3 := block_free (i := 3) hg2
                      have hrg : r ≠ g := by intro e; subst e; rw [hr2] at hg2; simp at hg2
                      have hdj : ∀ j : Fin 18, L j.val = true := by intro j; refine hd _ ?_; revert j; decide +kernel
                      refine wpOp_skip (w' := (((w.setCell ⟨g, 0, none⟩ (.string (rn k))).setCell ⟨g, 1, none⟩ (.string ⟨#[]⟩)).setCell ⟨g, 2, none⟩ (.slice none 0 0)).setCell ⟨g, 3, none⟩ (.slice (some ⟨r, 0, none⟩) 1 1)) rfl rfl rfl (by go_simp) ?_
                      refine ⟨v, rfl, Or.inl ⟨by simp, fun j hj => by rw [Bool.or_eq_true]; exact Or.inl (hdj ⟨j, hj⟩), g, r, x10, block_set (block_set (block_set (block_set hg2 _) _) _) _, block_setCell (block_setCell (block_setCell (block_setCell hr2 hrg _) hrg _) hrg _) hrg _, hg1, hr1, hrg, ?_⟩⟩
                      exact (((hb.setCell hg1 _).setCell hg1 _).setCell hg1 _).setCell hg1 _
                · intro L a w hall ⟨v, e, h⟩
                  subst e
                  rcases h with ⟨_, _, h⟩ | ⟨h18, _⟩
                  · have h0 := HA.out
                    subst h0
                    have hm := HM.out
                    subst hm
                    unfold D12
                    simp only [frameOf_cons, frameOf_nil, Act.put, List.setIfInBounds_toArray, List.set_cons_zero, List.set_cons_succ]
                    go_wp2_with fail
                    go_meet
                    obtain ⟨g, r, h1, h2, h3, h4, h5, h6, h7⟩ := h
                    exact ⟨g, r, h1, h2, h3, h4, h5, h6, h7⟩
                  · rw [hall 18 (by decide)] at h18; cases h18
              case rest =>
                obtain ⟨g, r, rfl, hG, hR, hgz, hrz, hrg, hbx⟩ := hcut
                have hrk : (ringL n c)[k]? = some (ringU n c k) := by simp [ringL, hlt]
                have c0 := block_cell (i := 0) hG rfl
                have c1 := block_cell (i := 1) hG rfl
                have c2 := block_cell (i := 2) hG rfl
                have c3 := block_cell (i := 3) hG rfl
                have f3 := block_free (i := 3) hG
                have hz1 := hb.size
                have hz2 := hbx.size
                have hgl : g < wc.heap.size := (Array.getElem?_eq_some_iff.1 hG).1
                have hslp : SLP (fun b => wr.heap.size ≤ b) wc (.slice (some ⟨r, 0, none⟩) 1 1) [rn ((k + 1) % n)] := slp_one' (block_cell hR rfl) (rn_size _) hrz
                have HRK := Lib.hid hrk
                have HG := Lib.hid hG
                clear hrk hG hR
                cases c with
                | false =>
                  have tok1 : True := trivial
                  go_wp2_with (at_builtin; have _t := tok1
                               refine append_unit rfl _ _ rfl w2.heap.size u8 k xs rfl (own_below (own_below hown hbx) (by (repeat' (first | (with_reducible exact Below.refl _ _) | (with_reducible assumption) | (with_reducible refine below_drewN ?_ _) | (with_reducible refine Below.drew ?_) | (with_reducible refine Below.alloc ?_ ?_ _) | (with_reducible refine Below.setCell ?_ ?_ _) | omega | (simp; done) | (simp; omega))))) _ _ (.string (rn k)) (.string ⟨#[]⟩) (.slice none 0 0) (.slice (some ⟨r, 0, none⟩) 1 1) rfl (block_cell (block_new _ _ (by simp)) rfl) (block_cell (block_new _ _ (by simp)) rfl) (block_cell (block_new _ _ (by simp)) rfl) (block_cell (block_new _ _ (by simp)) rfl) rfl rfl rfl rfl (by omega) (by simp <;> omega) ?_
                               intro v5 w5 hown5 hg5 hl5
                               clear tok1)
                  go_roundw
                  case rel =>
                    have hst := ring_step (u := ringU n _ k) (r := .slice none 0 0) (f := (.slice (some ⟨r, 0, none⟩) 1 1)) hb hown hflat HRK.out (rn_size _) empty_size (slp_nil _ _) hslp hbx hg5 hl5
                    exact ⟨k + 1, _, by omega, by go_num, hown5, hst.1, hst.2⟩
                  case measure => simp [intOf]; omega
                | true =>
                  by_cases hlast : k = n - 1
                  · have hd : ((k : Int) == (n : Int) - 1) = true := by rw [beq_iff_eq]; omega
                    have hbx' := hbx.setCell (p := ⟨g, 3, none⟩) hgz (.slice none 0 0)
                    have haft : (ringU n true k).aft = [] := by simp [ringU, hlast]
                    have HAFT := Lib.hid haft
                    clear haft hlast
                    have tok1 : True := trivial
                    go_wp2_with (at_builtin; have _t := tok1
                                 refine append_unit rfl _ _ rfl w2.heap.size u8 k xs rfl (own_below (own_below hown hbx') (by (repeat' (first | (with_reducible exact Below.refl _ _) | (with_reducible assumption) | (with_reducible refine below_drewN ?_ _) | (with_reducible refine Below.drew ?_) | (with_reducible refine Below.alloc ?_ ?_ _) | (with_reducible refine Below.setCell ?_ ?_ _) | omega | (simp; done) | (simp; omega))))) _ _ (.string (rn k)) (.string ⟨#[]⟩) (.slice none 0 0) (.slice none 0 0) rfl (block_cell (block_new _ _ (by simp)) rfl) (block_cell (block_new _ _ (by simp)) rfl) (block_cell (block_new _ _ (by simp)) rfl) (block_cell (block_new _ _ (by simp)) rfl) rfl rfl rfl rfl (by omega) (by simp <;> omega) ?_
                                 intro v5 w5 hown5 hg5 hl5
                                 clear tok1)
                    go_roundw
                    case rel =>
                      have hst := ring_step (u := ringU n _ k) (r := .slice none 0 0) (f := (.slice none 0 0)) hb hown hflat HRK.out (rn_size _) empty_size (slp_nil _ _) (by rw [HAFT.out]; exact slp_nil _ _) hbx' hg5 hl5
                      exact ⟨k + 1, _, by omega, by go_num, hown5, hst.1, hst.2⟩
                    case measure => simp [intOf]; omega
                  · have hd : ((k : Int) == (n : Int) - 1) = false := by rw [beq_eq_false_iff_ne]; omega
                    have haft : (ringU n true k).aft = [rn ((k + 1) % n)] := by simp [ringU, hlast]
                    have HAFT := Lib.hid haft
                    clear haft hlast
                    have tok1 : True := trivial
                    go_wp2_with (at_builtin; have _t := tok1
                                 refine append_unit rfl _ _ rfl w2.heap.size u8 k xs rfl (own_below (own_below hown hbx) (by (repeat' (first | (with_reducible exact Below.refl _ _) | (with_reducible assumption) | (with_reducible refine below_drewN ?_ _) | (with_reducible refine Below.drew ?_) | (with_reducible refine Below.alloc ?_ ?_ _) | (with_reducible refine Below.setCell ?_ ?_ _) | omega | (simp; done) | (simp; omega))))) _ _ (.string (rn k)) (.string ⟨#[]⟩) (.slice none 0 0) (.slice (some ⟨r, 0, none⟩) 1 1) rfl (block_cell (block_new _ _ (by simp)) rfl) (block_cell (block_new _ _ (by simp)) rfl) (block_cell (block_new _ _ (by simp)) rfl) (block_cell (block_new _ _ (by simp)) rfl) rfl rfl rfl rfl (by omega) (by simp <;> omega) ?_
                                 intro v5 w5 hown5 hg5 hl5
                                 clear tok1)
                    go_roundw
                    case rel =>
                      have hst := ring_step (u := ringU n _ k) (r := .slice none 0 0) (f := (.slice (some ⟨r, 0, none⟩) 1 1)) hb hown hflat HRK.out (rn_size _) empty_size (slp_nil _ _) (by rw [HAFT.out]; exact hslp) hbx hg5 hl5
                      exact ⟨k + 1, _, by omega, by go_num, hown5, hst.1, hst.2⟩
                    case measure => simp [intOf]; omega
            · obtain rfl : k = n := by omega
              have hall : (ringL k c).take k = ringL k c := List.take_of_length_le (by simp [ringL])
              rw [hall] at hflat
              have hst0 : (rings k o c).take (k + 0) = ringL k c := by simp [rings, ringL]
              rw [← hst0] at hflat
              clear hall hst0
              go_wp2_with fail
              go_loopw [8, 11] (fun t i wq => ∃ (k2 : Nat) (xs : List Value), k2 ≤ o ∧ i = .int .i64 k2 ∧ wq.ownsRow w2.heap.size 32 4 t (k + k2) xs ∧ Below w2.heap.size w2 wq ∧ UFlat (fun b => w2.heap.size ≤ b ∧ t.ownBlock ≠ some b) wq xs ((rings k o c).take (k + k2))) (fun _ i _ => o - (intOf i).toNat)
              case atStart => exact ⟨0, xs, Nat.zero_le _, rfl, hown, hb, hflat⟩
              case round =>
                clear hown hb hflat
                obtain ⟨k2, xs, hk2, rfl, hown, hb, hflat⟩ := hrel
                by_cases hlt2 : k2 < o
                · have hu : (rings k o c)[k + k2]? = some (othU k2) := by
                    simp [rings, ringL, othL, hlt2]
                  have HU := Lib.hid hu
                  have hz1 := hb.size
                  clear hu
                  have tok1 : True := trivial
                  go_wp2_with (at_builtin; have _t := tok1
                               rw [an_1 k2]
                               refine append_unit rfl _ _ rfl w2.heap.size u8 (k + k2) xs rfl (own_below hown (by (repeat' (first | (with_reducible exact Below.refl _ _) | (with_reducible assumption) | (with_reducible refine below_drewN ?_ _) | (with_reducible refine Below.drew ?_) | (with_reducible refine Below.alloc ?_ ?_ _) | (with_reducible refine Below.setCell ?_ ?_ _) | omega | (simp; done) | (simp; omega))))) _ _ (.string (an k2)) (.string ⟨#[]⟩) (.slice none 0 0) (.slice none 0 0) rfl (block_cell (block_new _ _ (by simp)) rfl) (block_cell (block_new _ _ (by simp)) rfl) (block_cell (block_new _ _ (by simp)) rfl) (block_cell (block_new _ _ (by simp)) rfl) rfl rfl rfl rfl (by omega) (by simp <;> omega) ?_
                               intro v5 w5 hown5 hg5 hl5
                               clear tok1)
                  go_roundw
                  case rel =>
                    have hst := ring_step (W := wr.alloc (Obj.cells #[Value.int IntKind.u8 (97 + (k2 : Int))] 5)) (u := othU k2) (r := .slice none 0 0) (f := .slice none 0 0) hb hown hflat HU.out (an_size _) empty_size (slp_nil _ _) (slp_nil _ _) (by (repeat' (first | (with_reducible exact Below.refl _ _) | (with_reducible assumption) | (with_reducible refine below_drewN ?_ _) | (with_reducible refine Below.drew ?_) | (with_reducible refine Below.alloc ?_ ?_ _) | (with_reducible refine Below.setCell ?_ ?_ _) | omega | (simp; done) | (simp; omega)))) hg5 hl5
                    exact ⟨k2 + 1, _, by omega, by go_num, hown5, hst.1, hst.2⟩
                  case measure => simp [intOf]; omega
                · obtain rfl : k2 = o := by omega
                  have hall : (rings k k2 c).take (k + k2) = rings k k2 c := List.take_of_length_le (by simp [rings, ringL, othL])
                  rw [hall] at hflat
                  have hul := (ULP.of_own hown hflat (by simp [rings, ringL, othL]; omega)).any
                  have hbw : Below w.heap.size w wr := hb1.trans (hb.mono hb1.size)
                  clear hall hflat
                  obtain ⟨ta, tc, rfl⟩ := own_shape' hown
                  clear hown
                  go_wp2_with fail
                  refine (order_any hul (rings_sized hn1 hn2 ho c)).mono ?_
                  rw [rings_order hn1 hn2 ho c]
                  rintro e w6 hA
                  obtain ⟨v6, rfl, hu6, hb6⟩ := hA.read (by have := want_len k k2 c; omega)
                  have hbw6 : Below w.heap.size w w6 := hbw.trans (hb6.mono hbw.size)
                  clear hA hul hb hb6 hbw hb1
                  cases c with
                  | false =>
                    rw [want_false, rn_0] at *
                    obtain ⟨a6, c6, rfl, _⟩ := hu6
                    go_wp2_with fail
                    go_ret
                    exact ⟨rfl, hbw6⟩
                  | true =>
                    rw [want_true] at *
                    obtain ⟨a6, c6, rfl, _, hc6⟩ := hu6
                    have HC := Lib.hid hc6
                    simp only [want_size]
                    have hlen : (((k2 + k : Nat) : Int) != (k : Int) + (k2 : Int)) = false := by simp; omega
                    clear hc6
                    go_wp2_with fail
                    go_loopw [15] (fun i wq => ∃ k3 : Nat, k3 ≤ k2 ∧ i = .int .i64 k3 ∧ Below w.heap.size w wq ∧ Below w6.heap.size w6 wq) (fun i _ => k2 - (intOf i).toNat)
                    case atStart => exact ⟨0, Nat.zero_le _, rfl, hbw6, Below.refl _ _⟩
                    case round =>
                      clear hbw6
                      obtain ⟨k3, hk3, rfl, hbw7, hb7⟩ := hrel
                      by_cases hlt3 : k3 < k2
                      · obtain ⟨b, off, rfl, ⟨p0, _⟩, _⟩ := HC.out k3 _ (want_oth hlt3)
                        have p0 := cell_keeps hb7 p0
                        simp only [othU] at p0
                        go_upto_region 28 with fail
                        go_cut [134] (fun c wx => c = .bool false ∧ Below wr.heap.size wr wx)
                        case first =>
                          clear hlen hbw7 hb7
                          have hk0 : (0 : Int) ≤ (k3 : Int) := by omega
                          have hk1 : (k3 : Int) < (k2 : Int) + (k : Int) := by omega
                          have pA := cell_keeps (w' := wr.alloc (Obj.cells #[Value.int IntKind.u8 (97 + (k3 : Int))] 5)) (by (repeat' (first | (with_reducible exact Below.refl _ _) | (with_reducible assumption) | (with_reducible refine below_drewN ?_ _) | (with_reducible refine Below.drew ?_) | (with_reducible refine Below.alloc ?_ ?_ _) | (with_reducible refine Below.setCell ?_ ?_ _) | omega | (simp; done) | (simp; omega)))) p0
                          go_region
                          go_wp2_with fail
                          go_meet
                          exact ⟨by rw [an_1]; simp, (by (repeat' (first | (with_reducible exact Below.refl _ _) | (with_reducible assumption) | (with_reducible refine below_drewN ?_ _) | (with_reducible refine Below.drew ?_) | (with_reducible refine Below.alloc ?_ ?_ _) | (with_reducible refine Below.setCell ?_ ?_ _) | omega | (simp; done) | (simp; omega))))⟩
                        case rest =>
                          obtain ⟨rfl, hb8⟩ := hcut
                          go_wp2_with fail
                          go_roundw
                          case rel => exact ⟨k3 + 1, by omega, by go_num, hbw7.trans (hb8.mono hbw7.size), hb7.trans (hb8.mono hb7.size)⟩
                          case measure => simp [intOf]; omega
                      · obtain rfl : k3 = k2 := by omega
                        go_wp2_with fail
                        go_loopw [16] (fun i wq => ∃ k4 : Nat, k4 ≤ k ∧ i = .int .i64 k4 ∧ Below w.heap.size w wq ∧ Below w6.heap.size w6 wq) (fun i _ => k - (intOf i).toNat)
                        case atStart => exact ⟨0, Nat.zero_le _, rfl, hbw7, hb7⟩
                        case round =>
                          clear hbw7 hb7
                          obtain ⟨k4, hk4, rfl, hbw7, hb7⟩ := hrel
                          by_cases hlt4 : k4 < k
                          · obtain ⟨b, off, rfl, ⟨p0, _⟩, _⟩ := HC.out (k3 + k4) _ (want_ring hlt4)
                            have p0 := cell_keeps hb7 p0
                            simp only [ringU] at p0
                            go_upto_region 33 with fail
                            go_cut [156] (fun c wx => c = .bool false ∧ Below wr.heap.size wr wx)
                            case first =>
                              clear hlen hbw7 hb7
                              obtain ⟨m, hm⟩ : ∃ m : Nat, m = k - 1 - k4 := ⟨_, rfl⟩
                              have hmi : (97 : Int) + (k : Int) - 1 - (k4 : Int) = 97 + (m : Int) := by omega
                              rw [← hm] at p0
                              have HM := Lib.hid hm
                              have hmk : m < 12 := by omega
                              clear hm
                              have hk0 : (0 : Int) ≤ (k3 : Int) + (k4 : Int) := by omega
                              have hk1 : (k3 : Int) + (k4 : Int) < (k3 : Int) + (k : Int) := by omega
                              have pA := cell_keeps (w' := wr.alloc (Obj.cells #[Value.int IntKind.u8 (97 + (m : Int))] 5)) (by (repeat' (first | (with_reducible exact Below.refl _ _) | (with_reducible assumption) | (with_reducible refine below_drewN ?_ _) | (with_reducible refine Below.drew ?_) | (with_reducible refine Below.alloc ?_ ?_ _) | (with_reducible refine Below.setCell ?_ ?_ _) | omega | (simp; done) | (simp; omega)))) p0
                              go_region
                              go_wp2_with fail
                              go_meet
                              exact ⟨by rw [rn_1]; simp, (by (repeat' (first | (with_reducible exact Below.refl _ _) | (with_reducible assumption) | (with_reducible refine below_drewN ?_ _) | (with_reducible refine Below.drew ?_) | (with_reducible refine Below.alloc ?_ ?_ _) | (with_reducible refine Below.setCell ?_ ?_ _) | omega | (simp; done) | (simp; omega))))⟩
                            case rest =>
                              obtain ⟨rfl, hb8⟩ := hcut
                              go_wp2_with fail
                              go_roundw
                              case rel => exact ⟨k4 + 1, by omega, by go_num, hbw7.trans (hb8.mono hbw7.size), hb7.trans (hb8.mono hb7.size)⟩
                              case measure => simp [intOf]; omega
                          · obtain rfl : k4 = k := by omega
                            go_wp2_with fail
                            go_ret
                            exact ⟨rfl, hbw7⟩
end Go.Proofs.Ytlhlbckmifgeeaa
