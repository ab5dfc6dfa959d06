/- More of the reference's functions that only read. -/
import Derived.Test.YtlhlbckmifgeeaaRef1
import Derived.StillTailTactics
namespace Go.Proofs.Ytlhlbckmifgeeaa
open Go.RowKit

def SameTo (us vs : List U) (k : Nat) : Prop := ∀ (j : Nat) (x y : U), j < k → us[j]? = some x → vs[j]? = some y → sameU x y = true
def sameAllU (us vs : List U) : Bool := decide (us.length = vs.length) && ((us.zip vs).all fun p => sameU p.1 p.2)
theorem SameTo.step {us vs : List U} {k : Nat} {x y : U} (h : SameTo us vs k) (hx : us[k]? = some x) (hy : vs[k]? = some y) (he : sameU x y = true) : SameTo us vs (k + 1) := by
  intro j x' y' hj hx' hy'
  by_cases hjk : j < k
  · exact h j x' y' hjk hx' hy'
  · obtain rfl : j = k := by omega
    rw [hx] at hx'; rw [hy] at hy'
    cases hx'; cases hy'
    exact he
theorem sameAll_no {us vs : List U} {k : Nat} {x y : U} (hx : us[k]? = some x) (hy : vs[k]? = some y) (he : sameU x y = false) : sameAllU us vs = false := by
  unfold sameAllU
  rw [Bool.and_eq_false_iff]
  right
  rw [List.all_eq_false]
  refine ⟨(x, y), ?_, by simp [he]⟩
  apply List.mem_of_getElem? (i := k)
  rw [List.getElem?_zip_eq_some]
  exact ⟨hx, hy⟩
theorem sameAll_yes {us vs : List U} {n : Nat} (h : SameTo us vs n) (h1 : us.length = n) (h2 : vs.length = n) : sameAllU us vs = true := by
  unfold sameAllU
  rw [Bool.and_eq_true, decide_eq_true_eq, List.all_eq_true]
  refine ⟨by omega, fun p hp => ?_⟩
  obtain ⟨j, hj⟩ := List.getElem?_of_mem hp
  rw [List.getElem?_zip_eq_some] at hj
  have := (List.getElem?_eq_some_iff.1 hj.1).1
  exact h j _ _ (by omega) hj.1 hj.2

set_option maxHeartbeats 400000 in
theorem sameAll_any {v1 v2 : Value} {us vs : List U} {w : World} (h1 : UL w v1 us) (h2 : UL w v2 vs) :
    Calls Try.prog 13 #[v1, v2] w fun e w' => e = .returned (.bool (sameAllU us vs)) ∧ Below w.heap.size w w' := by
  obtain ⟨a1, cap1, rfl, hm1, hc1⟩ := h1
  obtain ⟨a2, cap2, rfl, hm2, hc2⟩ := h2
  generalize hn1 : us.length = n1 at *
  generalize hn2 : vs.length = n2 at *
  have HN1 := Lib.hid hn1
  have HN2 := Lib.hid hn2
  have HC1 := Lib.hid hc1
  have HC2 := Lib.hid hc2
  clear hn1 hn2 hc1 hc2
  by_cases hne : n1 = n2
  · subst hne
    go_enter Try.func13, Try.ntmps13
    go_wp2
    go_loopw [5] (fun i wr => ∃ k : Nat, k ≤ n1 ∧ i = .int .i64 k ∧ Below w.heap.size w wr ∧ SameTo us vs k) (fun i _ => n1 - (intOf i).toNat)
    case atStart => exact ⟨0, Nat.zero_le _, rfl, Below.refl _ _, fun j x y hj => absurd hj (Nat.not_lt_zero _)⟩
    case round =>
      obtain ⟨k, hk, rfl, hb, hsame⟩ := hrel
      by_cases hlt : k < n1
      · obtain ⟨x, hx⟩ := get_lt us (k := k) (by have := HN1.out; omega)
        obtain ⟨y, hy⟩ := get_lt vs (k := k) (by have := HN2.out; omega)
        obtain ⟨b1, off1, rfl, hcell1, _⟩ := HC1.out k _ hx
        obtain ⟨b2, off2, rfl, hcell2, _⟩ := HC2.out k _ hy
        have HX := Lib.hid hx
        have HY := Lib.hid hy
        clear hx hy
        have hcell1 := hcell1.keeps hb
        have hcell2 := hcell2.keeps hb
        obtain ⟨r1, f1, hr1, hf1, hv1⟩ := hcell1.value
        obtain ⟨r2, f2, hr2, hf2, hv2⟩ := hcell2.value
        obtain ⟨p10, p11, _, _, _⟩ := hcell1
        obtain ⟨p20, p21, _, _, _⟩ := hcell2
        cases hres : sameU x y
        · have HRES := Lib.hid hres
          clear hres
          go_wp2
          go_still_tail 8, (by kernel_rfl)
          change wpList _ _ _ _ _ wr.drew
          go_wp2_with fail
          refine (same_any (UVP.keeps ?_ hv1) (UVP.keeps ?_ hv2)).mono ?_
          rotate_left 2
          rw [HRES.out]
          rintro e w1 ⟨rfl, hb1⟩
          go_wp2_with fail
          go_ret
          refine ⟨ret_bool ?_, ?_⟩
          rw [sameAll_no HX.out HY.out HRES.out]
          exact hb.trans ((Below.refl _ _).drew.trans (hb1.mono hb.size))
          all_goals (repeat' (first | (with_reducible exact Below.refl _ _) | (with_reducible assumption) | (with_reducible refine below_drewN ?_ _) | (with_reducible refine Below.drew ?_) | (with_reducible refine Below.alloc ?_ ?_ _) | (with_reducible refine Below.setCell ?_ ?_ _) | omega | (simp; done) | (simp; omega)))
        · have HRES := Lib.hid hres
          clear hres
          go_wp2
          go_still_tail 8, (by kernel_rfl)
          change wpList _ _ _ _ _ wr.drew
          go_wp2_with fail
          refine (same_any (UVP.keeps ?_ hv1) (UVP.keeps ?_ hv2)).mono ?_
          rotate_left 2
          rw [HRES.out]
          rintro e w1 ⟨rfl, hb1⟩
          go_wp2_with fail
          go_roundw
          case rel => exact ⟨k + 1, by omega, by go_num, hb.trans ((Below.refl _ _).drew.trans (hb1.mono hb.size)), hsame.step HX.out HY.out HRES.out⟩
          case measure => simp [intOf]; omega
          all_goals (repeat' (first | (with_reducible exact Below.refl _ _) | (with_reducible assumption) | (with_reducible refine below_drewN ?_ _) | (with_reducible refine Below.drew ?_) | (with_reducible refine Below.alloc ?_ ?_ _) | (with_reducible refine Below.setCell ?_ ?_ _) | omega | (simp; done) | (simp; omega)))
      · obtain rfl : k = n1 := by omega
        go_wp2
        go_ret
        exact ⟨ret_bool (sameAll_yes hsame HN1.out HN2.out).symm, hb⟩
  · have hbb : ((n1 : Int) != (n2 : Int)) = true := by simp; omega
    go_enter Try.func13, Try.ntmps13
    go_wp2
    go_ret
    refine ⟨ret_bool ?_, Below.refl _ _⟩
    rw [eq_comm]; unfold sameAllU; rw [HN1.out, HN2.out, decide_eq_false hne]; rfl
end Go.Proofs.Ytlhlbckmifgeeaa
