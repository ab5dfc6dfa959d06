/- The reference's functions that only read: each answers as the plain function does. -/
import Derived.Test.YtlhlbckmifgeeaaBase
namespace Go.Proofs.Ytlhlbckmifgeeaa
open Go.RowKit

/-- The world has but drawn. -/
def Dr (w w' : World) : Prop := ∃ n, w' = w.drewN n
theorem Dr.refl (w : World) : Dr w w := ⟨0, rfl⟩
theorem Dr.mk (w : World) (n : Nat) : Dr w (w.drewN n) := ⟨n, rfl⟩
theorem Dr.below {w w' : World} (h : Dr w w') : Below w.heap.size w w' := by obtain ⟨n, rfl⟩ := h; exact below_drewN' w n

def Same1 (s1 s2 : List ByteArray) (k : Nat) : Prop := ∀ j : Nat, j < k → s1[j]? = s2[j]?

theorem Same1.step {s1 s2 : List ByteArray} {k : Nat} {x y : ByteArray} (h : Same1 s1 s2 k) (hx : s1[k]? = some x) (hy : s2[k]? = some y) (he : (!x.toList == y.toList) = false) : Same1 s1 s2 (k + 1) := by
  intro j hj
  by_cases hjk : j < k
  · exact h j hjk
  · obtain rfl : j = k := by omega
    simp only [Bool.not_eq_false'] at he
    rw [hx, hy, eqs_true.1 he]
theorem Same1.no {s1 s2 : List ByteArray} {k : Nat} {x y : ByteArray} (hx : s1[k]? = some x) (hy : s2[k]? = some y) (he : (!x.toList == y.toList) = true) : decide (s1 = s2) = false := by
  simp only [Bool.not_eq_true'] at he
  rw [decide_eq_false_iff_not]
  intro h
  rw [h, hy] at hx
  exact eqs_false.1 he (Option.some.inj hx).symm
theorem Same1.yes {s1 s2 : List ByteArray} {n : Nat} (h : Same1 s1 s2 n) (h1 : s1.length = n) (h2 : s2.length = n) : decide (s1 = s2) = true := by
  rw [decide_eq_true_eq]
  apply List.ext_getElem?
  intro j
  by_cases hj : j < n
  · exact h j hj
  · rw [List.getElem?_eq_none (by omega), List.getElem?_eq_none (by omega)]

theorem ret_bool {a b : Bool} (h : a = b) : Ending.returned (.bool a) = .returned (.bool b) := by rw [h]
theorem ret_int {k : IntKind} {a b : Int} (h : a = b) : Ending.returned (.int k a) = .returned (.int k b) := by rw [h]

set_option maxHeartbeats 400000 in
theorem sameList_any {v1 v2 : Value} {s1 s2 : List ByteArray} {w : World} (h1 : SL w v1 s1) (h2 : SL w v2 s2) :
    Calls Try.prog 32 #[v1, v2] w fun e w' => e = .returned (.bool (decide (s1 = s2))) ∧ Dr w w' := by
  obtain ⟨a1, cap1, rfl, _, hm1, hc1⟩ := h1
  obtain ⟨a2, cap2, rfl, _, hm2, hc2⟩ := h2
  generalize hn1 : s1.length = n1 at *
  generalize hn2 : s2.length = n2 at *
  have HN1 := Lib.hid hn1
  have HN2 := Lib.hid hn2
  have HC1 := Lib.hid hc1
  have HC2 := Lib.hid hc2
  clear hn1 hn2 hc1 hc2
  by_cases hne : n1 = n2
  · subst hne
    go_enter Try.func32, Try.ntmps32
    go_wp2
    go_loopw [5] (fun i wr => ∃ k m : Nat, k ≤ n1 ∧ i = .int .i64 k ∧ wr = w.drewN m ∧ Same1 s1 s2 k) (fun i _ => n1 - (intOf i).toNat)
    case atStart => exact ⟨0, 0, Nat.zero_le _, rfl, rfl, fun j hj => absurd hj (Nat.not_lt_zero _)⟩
    case round =>
      obtain ⟨k, m, hk, rfl, rfl, hsame⟩ := hrel
      by_cases hlt : k < n1
      · obtain ⟨x, hx⟩ := get_lt s1 (k := k) (by have := HN1.out; omega)
        obtain ⟨y, hy⟩ := get_lt s2 (k := k) (by have := HN2.out; omega)
        obtain ⟨b1, off1, rfl, hcell1, _, _⟩ := HC1.out k _ hx
        obtain ⟨b2, off2, rfl, hcell2, _, _⟩ := HC2.out k _ hy
        have HX := Lib.hid hx
        have HY := Lib.hid hy
        clear hx hy
        go_wp2
        go_quiet (fail)
        go_wp2
        · go_ret
          exact ⟨ret_bool (Same1.no HX.out HY.out ‹_›).symm, m + nq, by simp⟩
        · go_roundw
          case rel => exact ⟨k + 1, m + nq, by omega, by go_num, rfl, hsame.step HX.out HY.out ‹_›⟩
          case measure => simp [intOf]; omega
      · obtain rfl : k = n1 := by omega
        go_wp2
        go_ret
        exact ⟨ret_bool (hsame.yes HN1.out HN2.out).symm, Dr.mk _ _⟩
  · have hbb : ((n1 : Int) != (n2 : Int)) = true := by simp; omega
    go_enter Try.func32, Try.ntmps32
    go_wp2
    go_ret
    exact ⟨ret_bool (by rw [eq_comm, decide_eq_false_iff_not]; intro h; exact hne (by rw [← HN1.out, ← HN2.out, h])), Dr.refl _⟩

def FindTo (us : List U) (s : ByteArray) (k : Nat) : Prop := ∀ (j : Nat) (x : U), j < k → us[j]? = some x → (x.name.toList == s.toList) = false
theorem FindTo.step {us : List U} {s : ByteArray} {k : Nat} {u : U} (h : FindTo us s k) (hu : us[k]? = some u) (he : (u.name.toList == s.toList) = false) : FindTo us s (k + 1) := by
  intro j x hj hx
  by_cases hjk : j < k
  · exact h j x hjk hx
  · obtain rfl : j = k := by omega
    rw [hu] at hx
    cases hx
    exact he

set_option maxHeartbeats 400000 in
theorem find_any {v : Value} {us : List U} {s : ByteArray} {w : World} (h1 : UL w v us) :
    Calls Try.prog 14 #[v, .string s] w fun e w' => e = .returned (.int .i64 (findI us s)) ∧ w = w' := by
  obtain ⟨a, cap, rfl, hm, hc⟩ := h1
  generalize hn : us.length = n at *
  have HN := Lib.hid hn
  have HC := Lib.hid hc
  clear hn hc
  go_enter Try.func14, Try.ntmps14
  go_wp2
  go_loop [5] (fun i => ∃ k : Nat, k ≤ n ∧ i = .int .i64 k ∧ FindTo us s k) (fun i => n - (intOf i).toNat)
  case atStart => exact ⟨0, Nat.zero_le _, rfl, fun j x hj => absurd hj (Nat.not_lt_zero _)⟩
  case round =>
    obtain ⟨k, hk, rfl, hto⟩ := hrel
    by_cases hlt : k < n
    · obtain ⟨u, hu⟩ := get_lt us (k := k) (by have := HN.out; omega)
      obtain ⟨b, off, rfl, ⟨hcell, _⟩, _⟩ := HC.out k _ hu
      have HU := Lib.hid hu
      clear hu
      go_wp2
      · go_ret
        exact ⟨ret_int (findI_some HU.out ‹_› (fun j x hj hx => hto j x hj hx)).symm, rfl⟩
      · go_round
        case rel => exact ⟨k + 1, by omega, by go_num, hto.step HU.out ‹_›⟩
        case measure => simp [intOf]; omega
    · obtain rfl : k = n := by omega
      go_wp2
      go_ret
      exact ⟨ret_int (findI_none (fun j x hx => hto j x (by have := (List.getElem?_eq_some_iff.1 hx).1; rw [HN.out] at this; exact this) hx)).symm, rfl⟩


theorem sameU_of {x y : U} {b1 b2 : Bool} (h1 : (x.name.toList == y.name.toList) = b1) (h2 : (x.start.toList == y.start.toList) = b2) : sameU x y = (b1 && b2 && decide (x.req = y.req) && decide (x.aft = y.aft)) := by
  simp [sameU, h1, h2]

set_option maxHeartbeats 400000 in
theorem same_any {v1 v2 : Value} {x y : U} {w : World} (h1 : UV w v1 x) (h2 : UV w v2 y) :
    Calls Try.prog 18 #[v1, v2] w fun e w' => e = .returned (.bool (sameU x y)) ∧ Below w.heap.size w w' := by
  obtain ⟨r1, f1, rfl, hn1, hs1, hr1, hf1⟩ := h1
  obtain ⟨r2, f2, rfl, hn2, hs2, hr2, hf2⟩ := h2
  generalize hreq : decide (x.req = y.req) = breq
  generalize haft : decide (x.aft = y.aft) = baft
  have HR := Lib.hid hreq
  have HA := Lib.hid haft
  clear hreq haft
  cases hname : (x.name.toList == y.name.toList) <;> cases hstart : (x.start.toList == y.start.toList) <;> cases breq <;> cases baft
  all_goals
    have HE := Lib.hid (sameU_of hname hstart)
    generalize sameU x y = res at HE ⊢
    go_enter Try.func18, Try.ntmps18
    go_wp2_with fail
    refine (sameList_any (SLP.keeps ?_ hr1) (SLP.keeps ?_ hr2)).mono ?_
    rotate_left 2
    rw [HR.out]
    rintro e w1 ⟨rfl, m1, rfl⟩
    go_wp2_with fail
    refine (sameList_any (SLP.keeps ?_ hf1) (SLP.keeps ?_ hf2)).mono ?_
    rotate_left 2
    rw [HA.out]
    rintro e w2 ⟨rfl, m2, rfl⟩
    go_wp2_with fail
    go_ret
    refine ⟨ret_bool ?_, ?_⟩
    all_goals first | (rw [HE.out, HR.out, HA.out]; rfl) | (repeat' (first | (with_reducible exact Below.refl _ _) | (with_reducible assumption) | (with_reducible refine below_drewN ?_ _) | (with_reducible refine Below.drew ?_) | (with_reducible refine Below.alloc ?_ ?_ _) | (with_reducible refine Below.setCell ?_ ?_ _) | omega | (simp; done) | (simp; omega)))
end Go.Proofs.Ytlhlbckmifgeeaa
