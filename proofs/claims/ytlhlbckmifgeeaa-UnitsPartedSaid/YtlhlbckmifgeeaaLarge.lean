/- The law's own counting of units and names. -/
import Derived.Test.YtlhlbckmifgeeaaRef1
namespace Go.Proofs.Ytlhlbckmifgeeaa
open Go.RowKit

def sizeU (us : List U) : Nat := us.length + (us.map fun u => u.req.length + u.aft.length).sum
def sizeTo (us : List U) (k : Nat) : Nat := us.length + ((us.take k).map fun u => u.req.length + u.aft.length).sum
def largeU (us : List U) : Bool := decide (2000 < sizeU us)
theorem sizeTo_zero (us : List U) : sizeTo us 0 = us.length := by simp [sizeTo]
theorem sizeTo_succ {us : List U} {k : Nat} {u : U} (h : us[k]? = some u) : sizeTo us (k + 1) = sizeTo us k + u.req.length + u.aft.length := by
  obtain ⟨hlt, he⟩ := List.getElem?_eq_some_iff.1 h
  unfold sizeTo
  rw [List.take_succ_eq_append_getElem hlt, he]
  simp
  omega
theorem sizeTo_le (us : List U) (k : Nat) : sizeTo us k ≤ sizeU us := by
  unfold sizeTo sizeU
  have e : us.map (fun u => u.req.length + u.aft.length) = (us.take k).map (fun u => u.req.length + u.aft.length) ++ (us.drop k).map (fun u => u.req.length + u.aft.length) := by
    rw [← List.map_append, List.take_append_drop]
  rw [e, List.sum_append]
  omega
theorem sizeTo_all {us : List U} {k : Nat} (h : us.length ≤ k) : sizeTo us k = sizeU us := by
  unfold sizeTo sizeU
  rw [List.take_of_length_le h]

set_option maxHeartbeats 400000 in
theorem large_any {v : Value} {us : List U} {w : World} (h1 : UL w v us) :
    Calls Try.prog 9 #[v] w fun e w' => e = .returned (.bool (largeU us)) ∧ Dr w w' := by
  obtain ⟨a, cap, rfl, hm, hc⟩ := h1
  generalize hn : us.length = n at *
  have HN := Lib.hid hn
  have HC := Lib.hid hc
  clear hn hc
  go_enter Try.func9, Try.ntmps9
  go_wp2
  go_loopw [3, 4] (fun t i wr => ∃ k m s : Nat, k ≤ n ∧ i = .int .i64 k ∧ t = .int .i64 s ∧ wr = w.drewN m ∧ Hid (s = sizeTo us k) ∧ s ≤ 52776558135248) (fun _ i _ => n - (intOf i).toNat)
  case atStart => exact ⟨0, 0, n, Nat.zero_le _, rfl, rfl, rfl, by unfold Hid; rw [sizeTo_zero, HN.out], by omega⟩
  case round =>
    obtain ⟨k, m, s, hk, rfl, rfl, rfl, HS, hs⟩ := hrel
    by_cases hlt : k < n
    · by_cases h2 : s ≤ 2000
      · obtain ⟨u, hu⟩ := get_lt us (k := k) (by have := HN.out; omega)
        obtain ⟨b, off, rfl, ⟨_, _, _, _, r, f, hr, hf, ⟨ra, rc, rfl, _, hrl, _⟩, ⟨fa, fc, rfl, _, hfl, _⟩⟩, _⟩ := HC.out k _ hu
        have HU := Lib.hid (sizeTo_succ hu)
        clear hu
        generalize u.req.length = rl at *
        generalize u.aft.length = fl at *
        go_wp2
        go_quiet (fail)
        go_wp2
        go_roundw
        case rel => exact ⟨k + 1, m + nq, s + rl + fl, by omega, by go_num, by go_num, rfl, by unfold Hid; rw [HU.out, HS.out], by omega⟩
        case measure => simp [intOf]; omega
      · go_wp2
        go_ret
        refine ⟨ret_bool ?_, m, rfl⟩
        have h1 := sizeTo_le us k
        have h3 := HS.out
        unfold largeU
        simp
        omega
    · obtain rfl : k = n := by omega
      have h3 := HS.out
      rw [sizeTo_all (by rw [HN.out]; exact Nat.le_refl _)] at h3
      have HT := Lib.hid h3
      clear h3
      by_cases h2 : s ≤ 2000
      all_goals
        go_wp2
        go_ret
        refine ⟨ret_bool ?_, m, rfl⟩
        unfold largeU
        rw [← HT.out]
        simp
        omega
end Go.Proofs.Ytlhlbckmifgeeaa
