/- The reference's 'waits': does a unit wait for one that is left? -/
import Derived.Test.YtlhlbckmifgeeaaRef1
import Derived.Test.YtlhlbckmifgeeaaOwn
namespace Go.Proofs.Ytlhlbckmifgeeaa
open Go.RowKit

/-- The slice value reads as the bools. -/
def BL (w : World) (v : Value) (bs : List Bool) : Prop :=
  ∃ a cap, v = .slice a bs.length cap ∧ bs.length ≤ 1759218604390 ∧ ∀ i x, bs[i]? = some x → ∃ b off, a = some ⟨b, off, none⟩ ∧ w.cell? ⟨b, off + i, none⟩ = some (.bool x)
theorem BL.keeps {w w' : World} {v : Value} {bs : List Bool} (h : Below w.heap.size w w') (hs : BL w v bs) : BL w' v bs := by
  obtain ⟨a, cap, hv, hl, hc⟩ := hs
  refine ⟨a, cap, hv, hl, fun i x hi => ?_⟩
  obtain ⟨b, off, ha, h1⟩ := hc i x hi
  exact ⟨b, off, ha, cell_keeps h h1⟩

def wt (us : List U) (left : List Bool) (s : ByteArray) : Bool := match findU us s with | some k => left.getD k false | none => false
def waitsU (us : List U) (left : List Bool) (u : U) : Bool := u.req.any (wt us left) || u.aft.any (wt us left)

def WTo (us : List U) (left : List Bool) (ss : List ByteArray) (k : Nat) : Prop := ∀ (j : Nat) (s : ByteArray), j < k → ss[j]? = some s → wt us left s = false
theorem WTo.zero (us : List U) (left : List Bool) (ss : List ByteArray) : WTo us left ss 0 := fun _ _ hj => absurd hj (Nat.not_lt_zero _)
theorem WTo.step {us : List U} {left : List Bool} {ss : List ByteArray} {k : Nat} {s : ByteArray} (h : WTo us left ss k) (hs : ss[k]? = some s) (he : wt us left s = false) : WTo us left ss (k + 1) := by
  intro j x hj hx
  by_cases hjk : j < k
  · exact h j x hjk hx
  · obtain rfl : j = k := by omega
    rw [hs] at hx
    cases hx
    exact he
theorem WTo.none {us : List U} {left : List Bool} {ss : List ByteArray} {n : Nat} (h : WTo us left ss n) (hn : ss.length ≤ n) : ss.any (wt us left) = false := by
  rw [List.any_eq_false]
  intro x hx
  obtain ⟨j, hj⟩ := List.getElem?_of_mem hx
  have := (List.getElem?_eq_some_iff.1 hj).1
  rw [h j x (by omega) hj]
  simp
theorem WTo.some {us : List U} {left : List Bool} {ss : List ByteArray} {k : Nat} {s : ByteArray} (hs : ss[k]? = some s) (he : wt us left s = true) : ss.any (wt us left) = true := by
  rw [List.any_eq_true]
  exact ⟨s, List.mem_of_getElem? hs, he⟩

theorem findU_lt {us : List U} {s : ByteArray} {k : Nat} (h : findU us s = some k) : k < us.length := by
  unfold findU at h
  rw [List.findIdx?_eq_some_iff_getElem] at h
  exact h.1
/-- The three ways of a look. -/
theorem wt_cases (us : List U) (left : List Bool) (s : ByteArray) (hl : left.length = us.length) :
    (findI us s = -1 ∧ wt us left s = false) ∨ ∃ (k : Nat) (x : Bool), findI us s = k ∧ left[k]? = some x ∧ k < us.length ∧ wt us left s = x := by
  unfold findI wt
  cases h : findU us s with
  | none => exact Or.inl ⟨rfl, rfl⟩
  | some k =>
    have hk := findU_lt h
    exact Or.inr ⟨k, left[k]'(by omega), rfl, List.getElem?_eq_getElem (by omega), hk, by simp [List.getD, List.getElem?_eq_getElem (show k < left.length by omega)]⟩

set_option maxHeartbeats 800000 in
theorem waits_any {v1 v2 v3 : Value} {us : List U} {left : List Bool} {u : U} {w : World} (h1 : UL w v1 us) (h2 : BL w v2 left) (h3 : UV w v3 u) (hll : left.length = us.length) :
    Calls Try.prog 19 #[v1, v2, v3] w fun e w' => e = .returned (.bool (waitsU us left u)) ∧ Below w.heap.size w w' := by
  obtain ⟨r, f, rfl, hsn, hss, hr, hf⟩ := h3
  have hr' := hr
  have hf' := hf
  obtain ⟨ra, rc, rfl, _, hrl, hrc⟩ := hr'
  obtain ⟨fa, fc, rfl, _, hfl, hfc⟩ := hf'
  obtain ⟨la, lc, rfl, hlb, hlc⟩ := h2
  have HRC := Lib.hid hrc
  have HFC := Lib.hid hfc
  have HLC := Lib.hid hlc
  have HLL := Lib.hid hll
  have hlt0 : left.length ≤ us.length := by omega
  have HW := Lib.hid (show waitsU us left u = (u.req.any (wt us left) || u.aft.any (wt us left)) from rfl)
  generalize waitsU us left u = res at HW ⊢
  clear hrc hfc hlc hll
  go_enter Try.func19, Try.ntmps19
  go_wp2
  go_loopw [7] (fun i wr => ∃ k : Nat, k ≤ u.req.length ∧ i = .int .i64 k ∧ wr = w.alloc (.cells #[.string u.name, .string u.start, .slice ra u.req.length rc, .slice fa u.aft.length fc] 32) ∧ WTo us left u.req k) (fun i _ => u.req.length - (intOf i).toNat)
  case atStart => exact ⟨0, Nat.zero_le _, rfl, rfl, WTo.zero _ _ _⟩
  case round =>
    obtain ⟨k, hk, rfl, rfl, hto⟩ := hrel
    by_cases hlt : k < u.req.length
    · obtain ⟨s, hs⟩ := get_lt u.req hlt
      obtain ⟨b, off, rfl, hcell, _, _⟩ := HRC.out k _ hs
      have hblt : b < w.heap.size := World.block_lt_of_cell? w _ hcell
      have HS := Lib.hid hs
      clear hs
      rcases wt_cases us left s HLL.out with ⟨hfi, hwt⟩ | ⟨i, x, hfi, hli, hil, hwt⟩
      · have HFI := Lib.hid hfi
        have HWT := Lib.hid hwt
        clear hfi hwt
        go_wp2_with fail
        refine (find_any (ULP.keeps ?_ h1)).mono ?_
        rotate_left
        rw [HFI.out]
        rintro e w1 ⟨rfl, rfl⟩
        go_wp2_with fail
        go_roundw
        case rel => exact ⟨k + 1, by omega, by go_num, trivial, hto.step HS.out HWT.out⟩
        case measure => simp [intOf]; omega
        all_goals (repeat' (first | (with_reducible exact Below.refl _ _) | (with_reducible assumption) | (with_reducible refine below_drewN ?_ _) | (with_reducible refine Below.drew ?_) | (with_reducible refine Below.alloc ?_ ?_ _) | (with_reducible refine Below.setCell ?_ ?_ _) | omega | (simp; done) | (simp; omega)))
      · obtain ⟨lb, lo, rfl, hlcell⟩ := HLC.out i _ hli
        have hlblt : lb < w.heap.size := World.block_lt_of_cell? w _ hlcell
        have HFI := Lib.hid hfi
        have HWT := Lib.hid hwt
        clear hfi hwt hli
        have hilt : i < left.length := by have := HLL.out; omega
        have hge : decide ((0 : Int) ≤ (i : Int)) = true := by simp
        cases x
        · go_wp2_with fail
          refine (find_any (ULP.keeps ?_ h1)).mono ?_
          rotate_left
          rw [HFI.out]
          rintro e w1 ⟨rfl, rfl⟩
          go_wp2_with fail
          go_roundw
          case rel => exact ⟨k + 1, by omega, by go_num, trivial, hto.step HS.out HWT.out⟩
          case measure => simp [intOf]; omega
          all_goals (repeat' (first | (with_reducible exact Below.refl _ _) | (with_reducible assumption) | (with_reducible refine below_drewN ?_ _) | (with_reducible refine Below.drew ?_) | (with_reducible refine Below.alloc ?_ ?_ _) | (with_reducible refine Below.setCell ?_ ?_ _) | omega | (simp; done) | (simp; omega)))
        · have HR := Lib.hid (show (u.req.any (wt us left) || u.aft.any (wt us left)) = true by rw [WTo.some HS.out HWT.out]; rfl)
          go_wp2_with fail
          refine (find_any (ULP.keeps ?_ h1)).mono ?_
          rotate_left
          rw [HFI.out]
          rintro e w1 ⟨rfl, rfl⟩
          go_wp2_with fail
          go_ret
          refine ⟨ret_bool (by rw [HW.out, HR.out]), ?_⟩
          all_goals (repeat' (first | (with_reducible exact Below.refl _ _) | (with_reducible assumption) | (with_reducible refine below_drewN ?_ _) | (with_reducible refine Below.drew ?_) | (with_reducible refine Below.alloc ?_ ?_ _) | (with_reducible refine Below.setCell ?_ ?_ _) | omega | (simp; done) | (simp; omega)))
    · obtain rfl : k = u.req.length := by omega
      have HNO := Lib.hid (hto.none (Nat.le_refl _))
      clear hto
      go_wp2
      go_loopw [9] (fun i wr => ∃ k : Nat, k ≤ u.aft.length ∧ i = .int .i64 k ∧ wr = w.alloc (.cells #[.string u.name, .string u.start, .slice ra u.req.length rc, .slice fa u.aft.length fc] 32) ∧ WTo us left u.aft k) (fun i _ => u.aft.length - (intOf i).toNat)
      case atStart => exact ⟨0, Nat.zero_le _, rfl, rfl, WTo.zero _ _ _⟩
      case round =>
        obtain ⟨k, hk, rfl, rfl, hto⟩ := hrel
        by_cases hlt : k < u.aft.length
        · obtain ⟨s, hs⟩ := get_lt u.aft hlt
          obtain ⟨b, off, rfl, hcell, _, _⟩ := HFC.out k _ hs
          have hblt : b < w.heap.size := World.block_lt_of_cell? w _ hcell
          have HS := Lib.hid hs
          clear hs
          rcases wt_cases us left s HLL.out with ⟨hfi, hwt⟩ | ⟨i, x, hfi, hli, hil, hwt⟩
          · have HFI := Lib.hid hfi
            have HWT := Lib.hid hwt
            clear hfi hwt
            go_wp2_with fail
            refine (find_any (ULP.keeps ?_ h1)).mono ?_
            rotate_left
            rw [HFI.out]
            rintro e w1 ⟨rfl, rfl⟩
            go_wp2_with fail
            go_roundw
            case rel => exact ⟨k + 1, by omega, by go_num, trivial, hto.step HS.out HWT.out⟩
            case measure => simp [intOf]; omega
            all_goals (repeat' (first | (with_reducible exact Below.refl _ _) | (with_reducible assumption) | (with_reducible refine below_drewN ?_ _) | (with_reducible refine Below.drew ?_) | (with_reducible refine Below.alloc ?_ ?_ _) | (with_reducible refine Below.setCell ?_ ?_ _) | omega | (simp; done) | (simp; omega)))
          · obtain ⟨lb, lo, rfl, hlcell⟩ := HLC.out i _ hli
            have hlblt : lb < w.heap.size := World.block_lt_of_cell? w _ hlcell
            have HFI := Lib.hid hfi
            have HWT := Lib.hid hwt
            clear hfi hwt hli
            have hilt : i < left.length := by have := HLL.out; omega
            have hge : decide ((0 : Int) ≤ (i : Int)) = true := by simp
            cases x
            · go_wp2_with fail
              refine (find_any (ULP.keeps ?_ h1)).mono ?_
              rotate_left
              rw [HFI.out]
              rintro e w1 ⟨rfl, rfl⟩
              go_wp2_with fail
              go_roundw
              case rel => exact ⟨k + 1, by omega, by go_num, trivial, hto.step HS.out HWT.out⟩
              case measure => simp [intOf]; omega
              all_goals (repeat' (first | (with_reducible exact Below.refl _ _) | (with_reducible assumption) | (with_reducible refine below_drewN ?_ _) | (with_reducible refine Below.drew ?_) | (with_reducible refine Below.alloc ?_ ?_ _) | (with_reducible refine Below.setCell ?_ ?_ _) | omega | (simp; done) | (simp; omega)))
            · have HR := Lib.hid (show (u.req.any (wt us left) || u.aft.any (wt us left)) = true by rw [WTo.some HS.out HWT.out]; simp)
              go_wp2_with fail
              refine (find_any (ULP.keeps ?_ h1)).mono ?_
              rotate_left
              rw [HFI.out]
              rintro e w1 ⟨rfl, rfl⟩
              go_wp2_with fail
              go_ret
              refine ⟨ret_bool (by rw [HW.out, HR.out]), ?_⟩
              all_goals (repeat' (first | (with_reducible exact Below.refl _ _) | (with_reducible assumption) | (with_reducible refine below_drewN ?_ _) | (with_reducible refine Below.drew ?_) | (with_reducible refine Below.alloc ?_ ?_ _) | (with_reducible refine Below.setCell ?_ ?_ _) | omega | (simp; done) | (simp; omega)))
        · obtain rfl : k = u.aft.length := by omega
          have HNO2 := Lib.hid (hto.none (Nat.le_refl _))
          clear hto
          go_wp2
          go_ret
          refine ⟨ret_bool (by rw [HW.out, HNO.out, HNO2.out]; rfl), ?_⟩
          all_goals (repeat' (first | (with_reducible exact Below.refl _ _) | (with_reducible assumption) | (with_reducible refine below_drewN ?_ _) | (with_reducible refine Below.drew ?_) | (with_reducible refine Below.alloc ?_ ?_ _) | (with_reducible refine Below.setCell ?_ ?_ _) | omega | (simp; done) | (simp; omega)))
end Go.Proofs.Ytlhlbckmifgeeaa
