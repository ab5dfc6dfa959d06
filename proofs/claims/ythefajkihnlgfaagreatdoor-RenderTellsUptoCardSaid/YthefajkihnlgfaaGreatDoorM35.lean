/- The law's own copy of units: it reads as they do. -/
import Derived.Test.YthefajkihnlgfaaGreatDoorM14
import Derived.Lib.SmallJoins
import Derived.StillTailTactics
namespace Go.Proofs.YthefajkihnlgfaaGreatDoor
open Go.RowKit

/-- The cells of units, one behind the other. -/
def UFlat (p : Nat → Prop) (w : World) (xs : List Value) (us : List U) : Prop :=
  xs.length = us.length * 4 ∧ ∀ i u, us[i]? = some u → xs[i * 4]? = some (.string u.name) ∧ xs[i * 4 + 1]? = some (.string u.start) ∧ u.name.size ≤ maxLen ∧ u.start.size ≤ maxLen ∧
    ∃ r f, xs[i * 4 + 2]? = some r ∧ xs[i * 4 + 3]? = some f ∧ SLP p w r u.req ∧ SLP p w f u.aft

theorem UFlat.nil (p : Nat → Prop) (w : World) : UFlat p w [] [] := ⟨rfl, fun i u h => by simp at h⟩
theorem UFlat.kept {p : Nat → Prop} {w w' : World} {xs : List Value} {us : List U} (h : UFlat p w xs us) (hk : Kept p w w') : UFlat p w' xs us := by
  refine ⟨h.1, fun i u hu => ?_⟩
  obtain ⟨h1, h2, h3, h4, r, f, h5, h6, h7, h8⟩ := h.2 i u hu
  exact ⟨h1, h2, h3, h4, r, f, h5, h6, h7.kept hk, h8.kept hk⟩
theorem UFlat.mono {p p' : Nat → Prop} {w : World} {xs : List Value} {us : List U} (h : UFlat p w xs us) (hk : ∀ b, p b → p' b) : UFlat p' w xs us := by
  refine ⟨h.1, fun i u hu => ?_⟩
  obtain ⟨h1, h2, h3, h4, r, f, h5, h6, h7, h8⟩ := h.2 i u hu
  exact ⟨h1, h2, h3, h4, r, f, h5, h6, h7.mono hk, h8.mono hk⟩
theorem UFlat.there {p : Nat → Prop} {w : World} {xs : List Value} {us : List U} (h : UFlat p w xs us) : UFlat (fun b => p b ∧ b < w.heap.size) w xs us := by
  refine ⟨h.1, fun i u hu => ?_⟩
  obtain ⟨h1, h2, h3, h4, r, f, h5, h6, h7, h8⟩ := h.2 i u hu
  exact ⟨h1, h2, h3, h4, r, f, h5, h6, h7.there, h8.there⟩
theorem UFlat.snoc {p : Nat → Prop} {w : World} {xs : List Value} {us : List U} {u : U} {r f : Value} (h : UFlat p w xs us) (hn : u.name.size ≤ maxLen) (hs : u.start.size ≤ maxLen) (hr : SLP p w r u.req) (hf : SLP p w f u.aft) :
    UFlat p w (xs ++ [.string u.name, .string u.start, r, f]) (us ++ [u]) := by
  refine ⟨by simp [h.1]; omega, fun i x hx => ?_⟩
  by_cases hi : i < us.length
  · rw [List.getElem?_append_left hi] at hx
    have hl := h.1
    obtain ⟨h1, h2, h3, h4, r', f', h5, h6, h7, h8⟩ := h.2 i x hx
    exact ⟨by rw [List.getElem?_append_left (by omega)]; exact h1, by rw [List.getElem?_append_left (by omega)]; exact h2, h3, h4, r', f', by rw [List.getElem?_append_left (by omega)]; exact h5, by rw [List.getElem?_append_left (by omega)]; exact h6, h7, h8⟩
  · have hlt := (List.getElem?_eq_some_iff.1 hx).1
    simp at hlt
    obtain rfl : i = us.length := by omega
    simp at hx
    subst hx
    have hl := h.1
    refine ⟨?_, ?_, hn, hs, r, f, ?_, ?_, hr, hf⟩
    · rw [List.getElem?_append_right (by omega), show us.length * 4 - xs.length = 0 by omega]; rfl
    · rw [List.getElem?_append_right (by omega), show us.length * 4 + 1 - xs.length = 1 by omega]; rfl
    · rw [List.getElem?_append_right (by omega), show us.length * 4 + 2 - xs.length = 2 by omega]; rfl
    · rw [List.getElem?_append_right (by omega), show us.length * 4 + 3 - xs.length = 3 by omega]; rfl

theorem UCP.there {p : Nat → Prop} {w : World} {b o : Nat} {u : U} (h : UCP p w b o u) : UCP (fun b => b < w.heap.size) w b o u := by
  obtain ⟨h1, h2, h3, h4, r, f, h5, h6, h7, h8⟩ := h
  exact ⟨h1, h2, h3, h4, r, f, h5, h6, h7.there.mono fun _ hb => hb.2, h8.there.mono fun _ hb => hb.2⟩

/-- A list of units of the call's own, read. -/
theorem ULP.of_own {p : Nat → Prop} {w : World} {base : Nat} {v : Value} {us : List U} {n : Nat} {xs : List Value} (hown : w.ownsRow base 37 4 v n xs) (hf : UFlat p w xs us) (hl : us.length ≤ 1759218604390) :
    ULP (fun b => base ≤ b ∧ v.ownBlock = some b) p w v us := by
  obtain ⟨hx, hc⟩ := hown
  have hn : n = us.length := by have := hf.1; omega
  subst hn
  rcases hc with ⟨rfl, h0⟩ | ⟨g, cap, cur, rfl, hb, hh, hle, hm, hsz, htk⟩
  · refine ⟨none, 0, by rw [h0], hl, fun i u hu => ?_⟩
    have := (List.getElem?_eq_some_iff.1 hu).1
    omega
  · refine ⟨some ⟨g, 0, none⟩, cap, rfl, hl, fun i u hu => ⟨g, 0, rfl, ?_, hb, rfl⟩⟩
    have hlt := (List.getElem?_eq_some_iff.1 hu).1
    have cell : ∀ j x, j < us.length * 4 → xs[j]? = some x → w.cell? ⟨g, j, none⟩ = some x := by
      intro j x hj hx
      rw [cell_of_row w g j cur 37 (0, 0) hh]
      rw [← htk, List.getElem?_take, if_pos hj] at hx
      simpa using hx
    obtain ⟨h1, h2, h3, h4, r, f, h5, h6, h7, h8⟩ := hf.2 i u hu
    rw [Nat.zero_add]
    exact ⟨cell _ _ (by omega) h1, cell _ _ (by omega) h2, h3, h4, r, f, cell _ _ (by omega) h5, cell _ _ (by omega) h6, h7, h8⟩

/-- A list of strings of the call's own, read: the first of them. -/
theorem SLP.of_own {w : World} {base : Nat} {g n cap m : Nat} {ss : List ByteArray} {xs : List Value} (hown : w.ownsRow base 9 1 (.slice (some ⟨g, 0, none⟩) n cap) n xs) (hx : ∃ r, xs = ss.map Value.string ++ r) (hl : ss.length ≤ 8796093021952) (hm : m = ss.length) (hs : ∀ s ∈ ss, s.size ≤ maxLen) :
    SLP (fun b => b = g) w (.slice (some ⟨g, 0, none⟩) m cap) ss := by
  subst hm
  obtain ⟨r, rfl⟩ := hx
  obtain ⟨hxl, hc⟩ := hown
  rcases hc with ⟨hh, _⟩ | ⟨g', cap', cur, hv, hb, hh, hle, hm, hsz, htk⟩
  · cases hh
  · simp at hv
    obtain ⟨rfl, rfl⟩ := hv
    refine ⟨_, _, rfl, (fun h => by cases h), hl, fun i s hi => ⟨g, 0, rfl, ?_, hs s (List.mem_of_getElem? hi), rfl⟩⟩
    rw [Nat.zero_add, cell_of_row w g i cur 9 (0, 0) hh]
    have hlt := (List.getElem?_eq_some_iff.1 hi).1
    have : (ss.map Value.string ++ r)[i]? = some (Value.string s) := by
      rw [List.getElem?_append_left (by simpa using hlt), List.getElem?_map, hi]; rfl
    rw [← htk, List.getElem?_take] at this
    split at this
    · simpa using this
    · cases this

theorem SLP.sizes {p : Nat → Prop} {w : World} {v : Value} {ss : List ByteArray} (h : SLP p w v ss) : ∀ s ∈ ss, s.size ≤ maxLen := by
  intro s hs
  obtain ⟨i, hi⟩ := List.getElem?_of_mem hs
  obtain ⟨_, _, _, _, _, hc⟩ := h
  obtain ⟨_, _, _, _, h2, _⟩ := hc i s hi
  exact h2

end Go.Proofs.YthefajkihnlgfaaGreatDoor

/- More of the reference's functions that only read. -/
namespace Go.Proofs.YthefajkihnlgfaaGreatDoor
open Go.RowKit

def SameTo (us vs : List U) (k : Nat) : Prop := ∀ (j : Nat) (x y : U), j < k → us[j]? = some x → vs[j]? = some y → sameU x y = true
def sameAllU (us vs : List U) : Bool := decide (us.length = vs.length) && ((us.zip vs).all fun p => sameU p.1 p.2)
theorem SameTo.step {us vs : List U} {k : Nat} {x y : U} (h : SameTo us vs k) (hx : us[k]? = some x) (hy : vs[k]? = some y) (he : sameU x y = true) : SameTo us vs (k + 1) := by
  intro j x' y' hj hx' hy'
  by_cases hjk : j < k
  · exact h j x' y' hjk hx' hy'
  · obtain rfl : j = k := by omega
    rw [hx] at hx'; rw [hy] at hy'
    cases hx'; cases hy'
    exact he
theorem sameAll_no {us vs : List U} {k : Nat} {x y : U} (hx : us[k]? = some x) (hy : vs[k]? = some y) (he : sameU x y = false) : sameAllU us vs = false := by
  unfold sameAllU
  rw [Bool.and_eq_false_iff]
  right
  rw [List.all_eq_false]
  refine ⟨(x, y), ?_, by simp [he]⟩
  apply List.mem_of_getElem? (i := k)
  rw [List.getElem?_zip_eq_some]
  exact ⟨hx, hy⟩
theorem sameAll_yes {us vs : List U} {n : Nat} (h : SameTo us vs n) (h1 : us.length = n) (h2 : vs.length = n) : sameAllU us vs = true := by
  unfold sameAllU
  rw [Bool.and_eq_true, decide_eq_true_eq, List.all_eq_true]
  refine ⟨by omega, fun p hp => ?_⟩
  obtain ⟨j, hj⟩ := List.getElem?_of_mem hp
  rw [List.getElem?_zip_eq_some] at hj
  have := (List.getElem?_eq_some_iff.1 hj.1).1
  exact h j _ _ (by omega) hj.1 hj.2

set_option maxHeartbeats 400000 in
set_option maxRecDepth 100000 in
theorem sameAll_any {v1 v2 : Value} {us vs : List U} {w : World} (h1 : UL w v1 us) (h2 : UL w v2 vs) :
    Calls Tryz.prog 13 #[v1, v2] w fun e w' => e = .returned (.bool (sameAllU us vs)) ∧ Below w.heap.size w w' := by
  obtain ⟨a1, cap1, rfl, hm1, hc1⟩ := h1
  obtain ⟨a2, cap2, rfl, hm2, hc2⟩ := h2
  generalize hn1 : us.length = n1 at *
  generalize hn2 : vs.length = n2 at *
  have HN1 := Lib.hid hn1
  have HN2 := Lib.hid hn2
  have HC1 := Lib.hid hc1
  have HC2 := Lib.hid hc2
  clear hn1 hn2 hc1 hc2
  by_cases hne : n1 = n2
  · subst hne
    go_enter Tryz.func13, Tryz.ntmps13
    go_wp2
    go_loopw [5] (fun i wr => ∃ k : Nat, k ≤ n1 ∧ i = .int .i64 k ∧ Below w.heap.size w wr ∧ SameTo us vs k) (fun i _ => n1 - (intOf i).toNat)
    case atStart => exact ⟨0, Nat.zero_le _, rfl, Below.refl _ _, fun j x y hj => absurd hj (Nat.not_lt_zero _)⟩
    case round =>
      obtain ⟨k, hk, rfl, hb, hsame⟩ := hrel
      by_cases hlt : k < n1
      · obtain ⟨x, hx⟩ := get_lt us (k := k) (by have := HN1.out; omega)
        obtain ⟨y, hy⟩ := get_lt vs (k := k) (by have := HN2.out; omega)
        obtain ⟨b1, off1, rfl, hcell1, _⟩ := HC1.out k _ hx
        obtain ⟨b2, off2, rfl, hcell2, _⟩ := HC2.out k _ hy
        have HX := Lib.hid hx
        have HY := Lib.hid hy
        clear hx hy
        have hcell1 := hcell1.keeps hb
        have hcell2 := hcell2.keeps hb
        obtain ⟨r1, f1, hr1, hf1, hv1⟩ := hcell1.value
        obtain ⟨r2, f2, hr2, hf2, hv2⟩ := hcell2.value
        obtain ⟨p10, p11, _, _, _⟩ := hcell1
        obtain ⟨p20, p21, _, _, _⟩ := hcell2
        cases hres : sameU x y
        · have HRES := Lib.hid hres
          clear hres
          go_wp2
          go_still_tail 8, (by kernel_rfl)
          change wpList _ _ _ _ _ wr.drew
          go_wp2_with fail
          refine (same_any (UVP.keeps ?_ hv1) (UVP.keeps ?_ hv2)).mono ?_
          rotate_left 2
          rw [HRES.out]
          rintro e w1 ⟨rfl, hb1⟩
          go_wp2_with fail
          go_ret
          refine ⟨ret_bool ?_, ?_⟩
          rw [sameAll_no HX.out HY.out HRES.out]
          exact hb.trans ((Below.refl _ _).drew.trans (hb1.mono hb.size))
          all_goals (repeat' (first | (with_reducible exact Below.refl _ _) | (with_reducible assumption) | (with_reducible refine below_drewN ?_ _) | (with_reducible refine Below.drew ?_) | (with_reducible refine Below.alloc ?_ ?_ _) | (with_reducible refine Below.setCell ?_ ?_ _) | omega | (simp; done) | (simp; omega)))
        · have HRES := Lib.hid hres
          clear hres
          go_wp2
          go_still_tail 8, (by kernel_rfl)
          change wpList _ _ _ _ _ wr.drew
          go_wp2_with fail
          refine (same_any (UVP.keeps ?_ hv1) (UVP.keeps ?_ hv2)).mono ?_
          rotate_left 2
          rw [HRES.out]
          rintro e w1 ⟨rfl, hb1⟩
          go_wp2_with fail
          go_roundw
          case rel => exact ⟨k + 1, by omega, by go_num, hb.trans ((Below.refl _ _).drew.trans (hb1.mono hb.size)), hsame.step HX.out HY.out HRES.out⟩
          case measure => simp [intOf]; omega
          all_goals (repeat' (first | (with_reducible exact Below.refl _ _) | (with_reducible assumption) | (with_reducible refine below_drewN ?_ _) | (with_reducible refine Below.drew ?_) | (with_reducible refine Below.alloc ?_ ?_ _) | (with_reducible refine Below.setCell ?_ ?_ _) | omega | (simp; done) | (simp; omega)))
      · obtain rfl : k = n1 := by omega
        go_wp2
        go_ret
        exact ⟨ret_bool (sameAll_yes hsame HN1.out HN2.out).symm, hb⟩
  · have hbb : ((n1 : Int) != (n2 : Int)) = true := by simp; omega
    go_enter Tryz.func13, Tryz.ntmps13
    go_wp2
    go_ret
    refine ⟨ret_bool ?_, Below.refl _ _⟩
    rw [eq_comm]; unfold sameAllU; rw [HN1.out, HN2.out, decide_eq_false hne]; rfl
end Go.Proofs.YthefajkihnlgfaaGreatDoor

