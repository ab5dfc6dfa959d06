/- Whether two units are the same, as the program tells it; what is gone. -/
import Derived.Test.YtlhlbckmifgeeaaDiffA
namespace Go.Proofs.Ytlhlbckmifgeeaa
open Go.RowKit Go.Shelf

theorem equalS_any {v1 v2 : Value} {xs ys : List ByteArray} {w : World} (h1 : SL w v1 xs) (h2 : SL w v2 ys) :
    Calls Try.prog 38 #[v1, v2] w fun e w' => e = .returned (.bool (decide (xs = ys))) ∧ ∃ q, w' = w.drewN q := by
  obtain ⟨a1, c1, rfl, _, hl1, hc1⟩ := h1
  obtain ⟨a2, c2, rfl, _, hl2, hc2⟩ := h2
  by_cases hlen : xs.length = ys.length
  · cases xs with
    | nil =>
      have hys : ys = [] := List.eq_nil_of_length_eq_zero (by simpa using hlen.symm)
      subst hys
      refine (Try.slices_Equal_string_empty a1 a2 c1 0 c2 w (by decide)).mono ?_
      rintro e w' ⟨rfl, rfl⟩
      exact ⟨rfl, 0, rfl⟩
    | cons x xr =>
      obtain ⟨y, yr, rfl⟩ : ∃ y yr, ys = y :: yr := by
        cases ys with
        | nil => simp at hlen
        | cons y yr => exact ⟨y, yr, rfl⟩
      obtain ⟨b1, o1, rfl, _⟩ := hc1 0 x rfl
      obtain ⟨b2, o2, rfl, _⟩ := hc2 0 y rfl
      have key := Try.slices_Equal_string b1 o1 (x :: xr).length c1 b2 o2 (y :: yr).length c2 (x :: xr) (y :: yr) w (Nat.le_refl _) (Nat.le_refl _) (by omega) (by omega)
        (fun j hj => by
          obtain ⟨b, o, he, hcell, _⟩ := hc1 j _ (List.getElem?_eq_getElem hj)
          cases he
          rw [List.getD_eq_getElem?_getD, List.getElem?_eq_getElem hj]
          exact hcell)
        (fun j hj => by
          obtain ⟨b, o, he, hcell, _⟩ := hc2 j _ (List.getElem?_eq_getElem hj)
          cases he
          rw [List.getD_eq_getElem?_getD, List.getElem?_eq_getElem hj]
          exact hcell)
      refine key.mono ?_
      rintro e w' ⟨rfl, hq⟩
      refine ⟨?_, hq⟩
      rw [List.take_of_length_le (Nat.le_refl _), List.take_of_length_le (Nat.le_refl _)]
  · refine (Try.slices_Equal_string_lens a1 a2 xs.length c1 ys.length c2 w hlen).mono ?_
    rintro e w' ⟨rfl, rfl⟩
    have hne : xs ≠ ys := fun h => hlen (by rw [h])
    exact ⟨by rw [decide_eq_false hne], 0, rfl⟩
set_option maxHeartbeats 1000000 in
set_option maxRecDepth 100000 in
theorem sameP_any {v1 v2 : Value} {x y : U} {w : World} (h1 : UV w v1 x) (h2 : UV w v2 y) :
    Calls Try.prog 29 #[v1, v2] w fun e w' => e = .returned (.bool (sameU x y)) ∧ Below w.heap.size w w' := by
  obtain ⟨r1, f1, rfl, _, _, hr1, hf1⟩ := h1
  obtain ⟨r2, f2, rfl, _, _, hr2, hf2⟩ := h2
  obtain ⟨W, hW⟩ : ∃ W : World, (w.alloc (.cells #[.string x.name, .string x.start, r1, f1] 32)).alloc (.cells #[.string y.name, .string y.start, r2, f2] 32) = W := ⟨_, rfl⟩
  have hb : Below w.heap.size w W := by rw [← hW]; exact ((Below.refl _ _).alloc (Nat.le_refl _) _).alloc (by simp) _
  have hx : W.heap[w.heap.size]? = some (.cells #[.string x.name, .string x.start, r1, f1] 32 (0, 0)) := by rw [← hW]; exact block_alloc (block_new _ _ rfl) _
  have hy : W.heap[w.heap.size + 1]? = some (.cells #[.string y.name, .string y.start, r2, f2] 32 (0, 0)) := by rw [← hW]; exact block_new _ _ (by simp)
  have x0 := block_cell (i := 0) hx rfl
  have x1 := block_cell (i := 1) hx rfl
  have x2 := block_cell (i := 2) hx rfl
  have x3 := block_cell (i := 3) hx rfl
  have y0 := block_cell (i := 0) hy rfl
  have y1 := block_cell (i := 1) hy rfl
  have y2 := block_cell (i := 2) hy rfl
  have y3 := block_cell (i := 3) hy rfl
  clear hx hy
  have HR := Lib.hid (fun n => equalS_any (w := W.drewN n) (hr1.keeps (below_drewN hb n)) (hr2.keeps (below_drewN hb n)))
  have HF := Lib.hid (fun n => equalS_any (w := W.drewN n) (hf1.keeps (below_drewN hb n)) (hf2.keeps (below_drewN hb n)))
  have HE : Hid (sameU x y = (x.name.toList == y.name.toList && x.start.toList == y.start.toList && decide (x.req = y.req) && decide (x.aft = y.aft))) := Lib.hid rfl
  generalize sameU x y = R at *
  obtain ⟨B1, hB1⟩ : ∃ B, (x.name.toList == y.name.toList) = B := ⟨_, rfl⟩
  obtain ⟨B2, hB2⟩ : ∃ B, (x.start.toList == y.start.toList) = B := ⟨_, rfl⟩
  obtain ⟨B3, hB3⟩ : ∃ B, decide (x.req = y.req) = B := ⟨_, rfl⟩
  obtain ⟨B4, hB4⟩ : ∃ B, decide (x.aft = y.aft) = B := ⟨_, rfl⟩
  rw [hB1, hB2, hB3, hB4] at HE
  rw [hB3] at HR
  rw [hB4] at HF
  have s1 := hr1
  have s2 := hr2
  obtain ⟨ra1, rc1, rfl, _⟩ := s1
  obtain ⟨ra2, rc2, rfl, _⟩ := s2
  have s3 := hf1
  have s4 := hf2
  obtain ⟨fa1, fc1, rfl, _⟩ := s3
  obtain ⟨fa2, fc2, rfl, _⟩ := s4
  clear hr1 hr2 hf1 hf2 hB3 hB4
  cases B1
  · go_enter Try.func29, Try.ntmps29
    go_wp2_with fail
    go_ret
    exact ⟨by rw [HE.out]; rfl, hb⟩
  · cases B2
    · go_enter Try.func29, Try.ntmps29
      go_wp2_with fail
      go_ret
      exact ⟨by rw [HE.out]; rfl, hb⟩
    · go_enter Try.func29, Try.ntmps29
      go_wp2_with fail
      refine (HR.out 0).mono ?_
      rintro e w3 ⟨rfl, q3, rfl⟩
      cases B3
      · go_wp2_with fail
        go_ret
        exact ⟨by rw [HE.out]; rfl, below_drewN hb _⟩
      · go_wp2_with fail
        refine (HF.out _).mono ?_
        rintro e w4 ⟨rfl, q4, rfl⟩
        go_wp2_with fail
        go_ret
        exact ⟨by rw [HE.out]; simp, below_drewN hb _⟩
end Go.Proofs.Ytlhlbckmifgeeaa
