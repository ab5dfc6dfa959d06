/- ValueDigits: the walk. -/
import Derived.Test.YtdpnknlpkjablaaGreatDoorShownV
import Derived.Test.YtdpnknlpkjablaaGreatDoorDigP
namespace Go.Proofs.YtdpnknlpkjablaaGreatDoor
open Go.RowKit Go.Shelf
attribute [local go_sem] store_flt

set_option maxHeartbeats 2000000 in
set_option maxRecDepth 100000 in
theorem digits_law {w : World} (hG : PG w) (n : Int) (hn : I64 n) : Calls Tryz.prog 8 #[.int .i64 n] w fun e w' => e = .returned (.bool true) ∧ Below w.heap.size w w' := by
  have HT := Lib.hid (fun W (h : PG W) => text_int h n hn)
  have HS := Lib.hid (fun W (h : PG W) => Show_int h n hn)
  have HP := Lib.hid (fun W => (Tryz.strconv_ParseInt_10_at64_ok (itoaB n) (by have := itoaB_size hn; omega) n (by exact parse_itoa n hn) W).mono (R' := fun e w' => e = .returned (.tuple #[.int .i64 n, .nilIface]) ∧ Below W.heap.size W w') fun e w' h => ⟨h.1, by
    rcases h.2 with rfl | ⟨x, rfl⟩
    · exact Below.refl _ _
    · exact Lib.bytesWorld_below _ _ _⟩)
  obtain ⟨c, r, hcr, hsg⟩ := itoa_first n
  have hsz0 : 0 < (itoaB n).size := by
    show 0 < (Lib.itoa n).length
    rw [hcr]; simp
  have hc0 : (itoaB n)[0] = c := by
    have h : (Lib.itoa n)[0]'hsz0 = c := by simp [hcr]
    exact h
  have hne : (itoaB n).toList.isEmpty = false := by
    have h : (itoaB n).toList ≠ [] := by
      intro h
      have h2 : (itoaB n).toList = (⟨#[]⟩ : ByteArray).toList := h.trans (by simp)
      have := toList_inj h2
      rw [this] at hsz0
      exact absurd hsz0 (by decide)
    cases hl : (itoaB n).toList with
    | nil => exact absurd hl h
    | cons _ _ => rfl
  generalize itoaB n = t at *
  clear hcr hn
  go_enter Tryz.func8, Tryz.ntmps8
  go_wp2_with fail
  refine (shown_any hG).mono ?_
  rintro e w1 ⟨rfl, hb1⟩
  have hB1 := hb1.alloc hb1.size (.cells #[.int .i64 2, .int .i64 n, .float .f64 0, .string ⟨#[]⟩, .slice none 0 0, .slice none 0 0] 27 (0, 0))
  have hr1 := block_new w1 (.cells #[.int .i64 2, .int .i64 n, .float .f64 0, .string ⟨#[]⟩, .slice none 0 0, .slice none 0 0] 27 (0, 0)) rfl
  go_wp2_with fail
  refine (HT.out _ (hG.below hB1)).mono ?_
  rintro e w2 ⟨rfl, hb2⟩
  have hB2 := hB1.trans (hb2.mono hB1.size)
  have hr2 := block_below hr1 hb2
  go_wp2_with fail
  refine (HP.out _).mono ?_
  rintro e w3 ⟨rfl, hb3⟩
  have hB3 := hB2.trans (hb3.mono hB2.size)
  have hr3 := block_below hr2 hb3
  have q0 := block_cell (i := 0) hr3 rfl
  have q1 := block_cell (i := 1) hr3 rfl
  have q2 := block_cell (i := 2) hr3 rfl
  have q3 := block_cell (i := 3) hr3 rfl
  have q4 := block_cell (i := 4) hr3 rfl
  have q5 := block_cell (i := 5) hr3 rfl
  go_wp2_with fail
  refine (HS.out _ (hG.below hB3)).mono ?_
  rintro e w4 ⟨rfl, hb4⟩
  have hB4 := hB3.trans (hb4.mono hB3.size)
  go_wp2_with fail
  go_ret
  exact ⟨ret_bool (by simp), hB4⟩
end Go.Proofs.YtdpnknlpkjablaaGreatDoor
