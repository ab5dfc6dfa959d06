/- ValueStrings: the walk. -/
import Derived.Test.YtdpnknlpkjablaaGreatDoorShownV
import Derived.Test.YtdpnknlpkjablaaGreatDoorRStr
import Derived.Test.YtdpnknlpkjablaaGreatDoorValP
import Derived.Deep.DeepCutAuto
namespace Go.Proofs.YtdpnknlpkjablaaGreatDoor
open Go.RowKit Go.Shelf
attribute [local go_sem] store_flt

theorem order3 (a b c : ByteArray) : (Op.bytesLess a.toList b.toList = true → Op.bytesLess b.toList c.toList = true → Op.bytesLess a.toList c.toList = true) ∧
    ((Op.bytesLess a.toList b.toList = true ∧ (a.toList == b.toList) = false ∧ Op.bytesLess b.toList a.toList = false) ∨
     (Op.bytesLess a.toList b.toList = false ∧ (a.toList == b.toList) = true ∧ Op.bytesLess b.toList a.toList = false) ∨
     (Op.bytesLess a.toList b.toList = false ∧ (a.toList == b.toList) = false ∧ Op.bytesLess b.toList a.toList = true)) := by
  refine ⟨bytesLess_trans, ?_⟩
  have irr := bytesLess_irrefl a.toList
  rcases bytesLess_total a.toList b.toList with h | h | h
  · refine Or.inl ⟨h, ?_, ?_⟩
    · rw [beq_eq_false_iff_ne]
      intro e
      rw [← e, irr] at h
      cases h
    · cases h2 : Op.bytesLess b.toList a.toList with
      | false => rfl
      | true => rw [bytesLess_trans h h2] at irr; cases irr
  · refine Or.inr (Or.inl ⟨?_, ?_, ?_⟩)
    · rw [← h]; exact irr
    · simp [h]
    · rw [← h]; exact irr
  · refine Or.inr (Or.inr ⟨?_, ?_, h⟩)
    · cases h2 : Op.bytesLess a.toList b.toList with
      | false => rfl
      | true => rw [bytesLess_trans h2 h] at irr; cases irr
    · rw [beq_eq_false_iff_ne]
      intro e
      rw [← e, irr] at h
      cases h
theorem block_drew {w : World} {g : Nat} {o : Obj} (h : w.heap[g]? = some o) : w.drew.heap[g]? = some o := h
set_option maxHeartbeats 8000000 in
set_option maxRecDepth 100000 in
theorem strings_law {w : World} (hG : PG w) (a b c : ByteArray) : Calls Tryz.prog 7 #[.string a, .string b, .string c] w fun e w' => e = .returned (.bool true) ∧ Below w.heap.size w w' := by
  by_cases hl : a.size ≤ 1024 ∧ b.size ≤ 1024 ∧ c.size ≤ 1024
  · obtain ⟨ha, hb, hc⟩ := hl
    have la : decide ((1024 : Int) < (a.size : Int)) = false := by simp; omega
    have lb : decide ((1024 : Int) < (b.size : Int)) = false := by simp; omega
    have lc : decide ((1024 : Int) < (c.size : Int)) = false := by simp; omega
    have H11 := Lib.hid (fun W => less_str_str a a ha ha W)
    have H12 := Lib.hid (fun W => less_str_str a b ha hb W)
    have H23 := Lib.hid (fun W => less_str_str b c hb hc W)
    have H13 := Lib.hid (fun W => less_str_str a c ha hc W)
    have HE := Lib.hid (fun W => equal_str_str a b ha hb W)
    have H21 := Lib.hid (fun W => less_str_str b a hb ha W)
    have hord := order3 a b c
    rw [bytesLess_irrefl] at H11
    obtain ⟨b1, h1⟩ : ∃ x, Op.bytesLess a.toList b.toList = x := ⟨_, rfl⟩
    obtain ⟨b2, h2⟩ : ∃ x, Op.bytesLess b.toList c.toList = x := ⟨_, rfl⟩
    obtain ⟨b3, h3⟩ : ∃ x, Op.bytesLess a.toList c.toList = x := ⟨_, rfl⟩
    obtain ⟨bk, h4⟩ : ∃ x, Op.bytesLess b.toList a.toList = x := ⟨_, rfl⟩
    obtain ⟨q, hq⟩ : ∃ x, (a.toList == b.toList) = x := ⟨_, rfl⟩
    rw [h1] at H12 hord
    rw [h2] at H23 hord
    rw [h3] at H13 hord
    rw [h4] at H21 hord
    rw [hq] at HE hord
    have HORD := Lib.hid hord
    have HSZ := Lib.hid (⟨ha, hb⟩ : a.size ≤ 1024 ∧ b.size ≤ 1024)
    clear h1 h2 h3 h4 hord ha hb hc
    go_enter Tryz.func7, Tryz.ntmps7
    go_wp2_with fail
    refine (shown_any hG).mono ?_
    rintro e w1 ⟨rfl, hb1⟩
    have rA := block_alloc (block_alloc (block_new w1 (.cells #[.int .i64 4, .int .i64 0, .float .f64 0, .string a, .slice none 0 0, .slice none 0 0] 27 (0, 0)) rfl) (.cells #[.int .i64 4, .int .i64 0, .float .f64 0, .string b, .slice none 0 0, .slice none 0 0] 27 (0, 0))) (.cells #[.int .i64 4, .int .i64 0, .float .f64 0, .string c, .slice none 0 0, .slice none 0 0] 27 (0, 0))
    have rB := block_alloc (block_new (w1.alloc (.cells #[.int .i64 4, .int .i64 0, .float .f64 0, .string a, .slice none 0 0, .slice none 0 0] 27 (0, 0))) (.cells #[.int .i64 4, .int .i64 0, .float .f64 0, .string b, .slice none 0 0, .slice none 0 0] 27 (0, 0)) (World.size_alloc _ _).symm) (.cells #[.int .i64 4, .int .i64 0, .float .f64 0, .string c, .slice none 0 0, .slice none 0 0] 27 (0, 0))
    have rC := block_new ((w1.alloc (.cells #[.int .i64 4, .int .i64 0, .float .f64 0, .string a, .slice none 0 0, .slice none 0 0] 27 (0, 0))).alloc (.cells #[.int .i64 4, .int .i64 0, .float .f64 0, .string b, .slice none 0 0, .slice none 0 0] 27 (0, 0))) (.cells #[.int .i64 4, .int .i64 0, .float .f64 0, .string c, .slice none 0 0, .slice none 0 0] 27 (0, 0)) (g := w1.heap.size + 1 + 1) (by simp)
    have hB1 := ((hb1.alloc hb1.size (.cells #[.int .i64 4, .int .i64 0, .float .f64 0, .string a, .slice none 0 0, .slice none 0 0] 27 (0, 0))).alloc (by have := hb1.size; simp; omega) (.cells #[.int .i64 4, .int .i64 0, .float .f64 0, .string b, .slice none 0 0, .slice none 0 0] 27 (0, 0))).alloc (by have := hb1.size; simp; omega) (.cells #[.int .i64 4, .int .i64 0, .float .f64 0, .string c, .slice none 0 0, .slice none 0 0] 27 (0, 0))
    go_wp2_with fail
    refine (H11.out _).mono ?_
    rintro e w2 ⟨rfl, hb2⟩
    have hB2 := hB1.trans (hb2.mono hB1.size)
    have rA2 := block_below rA hb2
    have rB2 := block_below rB hb2
    have rC2 := block_below rC hb2
    have a20 := block_cell (i := 0) rA2 rfl
    have a21 := block_cell (i := 1) rA2 rfl
    have a22 := block_cell (i := 2) rA2 rfl
    have a23 := block_cell (i := 3) rA2 rfl
    have a24 := block_cell (i := 4) rA2 rfl
    have a25 := block_cell (i := 5) rA2 rfl
    have b20 := block_cell (i := 0) rB2 rfl
    have b21 := block_cell (i := 1) rB2 rfl
    have b22 := block_cell (i := 2) rB2 rfl
    have b23 := block_cell (i := 3) rB2 rfl
    have b24 := block_cell (i := 4) rB2 rfl
    have b25 := block_cell (i := 5) rB2 rfl
    clear rA rB rC
    go_wp2_with fail
    refine (H12.out _).mono ?_
    rintro e w3 ⟨rfl, hb3⟩
    have hB3 := hB2.trans (hb3.mono hB2.size)
    have rA3 := block_below rA2 hb3
    have rB3 := block_below rB2 hb3
    have rC3 := block_below rC2 hb3
    have b30 := block_cell (i := 0) rB3 rfl
    have b31 := block_cell (i := 1) rB3 rfl
    have b32 := block_cell (i := 2) rB3 rfl
    have b33 := block_cell (i := 3) rB3 rfl
    have b34 := block_cell (i := 4) rB3 rfl
    have b35 := block_cell (i := 5) rB3 rfl
    have c30 := block_cell (i := 0) rC3 rfl
    have c31 := block_cell (i := 1) rC3 rfl
    have c32 := block_cell (i := 2) rC3 rfl
    have c33 := block_cell (i := 3) rC3 rfl
    have c34 := block_cell (i := 4) rC3 rfl
    have c35 := block_cell (i := 5) rC3 rfl
    clear rA2 rB2 rC2
    go_wp2_with fail
    refine (H23.out _).mono ?_
    rintro e w4 ⟨rfl, hb4⟩
    have hB4 := hB3.trans (hb4.mono hB3.size)
    have rA4 := block_below rA3 hb4
    have rB4 := block_below rB3 hb4
    have rC4 := block_below rC3 hb4
    have a40 := block_cell (i := 0) rA4 rfl
    have a41 := block_cell (i := 1) rA4 rfl
    have a42 := block_cell (i := 2) rA4 rfl
    have a43 := block_cell (i := 3) rA4 rfl
    have a44 := block_cell (i := 4) rA4 rfl
    have a45 := block_cell (i := 5) rA4 rfl
    have c40 := block_cell (i := 0) rC4 rfl
    have c41 := block_cell (i := 1) rC4 rfl
    have c42 := block_cell (i := 2) rC4 rfl
    have c43 := block_cell (i := 3) rC4 rfl
    have c44 := block_cell (i := 4) rC4 rfl
    have c45 := block_cell (i := 5) rC4 rfl
    clear rA3 rB3 rC3
    go_wp2_with fail
    refine (H13.out _).mono ?_
    rintro e w5 ⟨rfl, hb5⟩
    have hB5 := hB4.trans (hb5.mono hB4.size)
    have rA5 := block_below rA4 hb5
    have rB5 := block_below rB4 hb5
    have rC5 := block_below rC4 hb5
    have a50 := block_cell (i := 0) rA5 rfl
    have a51 := block_cell (i := 1) rA5 rfl
    have a52 := block_cell (i := 2) rA5 rfl
    have a53 := block_cell (i := 3) rA5 rfl
    have a54 := block_cell (i := 4) rA5 rfl
    have a55 := block_cell (i := 5) rA5 rfl
    have b50 := block_cell (i := 0) rB5 rfl
    have b51 := block_cell (i := 1) rB5 rfl
    have b52 := block_cell (i := 2) rB5 rfl
    have b53 := block_cell (i := 3) rB5 rfl
    have b54 := block_cell (i := 4) rB5 rfl
    have b55 := block_cell (i := 5) rB5 rfl
    clear rA4 rB4 rC4
    go_wp2_with fail
    refine (HE.out _).mono ?_
    rintro e w6 ⟨rfl, hb6⟩
    have hB6 := hB5.trans (hb6.mono hB5.size)
    have rA6 := block_below rA5 hb6
    have rB6 := block_below rB5 hb6
    have rC6 := block_below rC5 hb6
    have a60 := block_cell (i := 0) rA6 rfl
    have a61 := block_cell (i := 1) rA6 rfl
    have a62 := block_cell (i := 2) rA6 rfl
    have a63 := block_cell (i := 3) rA6 rfl
    have a64 := block_cell (i := 4) rA6 rfl
    have a65 := block_cell (i := 5) rA6 rfl
    have b60 := block_cell (i := 0) rB6 rfl
    have b61 := block_cell (i := 1) rB6 rfl
    have b62 := block_cell (i := 2) rB6 rfl
    have b63 := block_cell (i := 3) rB6 rfl
    have b64 := block_cell (i := 4) rB6 rfl
    have b65 := block_cell (i := 5) rB6 rfl
    clear rA5 rB5 rC5
    go_wp2_with fail
    refine (H21.out _).mono ?_
    rintro e w7 ⟨rfl, hb7⟩
    have hB7 := hB6.trans (hb7.mono hB6.size)
    have rA7 := block_below rA6 hb7
    have rB7 := block_below rB6 hb7
    have rC7 := block_below rC6 hb7
    clear rA6 rB6 rC6
    go_upto_region 13 with fail
    go_cut [125] from 82 to 125 (fun v wx => v = .bool false ∧ wx = w7)
    case first =>
      obtain ⟨htr, hor⟩ := HORD.out
      clear HORD HE H11 H12 H13 H21 H23 hG
      rcases hor with ⟨rfl, rfl, rfl⟩ | ⟨rfl, rfl, rfl⟩ | ⟨rfl, rfl, rfl⟩ <;> cases b2 <;> cases b3
      all_goals first
        | (exact absurd (htr rfl rfl) (by decide))
        | (clear htr
           go_wp2_with fail
           go_meet
           exact ⟨rfl, rfl⟩)
    case rest =>
      obtain ⟨rfl, rfl⟩ := hcut
      have a80 := block_cell (i := 0) rA7 rfl
      have a81 := block_cell (i := 1) rA7 rfl
      have a82 := block_cell (i := 2) rA7 rfl
      have a83 := block_cell (i := 3) rA7 rfl
      have a84 := block_cell (i := 4) rA7 rfl
      have a85 := block_cell (i := 5) rA7 rfl
      have b80 := block_cell (i := 0) rB7 rfl
      have b81 := block_cell (i := 1) rB7 rfl
      have b82 := block_cell (i := 2) rB7 rfl
      have b83 := block_cell (i := 3) rB7 rfl
      have b84 := block_cell (i := 4) rB7 rfl
      have b85 := block_cell (i := 5) rB7 rfl
      by_cases hs : a.size + b.size ≤ 1024
      · have HK := Lib.hid (fun W => reckon_str_ok a b HSZ.out.1 HSZ.out.2 hs W)
        have wr : wrap64 ((a.size : Int) + (b.size : Int)) = (a.size : Int) + (b.size : Int) := by have h1 := HSZ.out.1; have h2 := HSZ.out.2; unfold wrap64; omega
        have ls : decide ((1024 : Int) < (a.size : Int) + (b.size : Int)) = false := by simp; omega
        go_wp2_with fail
        refine (HK.out _).mono ?_
        rintro e w8 ⟨rfl, hb8⟩
        have hB8 := hB7.trans (hb8.mono hB7.size)
        have hz8 := hB8.size
        go_wp2_with fail
        go_ret
        exact ⟨rfl, (by (repeat' (first | (with_reducible exact Below.refl _ _) | (with_reducible assumption) | (with_reducible refine below_drewN ?_ _) | (with_reducible refine Below.drew ?_) | (with_reducible refine Below.alloc ?_ ?_ _) | (with_reducible refine Below.setCell ?_ ?_ _) | omega | (simp; done) | (simp; omega))))⟩
      · have HK := Lib.hid (fun W => reckon_str_long a b HSZ.out.1 HSZ.out.2 (by omega) W)
        have wr : wrap64 ((a.size : Int) + (b.size : Int)) = (a.size : Int) + (b.size : Int) := by have h1 := HSZ.out.1; have h2 := HSZ.out.2; unfold wrap64; omega
        have ls : decide ((1024 : Int) < (a.size : Int) + (b.size : Int)) = true := by simp; omega
        go_wp2_with fail
        refine (HK.out _).mono ?_
        rintro e w8 ⟨rfl, hb8⟩
        have hB8 := hB7.trans (hb8.mono hB7.size)
        have hz8 := hB8.size
        go_wp2_with fail
        go_ret
        exact ⟨rfl, (by (repeat' (first | (with_reducible exact Below.refl _ _) | (with_reducible assumption) | (with_reducible refine below_drewN ?_ _) | (with_reducible refine Below.drew ?_) | (with_reducible refine Below.alloc ?_ ?_ _) | (with_reducible refine Below.setCell ?_ ?_ _) | omega | (simp; done) | (simp; omega))))⟩
  · have hcc : decide ((1024 : Int) < (a.size : Int)) = true ∨ (decide ((1024 : Int) < (a.size : Int)) = false ∧ decide ((1024 : Int) < (b.size : Int)) = true) ∨ (decide ((1024 : Int) < (a.size : Int)) = false ∧ decide ((1024 : Int) < (b.size : Int)) = false ∧ decide ((1024 : Int) < (c.size : Int)) = true) := by
      simp only [decide_eq_true_eq, decide_eq_false_iff_not]
      omega
    rcases hcc with h1 | ⟨h1, h2⟩ | ⟨h1, h2, h3⟩
    all_goals
      go_enter Tryz.func7, Tryz.ntmps7
      go_wp2_with fail
      refine (shown_any hG).mono ?_
      rintro e w1 ⟨rfl, hb1⟩
      go_wp2_with fail
      go_ret
      exact ⟨rfl, hb1⟩
end Go.Proofs.YtdpnknlpkjablaaGreatDoor
