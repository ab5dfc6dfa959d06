/- right of null, functions and bools. -/
import Derived.Test.YthefajkihnlgfaaGreatDoorM19
namespace Go.Proofs.YthefajkihnlgfaaGreatDoor
open Go.RowKit Go.Shelf
attribute [local go_sem] run_bits64 run_frombits64 store_flt
set_option maxHeartbeats 4000000 in
set_option maxRecDepth 100000 in
theorem right_0 {d : Nat} (n : Int) (x : Nat) (t : ByteArray) (ns : List ByteArray) (is : List V) {r f : Value} {w : World} (deep : Nat) (h : VI (d + 1) w (.mk 0 n x t ns is) r f) :
    Calls Tryz.prog 26 #[.agg #[.int .i64 0, .int .i64 n, .float .f64 x, .string t, r, f], .int .i64 (deep : Int)] w fun e w' => e = .returned (.bool (rightP (d + 1) deep (.mk 0 n x t ns is))) ∧ Below w.heap.size w w' := by
  obtain ⟨ra, rc, a, cap, rfl, rfl, hbd, hts⟩ := h.shape
  simp only [V.names, V.items, V.text] at hbd hts ⊢
  clear h
  have HR : Hid (rightP (d + 1) deep (.mk 0 n x t ns is) = (decide (n = 0) && decide (x = 0) && decide (t.size = 0) && decide (ns.length = 0) && decide (is.length = 0))) := Lib.hid (by first | rfl | (unfold rightP; rfl))
  generalize rightP (d + 1) deep (.mk 0 n x t ns is) = R at *
  generalize ns.length = nn at *
  generalize is.length = ni at *
  by_cases hn0 : n = 0
  · subst hn0
    by_cases hx0 : x = 0
    · subst hx0
      by_cases ht0 : t = ⟨#[]⟩
      · subst ht0
        by_cases hnn : nn = 0
        · subst hnn
          by_cases hni : ni = 0
          · subst hni
            have HR2 : Hid (R = true) := Lib.hid (by rw [HR.out]; first | rfl | (simp []; done) | (simp []; rfl))
            clear HR
            go_enter Tryz.func26, Tryz.ntmps26
            go_wp2_with fail
            go_quiet (fail)
            go_wp2_with fail
            go_ret
            exact ⟨by rw [HR2.out]; rfl, (by (repeat' (first | (with_reducible exact Below.refl _ _) | (with_reducible assumption) | (with_reducible refine below_drewN ?_ _) | (with_reducible refine Below.drew ?_) | (with_reducible refine Below.alloc ?_ ?_ _) | (with_reducible refine Below.setCell ?_ ?_ _) | omega | (simp; done) | (simp; omega))))⟩
          · have hnb : ((ni : Int) == 0) = false := by simp [hni]
            have HR2 : Hid (R = false) := Lib.hid (by rw [HR.out]; first | rfl | (simp [hni]; done) | (simp [hni]; rfl))
            clear HR
            go_enter Tryz.func26, Tryz.ntmps26
            go_wp2_with fail
            go_quiet (fail)
            go_wp2_with fail
            go_ret
            exact ⟨by rw [HR2.out]; rfl, (by (repeat' (first | (with_reducible exact Below.refl _ _) | (with_reducible assumption) | (with_reducible refine below_drewN ?_ _) | (with_reducible refine Below.drew ?_) | (with_reducible refine Below.alloc ?_ ?_ _) | (with_reducible refine Below.setCell ?_ ?_ _) | omega | (simp; done) | (simp; omega))))⟩
        · have hnb : ((nn : Int) == 0) = false := by simp [hnn]
          have HR2 : Hid (R = false) := Lib.hid (by rw [HR.out]; first | rfl | (simp [hnn]; done) | (simp [hnn]; rfl))
          clear HR
          go_enter Tryz.func26, Tryz.ntmps26
          go_wp2_with fail
          go_quiet (fail)
          go_wp2_with fail
          go_ret
          exact ⟨by rw [HR2.out]; rfl, (by (repeat' (first | (with_reducible exact Below.refl _ _) | (with_reducible assumption) | (with_reducible refine below_drewN ?_ _) | (with_reducible refine Below.drew ?_) | (with_reducible refine Below.alloc ?_ ?_ _) | (with_reducible refine Below.setCell ?_ ?_ _) | omega | (simp; done) | (simp; omega))))⟩
      · have hsz := size_ne ht0
        have c3 := toList_ne ht0
        have HR2 : Hid (R = false) := Lib.hid (by rw [HR.out]; first | rfl | (simp [hsz]; done) | (simp [hsz]; rfl))
        clear HR
        go_enter Tryz.func26, Tryz.ntmps26
        go_wp2_with fail
        go_quiet (fail)
        go_wp2_with fail
        go_ret
        exact ⟨by rw [HR2.out]; rfl, (by (repeat' (first | (with_reducible exact Below.refl _ _) | (with_reducible assumption) | (with_reducible refine below_drewN ?_ _) | (with_reducible refine Below.drew ?_) | (with_reducible refine Below.alloc ?_ ?_ _) | (with_reducible refine Below.setCell ?_ ?_ _) | omega | (simp; done) | (simp; omega))))⟩
    · have c2 : ((0 : Int) != (x : Int)) = true := by simp; omega
      have HR2 : Hid (R = false) := Lib.hid (by rw [HR.out]; first | rfl | (simp [hx0]; done) | (simp [hx0]; rfl))
      clear HR
      go_enter Tryz.func26, Tryz.ntmps26
      go_wp2_with fail
      go_quiet (fail)
      go_wp2_with fail
      go_ret
      exact ⟨by rw [HR2.out]; rfl, (by (repeat' (first | (with_reducible exact Below.refl _ _) | (with_reducible assumption) | (with_reducible refine below_drewN ?_ _) | (with_reducible refine Below.drew ?_) | (with_reducible refine Below.alloc ?_ ?_ _) | (with_reducible refine Below.setCell ?_ ?_ _) | omega | (simp; done) | (simp; omega))))⟩
  · have c1 : ((0 : Int) != n) = true := by simp; omega
    have HR2 : Hid (R = false) := Lib.hid (by rw [HR.out]; first | rfl | (simp [hn0]; done) | (simp [hn0]; rfl))
    clear HR
    go_enter Tryz.func26, Tryz.ntmps26
    go_wp2_with fail
    go_quiet (fail)
    go_wp2_with fail
    go_ret
    exact ⟨by rw [HR2.out]; rfl, (by (repeat' (first | (with_reducible exact Below.refl _ _) | (with_reducible assumption) | (with_reducible refine below_drewN ?_ _) | (with_reducible refine Below.drew ?_) | (with_reducible refine Below.alloc ?_ ?_ _) | (with_reducible refine Below.setCell ?_ ?_ _) | omega | (simp; done) | (simp; omega))))⟩
set_option maxHeartbeats 4000000 in
set_option maxRecDepth 100000 in
theorem right_7 {d : Nat} (n : Int) (x : Nat) (t : ByteArray) (ns : List ByteArray) (is : List V) {r f : Value} {w : World} (deep : Nat) (h : VI (d + 1) w (.mk 7 n x t ns is) r f) :
    Calls Tryz.prog 26 #[.agg #[.int .i64 7, .int .i64 n, .float .f64 x, .string t, r, f], .int .i64 (deep : Int)] w fun e w' => e = .returned (.bool (rightP (d + 1) deep (.mk 7 n x t ns is))) ∧ Below w.heap.size w w' := by
  obtain ⟨ra, rc, a, cap, rfl, rfl, hbd, hts⟩ := h.shape
  simp only [V.names, V.items, V.text] at hbd hts ⊢
  clear h
  have HR : Hid (rightP (d + 1) deep (.mk 7 n x t ns is) = (decide (n = 0) && decide (x = 0) && decide (t.size = 0) && decide (ns.length = 0) && decide (is.length = 0))) := Lib.hid (by first | rfl | (unfold rightP; rfl))
  generalize rightP (d + 1) deep (.mk 7 n x t ns is) = R at *
  generalize ns.length = nn at *
  generalize is.length = ni at *
  by_cases hn0 : n = 0
  · subst hn0
    by_cases hx0 : x = 0
    · subst hx0
      by_cases ht0 : t = ⟨#[]⟩
      · subst ht0
        by_cases hnn : nn = 0
        · subst hnn
          by_cases hni : ni = 0
          · subst hni
            have HR2 : Hid (R = true) := Lib.hid (by rw [HR.out]; first | rfl | (simp []; done) | (simp []; rfl))
            clear HR
            go_enter Tryz.func26, Tryz.ntmps26
            go_wp2_with fail
            go_quiet (fail)
            go_wp2_with fail
            go_ret
            exact ⟨by rw [HR2.out]; rfl, (by (repeat' (first | (with_reducible exact Below.refl _ _) | (with_reducible assumption) | (with_reducible refine below_drewN ?_ _) | (with_reducible refine Below.drew ?_) | (with_reducible refine Below.alloc ?_ ?_ _) | (with_reducible refine Below.setCell ?_ ?_ _) | omega | (simp; done) | (simp; omega))))⟩
          · have hnb : ((ni : Int) == 0) = false := by simp [hni]
            have HR2 : Hid (R = false) := Lib.hid (by rw [HR.out]; first | rfl | (simp [hni]; done) | (simp [hni]; rfl))
            clear HR
            go_enter Tryz.func26, Tryz.ntmps26
            go_wp2_with fail
            go_quiet (fail)
            go_wp2_with fail
            go_ret
            exact ⟨by rw [HR2.out]; rfl, (by (repeat' (first | (with_reducible exact Below.refl _ _) | (with_reducible assumption) | (with_reducible refine below_drewN ?_ _) | (with_reducible refine Below.drew ?_) | (with_reducible refine Below.alloc ?_ ?_ _) | (with_reducible refine Below.setCell ?_ ?_ _) | omega | (simp; done) | (simp; omega))))⟩
        · have hnb : ((nn : Int) == 0) = false := by simp [hnn]
          have HR2 : Hid (R = false) := Lib.hid (by rw [HR.out]; first | rfl | (simp [hnn]; done) | (simp [hnn]; rfl))
          clear HR
          go_enter Tryz.func26, Tryz.ntmps26
          go_wp2_with fail
          go_quiet (fail)
          go_wp2_with fail
          go_ret
          exact ⟨by rw [HR2.out]; rfl, (by (repeat' (first | (with_reducible exact Below.refl _ _) | (with_reducible assumption) | (with_reducible refine below_drewN ?_ _) | (with_reducible refine Below.drew ?_) | (with_reducible refine Below.alloc ?_ ?_ _) | (with_reducible refine Below.setCell ?_ ?_ _) | omega | (simp; done) | (simp; omega))))⟩
      · have hsz := size_ne ht0
        have c3 := toList_ne ht0
        have HR2 : Hid (R = false) := Lib.hid (by rw [HR.out]; first | rfl | (simp [hsz]; done) | (simp [hsz]; rfl))
        clear HR
        go_enter Tryz.func26, Tryz.ntmps26
        go_wp2_with fail
        go_quiet (fail)
        go_wp2_with fail
        go_ret
        exact ⟨by rw [HR2.out]; rfl, (by (repeat' (first | (with_reducible exact Below.refl _ _) | (with_reducible assumption) | (with_reducible refine below_drewN ?_ _) | (with_reducible refine Below.drew ?_) | (with_reducible refine Below.alloc ?_ ?_ _) | (with_reducible refine Below.setCell ?_ ?_ _) | omega | (simp; done) | (simp; omega))))⟩
    · have c2 : ((0 : Int) != (x : Int)) = true := by simp; omega
      have HR2 : Hid (R = false) := Lib.hid (by rw [HR.out]; first | rfl | (simp [hx0]; done) | (simp [hx0]; rfl))
      clear HR
      go_enter Tryz.func26, Tryz.ntmps26
      go_wp2_with fail
      go_quiet (fail)
      go_wp2_with fail
      go_ret
      exact ⟨by rw [HR2.out]; rfl, (by (repeat' (first | (with_reducible exact Below.refl _ _) | (with_reducible assumption) | (with_reducible refine below_drewN ?_ _) | (with_reducible refine Below.drew ?_) | (with_reducible refine Below.alloc ?_ ?_ _) | (with_reducible refine Below.setCell ?_ ?_ _) | omega | (simp; done) | (simp; omega))))⟩
  · have c1 : ((0 : Int) != n) = true := by simp; omega
    have HR2 : Hid (R = false) := Lib.hid (by rw [HR.out]; first | rfl | (simp [hn0]; done) | (simp [hn0]; rfl))
    clear HR
    go_enter Tryz.func26, Tryz.ntmps26
    go_wp2_with fail
    go_quiet (fail)
    go_wp2_with fail
    go_ret
    exact ⟨by rw [HR2.out]; rfl, (by (repeat' (first | (with_reducible exact Below.refl _ _) | (with_reducible assumption) | (with_reducible refine below_drewN ?_ _) | (with_reducible refine Below.drew ?_) | (with_reducible refine Below.alloc ?_ ?_ _) | (with_reducible refine Below.setCell ?_ ?_ _) | omega | (simp; done) | (simp; omega))))⟩
set_option maxHeartbeats 4000000 in
set_option maxRecDepth 100000 in
theorem right_1 {d : Nat} (n : Int) (x : Nat) (t : ByteArray) (ns : List ByteArray) (is : List V) {r f : Value} {w : World} (deep : Nat) (h : VI (d + 1) w (.mk 1 n x t ns is) r f) :
    Calls Tryz.prog 26 #[.agg #[.int .i64 1, .int .i64 n, .float .f64 x, .string t, r, f], .int .i64 (deep : Int)] w fun e w' => e = .returned (.bool (rightP (d + 1) deep (.mk 1 n x t ns is))) ∧ Below w.heap.size w w' := by
  obtain ⟨ra, rc, a, cap, rfl, rfl, hbd, hts⟩ := h.shape
  simp only [V.names, V.items, V.text] at hbd hts ⊢
  clear h
  have HR : Hid (rightP (d + 1) deep (.mk 1 n x t ns is) = ((decide (n = 0) || decide (n = 1)) && decide (x = 0) && decide (t.size = 0) && decide (ns.length = 0) && decide (is.length = 0))) := Lib.hid (by first | rfl | (unfold rightP; rfl))
  generalize rightP (d + 1) deep (.mk 1 n x t ns is) = R at *
  generalize ns.length = nn at *
  generalize is.length = ni at *
  by_cases hb0 : n = 0
  · subst hb0
    by_cases hx0 : x = 0
    · subst hx0
      by_cases ht0 : t = ⟨#[]⟩
      · subst ht0
        by_cases hnn : nn = 0
        · subst hnn
          by_cases hni : ni = 0
          · subst hni
            have HR2 : Hid (R = true) := Lib.hid (by rw [HR.out]; first | rfl | (simp []; done) | (simp []; rfl))
            clear HR
            go_enter Tryz.func26, Tryz.ntmps26
            go_wp2_with fail
            go_quiet (fail)
            go_wp2_with fail
            go_ret
            exact ⟨by rw [HR2.out]; rfl, (by (repeat' (first | (with_reducible exact Below.refl _ _) | (with_reducible assumption) | (with_reducible refine below_drewN ?_ _) | (with_reducible refine Below.drew ?_) | (with_reducible refine Below.alloc ?_ ?_ _) | (with_reducible refine Below.setCell ?_ ?_ _) | omega | (simp; done) | (simp; omega))))⟩
          · have hnb : ((ni : Int) == 0) = false := by simp [hni]
            have HR2 : Hid (R = false) := Lib.hid (by rw [HR.out]; first | rfl | (simp [hni]; done) | (simp [hni]; rfl))
            clear HR
            go_enter Tryz.func26, Tryz.ntmps26
            go_wp2_with fail
            go_quiet (fail)
            go_wp2_with fail
            go_ret
            exact ⟨by rw [HR2.out]; rfl, (by (repeat' (first | (with_reducible exact Below.refl _ _) | (with_reducible assumption) | (with_reducible refine below_drewN ?_ _) | (with_reducible refine Below.drew ?_) | (with_reducible refine Below.alloc ?_ ?_ _) | (with_reducible refine Below.setCell ?_ ?_ _) | omega | (simp; done) | (simp; omega))))⟩
        · have hnb : ((nn : Int) == 0) = false := by simp [hnn]
          have HR2 : Hid (R = false) := Lib.hid (by rw [HR.out]; first | rfl | (simp [hnn]; done) | (simp [hnn]; rfl))
          clear HR
          go_enter Tryz.func26, Tryz.ntmps26
          go_wp2_with fail
          go_quiet (fail)
          go_wp2_with fail
          go_ret
          exact ⟨by rw [HR2.out]; rfl, (by (repeat' (first | (with_reducible exact Below.refl _ _) | (with_reducible assumption) | (with_reducible refine below_drewN ?_ _) | (with_reducible refine Below.drew ?_) | (with_reducible refine Below.alloc ?_ ?_ _) | (with_reducible refine Below.setCell ?_ ?_ _) | omega | (simp; done) | (simp; omega))))⟩
      · have hsz := size_ne ht0
        have c3 := toList_ne ht0
        have HR2 : Hid (R = false) := Lib.hid (by rw [HR.out]; first | rfl | (simp [hsz]; done) | (simp [hsz]; rfl))
        clear HR
        go_enter Tryz.func26, Tryz.ntmps26
        go_wp2_with fail
        go_quiet (fail)
        go_wp2_with fail
        go_ret
        exact ⟨by rw [HR2.out]; rfl, (by (repeat' (first | (with_reducible exact Below.refl _ _) | (with_reducible assumption) | (with_reducible refine below_drewN ?_ _) | (with_reducible refine Below.drew ?_) | (with_reducible refine Below.alloc ?_ ?_ _) | (with_reducible refine Below.setCell ?_ ?_ _) | omega | (simp; done) | (simp; omega))))⟩
    · have c2 : ((0 : Int) != (x : Int)) = true := by simp; omega
      have HR2 : Hid (R = false) := Lib.hid (by rw [HR.out]; first | rfl | (simp [hx0]; done) | (simp [hx0]; rfl))
      clear HR
      go_enter Tryz.func26, Tryz.ntmps26
      go_wp2_with fail
      go_quiet (fail)
      go_wp2_with fail
      go_ret
      exact ⟨by rw [HR2.out]; rfl, (by (repeat' (first | (with_reducible exact Below.refl _ _) | (with_reducible assumption) | (with_reducible refine below_drewN ?_ _) | (with_reducible refine Below.drew ?_) | (with_reducible refine Below.alloc ?_ ?_ _) | (with_reducible refine Below.setCell ?_ ?_ _) | omega | (simp; done) | (simp; omega))))⟩
  · by_cases hb1 : n = 1
    · subst hb1
      by_cases hx0 : x = 0
      · subst hx0
        by_cases ht0 : t = ⟨#[]⟩
        · subst ht0
          by_cases hnn : nn = 0
          · subst hnn
            by_cases hni : ni = 0
            · subst hni
              have HR2 : Hid (R = true) := Lib.hid (by rw [HR.out]; first | rfl | (simp []; done) | (simp []; rfl))
              clear HR
              go_enter Tryz.func26, Tryz.ntmps26
              go_wp2_with fail
              go_quiet (fail)
              go_wp2_with fail
              go_ret
              exact ⟨by rw [HR2.out]; rfl, (by (repeat' (first | (with_reducible exact Below.refl _ _) | (with_reducible assumption) | (with_reducible refine below_drewN ?_ _) | (with_reducible refine Below.drew ?_) | (with_reducible refine Below.alloc ?_ ?_ _) | (with_reducible refine Below.setCell ?_ ?_ _) | omega | (simp; done) | (simp; omega))))⟩
            · have hnb : ((ni : Int) == 0) = false := by simp [hni]
              have HR2 : Hid (R = false) := Lib.hid (by rw [HR.out]; first | rfl | (simp [hni]; done) | (simp [hni]; rfl))
              clear HR
              go_enter Tryz.func26, Tryz.ntmps26
              go_wp2_with fail
              go_quiet (fail)
              go_wp2_with fail
              go_ret
              exact ⟨by rw [HR2.out]; rfl, (by (repeat' (first | (with_reducible exact Below.refl _ _) | (with_reducible assumption) | (with_reducible refine below_drewN ?_ _) | (with_reducible refine Below.drew ?_) | (with_reducible refine Below.alloc ?_ ?_ _) | (with_reducible refine Below.setCell ?_ ?_ _) | omega | (simp; done) | (simp; omega))))⟩
          · have hnb : ((nn : Int) == 0) = false := by simp [hnn]
            have HR2 : Hid (R = false) := Lib.hid (by rw [HR.out]; first | rfl | (simp [hnn]; done) | (simp [hnn]; rfl))
            clear HR
            go_enter Tryz.func26, Tryz.ntmps26
            go_wp2_with fail
            go_quiet (fail)
            go_wp2_with fail
            go_ret
            exact ⟨by rw [HR2.out]; rfl, (by (repeat' (first | (with_reducible exact Below.refl _ _) | (with_reducible assumption) | (with_reducible refine below_drewN ?_ _) | (with_reducible refine Below.drew ?_) | (with_reducible refine Below.alloc ?_ ?_ _) | (with_reducible refine Below.setCell ?_ ?_ _) | omega | (simp; done) | (simp; omega))))⟩
        · have hsz := size_ne ht0
          have c3 := toList_ne ht0
          have HR2 : Hid (R = false) := Lib.hid (by rw [HR.out]; first | rfl | (simp [hsz]; done) | (simp [hsz]; rfl))
          clear HR
          go_enter Tryz.func26, Tryz.ntmps26
          go_wp2_with fail
          go_quiet (fail)
          go_wp2_with fail
          go_ret
          exact ⟨by rw [HR2.out]; rfl, (by (repeat' (first | (with_reducible exact Below.refl _ _) | (with_reducible assumption) | (with_reducible refine below_drewN ?_ _) | (with_reducible refine Below.drew ?_) | (with_reducible refine Below.alloc ?_ ?_ _) | (with_reducible refine Below.setCell ?_ ?_ _) | omega | (simp; done) | (simp; omega))))⟩
      · have c2 : ((0 : Int) != (x : Int)) = true := by simp; omega
        have HR2 : Hid (R = false) := Lib.hid (by rw [HR.out]; first | rfl | (simp [hx0]; done) | (simp [hx0]; rfl))
        clear HR
        go_enter Tryz.func26, Tryz.ntmps26
        go_wp2_with fail
        go_quiet (fail)
        go_wp2_with fail
        go_ret
        exact ⟨by rw [HR2.out]; rfl, (by (repeat' (first | (with_reducible exact Below.refl _ _) | (with_reducible assumption) | (with_reducible refine below_drewN ?_ _) | (with_reducible refine Below.drew ?_) | (with_reducible refine Below.alloc ?_ ?_ _) | (with_reducible refine Below.setCell ?_ ?_ _) | omega | (simp; done) | (simp; omega))))⟩
    · have g0 : (n != 0) = true := by simp [hb0]
      have g1 : (n != 1) = true := by simp [hb1]
      have HR2 : Hid (R = false) := Lib.hid (by rw [HR.out]; first | rfl | (simp [hb0, hb1]; done) | (simp [hb0, hb1]; rfl))
      clear HR
      go_enter Tryz.func26, Tryz.ntmps26
      go_wp2_with fail
      go_ret
      exact ⟨by rw [HR2.out]; rfl, (by (repeat' (first | (with_reducible exact Below.refl _ _) | (with_reducible assumption) | (with_reducible refine below_drewN ?_ _) | (with_reducible refine Below.drew ?_) | (with_reducible refine Below.alloc ?_ ?_ _) | (with_reducible refine Below.setCell ?_ ?_ _) | omega | (simp; done) | (simp; omega))))⟩
end Go.Proofs.YthefajkihnlgfaaGreatDoor

