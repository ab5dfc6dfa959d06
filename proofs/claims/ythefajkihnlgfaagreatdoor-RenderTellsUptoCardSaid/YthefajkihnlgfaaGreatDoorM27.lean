/- right of ints, floats and strings. -/
import Derived.Test.YthefajkihnlgfaaGreatDoorM19
import Derived.Test.YthefajkihnlgfaaGreatDoorVRa
import Derived.Test.YthefajkihnlgfaaGreatDoorVRl
namespace Go.Proofs.YthefajkihnlgfaaGreatDoor
open Go.RowKit Go.Shelf
attribute [local go_sem] run_bits64 run_frombits64 store_flt
set_option maxHeartbeats 4000000 in
set_option maxRecDepth 100000 in
theorem right_2 {d : Nat} (n : Int) (x : Nat) (t : ByteArray) (ns : List ByteArray) (is : List V) {r f : Value} {w : World} (deep : Nat) (h : VI (d + 1) w (.mk 2 n x t ns is) r f) :
    Calls Tryz.prog 26 #[.agg #[.int .i64 2, .int .i64 n, .float .f64 x, .string t, r, f], .int .i64 (deep : Int)] w fun e w' => e = .returned (.bool (rightP (d + 1) deep (.mk 2 n x t ns is))) ∧ Below w.heap.size w w' := by
  obtain ⟨ra, rc, a, cap, rfl, rfl, hbd, hts⟩ := h.shape
  simp only [V.names, V.items, V.text] at hbd hts ⊢
  clear h
  have HR : Hid (rightP (d + 1) deep (.mk 2 n x t ns is) = (decide (x = 0) && decide (t.size = 0) && decide (ns.length = 0) && decide (is.length = 0))) := Lib.hid (by first | rfl | (unfold rightP; rfl))
  generalize rightP (d + 1) deep (.mk 2 n x t ns is) = R at *
  generalize ns.length = nn at *
  generalize is.length = ni at *
  have c1 : (n != n) = false := by simp
  by_cases hx0 : x = 0
  · subst hx0
    by_cases ht0 : t = ⟨#[]⟩
    · subst ht0
      by_cases hnn : nn = 0
      · subst hnn
        by_cases hni : ni = 0
        · subst hni
          have HR2 : Hid (R = true) := Lib.hid (by rw [HR.out]; first | rfl | (simp []; done) | (simp []; rfl))
          clear HR
          go_enter Tryz.func26, Tryz.ntmps26
          go_wp2_with fail
          go_quiet (fail)
          go_wp2_with fail
          go_ret
          exact ⟨by rw [HR2.out]; rfl, (by (repeat' (first | (with_reducible exact Below.refl _ _) | (with_reducible assumption) | (with_reducible refine below_drewN ?_ _) | (with_reducible refine Below.drew ?_) | (with_reducible refine Below.alloc ?_ ?_ _) | (with_reducible refine Below.setCell ?_ ?_ _) | omega | (simp; done) | (simp; omega))))⟩
        · have hnb : ((ni : Int) == 0) = false := by simp [hni]
          have HR2 : Hid (R = false) := Lib.hid (by rw [HR.out]; first | rfl | (simp [hni]; done) | (simp [hni]; rfl))
          clear HR
          go_enter Tryz.func26, Tryz.ntmps26
          go_wp2_with fail
          go_quiet (fail)
          go_wp2_with fail
          go_ret
          exact ⟨by rw [HR2.out]; rfl, (by (repeat' (first | (with_reducible exact Below.refl _ _) | (with_reducible assumption) | (with_reducible refine below_drewN ?_ _) | (with_reducible refine Below.drew ?_) | (with_reducible refine Below.alloc ?_ ?_ _) | (with_reducible refine Below.setCell ?_ ?_ _) | omega | (simp; done) | (simp; omega))))⟩
      · have hnb : ((nn : Int) == 0) = false := by simp [hnn]
        have HR2 : Hid (R = false) := Lib.hid (by rw [HR.out]; first | rfl | (simp [hnn]; done) | (simp [hnn]; rfl))
        clear HR
        go_enter Tryz.func26, Tryz.ntmps26
        go_wp2_with fail
        go_quiet (fail)
        go_wp2_with fail
        go_ret
        exact ⟨by rw [HR2.out]; rfl, (by (repeat' (first | (with_reducible exact Below.refl _ _) | (with_reducible assumption) | (with_reducible refine below_drewN ?_ _) | (with_reducible refine Below.drew ?_) | (with_reducible refine Below.alloc ?_ ?_ _) | (with_reducible refine Below.setCell ?_ ?_ _) | omega | (simp; done) | (simp; omega))))⟩
    · have hsz := size_ne ht0
      have c3 := toList_ne ht0
      have HR2 : Hid (R = false) := Lib.hid (by rw [HR.out]; first | rfl | (simp [hsz]; done) | (simp [hsz]; rfl))
      clear HR
      go_enter Tryz.func26, Tryz.ntmps26
      go_wp2_with fail
      go_quiet (fail)
      go_wp2_with fail
      go_ret
      exact ⟨by rw [HR2.out]; rfl, (by (repeat' (first | (with_reducible exact Below.refl _ _) | (with_reducible assumption) | (with_reducible refine below_drewN ?_ _) | (with_reducible refine Below.drew ?_) | (with_reducible refine Below.alloc ?_ ?_ _) | (with_reducible refine Below.setCell ?_ ?_ _) | omega | (simp; done) | (simp; omega))))⟩
  · have c2 : ((0 : Int) != (x : Int)) = true := by simp; omega
    have HR2 : Hid (R = false) := Lib.hid (by rw [HR.out]; first | rfl | (simp [hx0]; done) | (simp [hx0]; rfl))
    clear HR
    go_enter Tryz.func26, Tryz.ntmps26
    go_wp2_with fail
    go_quiet (fail)
    go_wp2_with fail
    go_ret
    exact ⟨by rw [HR2.out]; rfl, (by (repeat' (first | (with_reducible exact Below.refl _ _) | (with_reducible assumption) | (with_reducible refine below_drewN ?_ _) | (with_reducible refine Below.drew ?_) | (with_reducible refine Below.alloc ?_ ?_ _) | (with_reducible refine Below.setCell ?_ ?_ _) | omega | (simp; done) | (simp; omega))))⟩
set_option maxHeartbeats 4000000 in
set_option maxRecDepth 100000 in
theorem right_3 {d : Nat} (n : Int) (x : Nat) (t : ByteArray) (ns : List ByteArray) (is : List V) {r f : Value} {w : World} (deep : Nat) (h : VI (d + 1) w (.mk 3 n x t ns is) r f) :
    Calls Tryz.prog 26 #[.agg #[.int .i64 3, .int .i64 n, .float .f64 x, .string t, r, f], .int .i64 (deep : Int)] w fun e w' => e = .returned (.bool (rightP (d + 1) deep (.mk 3 n x t ns is))) ∧ Below w.heap.size w w' := by
  obtain ⟨ra, rc, a, cap, rfl, rfl, hbd, hts⟩ := h.shape
  simp only [V.names, V.items, V.text] at hbd hts ⊢
  clear h
  have HR : Hid (rightP (d + 1) deep (.mk 3 n x t ns is) = (decide (n = 0) && decide (t.size = 0) && decide (ns.length = 0) && decide (is.length = 0))) := Lib.hid (by first | rfl | (unfold rightP; rfl))
  generalize rightP (d + 1) deep (.mk 3 n x t ns is) = R at *
  generalize ns.length = nn at *
  generalize is.length = ni at *
  have c2 : ((x : Int) != (x : Int)) = false := by simp
  by_cases hn0 : n = 0
  · subst hn0
    by_cases ht0 : t = ⟨#[]⟩
    · subst ht0
      by_cases hnn : nn = 0
      · subst hnn
        by_cases hni : ni = 0
        · subst hni
          have HR2 : Hid (R = true) := Lib.hid (by rw [HR.out]; first | rfl | (simp []; done) | (simp []; rfl))
          clear HR
          go_enter Tryz.func26, Tryz.ntmps26
          go_wp2_with fail
          go_quiet (fail)
          go_wp2_with fail
          go_ret
          exact ⟨by rw [HR2.out]; rfl, (by (repeat' (first | (with_reducible exact Below.refl _ _) | (with_reducible assumption) | (with_reducible refine below_drewN ?_ _) | (with_reducible refine Below.drew ?_) | (with_reducible refine Below.alloc ?_ ?_ _) | (with_reducible refine Below.setCell ?_ ?_ _) | omega | (simp; done) | (simp; omega))))⟩
        · have hnb : ((ni : Int) == 0) = false := by simp [hni]
          have HR2 : Hid (R = false) := Lib.hid (by rw [HR.out]; first | rfl | (simp [hni]; done) | (simp [hni]; rfl))
          clear HR
          go_enter Tryz.func26, Tryz.ntmps26
          go_wp2_with fail
          go_quiet (fail)
          go_wp2_with fail
          go_ret
          exact ⟨by rw [HR2.out]; rfl, (by (repeat' (first | (with_reducible exact Below.refl _ _) | (with_reducible assumption) | (with_reducible refine below_drewN ?_ _) | (with_reducible refine Below.drew ?_) | (with_reducible refine Below.alloc ?_ ?_ _) | (with_reducible refine Below.setCell ?_ ?_ _) | omega | (simp; done) | (simp; omega))))⟩
      · have hnb : ((nn : Int) == 0) = false := by simp [hnn]
        have HR2 : Hid (R = false) := Lib.hid (by rw [HR.out]; first | rfl | (simp [hnn]; done) | (simp [hnn]; rfl))
        clear HR
        go_enter Tryz.func26, Tryz.ntmps26
        go_wp2_with fail
        go_quiet (fail)
        go_wp2_with fail
        go_ret
        exact ⟨by rw [HR2.out]; rfl, (by (repeat' (first | (with_reducible exact Below.refl _ _) | (with_reducible assumption) | (with_reducible refine below_drewN ?_ _) | (with_reducible refine Below.drew ?_) | (with_reducible refine Below.alloc ?_ ?_ _) | (with_reducible refine Below.setCell ?_ ?_ _) | omega | (simp; done) | (simp; omega))))⟩
    · have hsz := size_ne ht0
      have c3 := toList_ne ht0
      have HR2 : Hid (R = false) := Lib.hid (by rw [HR.out]; first | rfl | (simp [hsz]; done) | (simp [hsz]; rfl))
      clear HR
      go_enter Tryz.func26, Tryz.ntmps26
      go_wp2_with fail
      go_quiet (fail)
      go_wp2_with fail
      go_ret
      exact ⟨by rw [HR2.out]; rfl, (by (repeat' (first | (with_reducible exact Below.refl _ _) | (with_reducible assumption) | (with_reducible refine below_drewN ?_ _) | (with_reducible refine Below.drew ?_) | (with_reducible refine Below.alloc ?_ ?_ _) | (with_reducible refine Below.setCell ?_ ?_ _) | omega | (simp; done) | (simp; omega))))⟩
  · have c1 : ((0 : Int) != n) = true := by simp; omega
    have HR2 : Hid (R = false) := Lib.hid (by rw [HR.out]; first | rfl | (simp [hn0]; done) | (simp [hn0]; rfl))
    clear HR
    go_enter Tryz.func26, Tryz.ntmps26
    go_wp2_with fail
    go_quiet (fail)
    go_wp2_with fail
    go_ret
    exact ⟨by rw [HR2.out]; rfl, (by (repeat' (first | (with_reducible exact Below.refl _ _) | (with_reducible assumption) | (with_reducible refine below_drewN ?_ _) | (with_reducible refine Below.drew ?_) | (with_reducible refine Below.alloc ?_ ?_ _) | (with_reducible refine Below.setCell ?_ ?_ _) | omega | (simp; done) | (simp; omega))))⟩
set_option maxHeartbeats 4000000 in
set_option maxRecDepth 100000 in
theorem right_4 {d : Nat} (n : Int) (x : Nat) (t : ByteArray) (ns : List ByteArray) (is : List V) {r f : Value} {w : World} (deep : Nat) (h : VI (d + 1) w (.mk 4 n x t ns is) r f) :
    Calls Tryz.prog 26 #[.agg #[.int .i64 4, .int .i64 n, .float .f64 x, .string t, r, f], .int .i64 (deep : Int)] w fun e w' => e = .returned (.bool (rightP (d + 1) deep (.mk 4 n x t ns is))) ∧ Below w.heap.size w w' := by
  obtain ⟨ra, rc, a, cap, rfl, rfl, hbd, hts⟩ := h.shape
  simp only [V.names, V.items, V.text] at hbd hts ⊢
  clear h
  have HR : Hid (rightP (d + 1) deep (.mk 4 n x t ns is) = (decide (n = 0) && decide (x = 0) && decide (t.size ≤ 1024) && decide (ns.length = 0) && decide (is.length = 0))) := Lib.hid (by first | rfl | (unfold rightP; rfl))
  generalize rightP (d + 1) deep (.mk 4 n x t ns is) = R at *
  generalize ns.length = nn at *
  generalize is.length = ni at *
  have c3 : (!t.toList == t.toList) = false := by simp
  by_cases hn0 : n = 0
  · subst hn0
    by_cases hx0 : x = 0
    · subst hx0
      by_cases hs0 : t.size ≤ 1024
      · have c4 : decide ((1024 : Int) < (t.size : Int)) = false := decide_eq_false (by omega)
        by_cases hnn : nn = 0
        · subst hnn
          by_cases hni : ni = 0
          · subst hni
            have HR2 : Hid (R = true) := Lib.hid (by rw [HR.out]; first | rfl | (simp [hs0]; done) | (simp [hs0]; rfl))
            clear HR
            go_enter Tryz.func26, Tryz.ntmps26
            go_wp2_with fail
            go_quiet (fail)
            go_wp2_with fail
            go_ret
            exact ⟨by rw [HR2.out]; rfl, (by (repeat' (first | (with_reducible exact Below.refl _ _) | (with_reducible assumption) | (with_reducible refine below_drewN ?_ _) | (with_reducible refine Below.drew ?_) | (with_reducible refine Below.alloc ?_ ?_ _) | (with_reducible refine Below.setCell ?_ ?_ _) | omega | (simp; done) | (simp; omega))))⟩
          · have hnb : ((ni : Int) == 0) = false := by simp [hni]
            have HR2 : Hid (R = false) := Lib.hid (by rw [HR.out]; first | rfl | (simp [hs0, hni]; done) | (simp [hs0, hni]; rfl))
            clear HR
            go_enter Tryz.func26, Tryz.ntmps26
            go_wp2_with fail
            go_quiet (fail)
            go_wp2_with fail
            go_ret
            exact ⟨by rw [HR2.out]; rfl, (by (repeat' (first | (with_reducible exact Below.refl _ _) | (with_reducible assumption) | (with_reducible refine below_drewN ?_ _) | (with_reducible refine Below.drew ?_) | (with_reducible refine Below.alloc ?_ ?_ _) | (with_reducible refine Below.setCell ?_ ?_ _) | omega | (simp; done) | (simp; omega))))⟩
        · have hnb : ((nn : Int) == 0) = false := by simp [hnn]
          have HR2 : Hid (R = false) := Lib.hid (by rw [HR.out]; first | rfl | (simp [hs0, hnn]; done) | (simp [hs0, hnn]; rfl))
          clear HR
          go_enter Tryz.func26, Tryz.ntmps26
          go_wp2_with fail
          go_quiet (fail)
          go_wp2_with fail
          go_ret
          exact ⟨by rw [HR2.out]; rfl, (by (repeat' (first | (with_reducible exact Below.refl _ _) | (with_reducible assumption) | (with_reducible refine below_drewN ?_ _) | (with_reducible refine Below.drew ?_) | (with_reducible refine Below.alloc ?_ ?_ _) | (with_reducible refine Below.setCell ?_ ?_ _) | omega | (simp; done) | (simp; omega))))⟩
      · have c4 : decide ((1024 : Int) < (t.size : Int)) = true := decide_eq_true (by omega)
        have HR2 : Hid (R = false) := Lib.hid (by rw [HR.out]; first | rfl | (simp [hs0]; done) | (simp [hs0]; rfl))
        clear HR
        go_enter Tryz.func26, Tryz.ntmps26
        go_wp2_with fail
        go_quiet (fail)
        go_wp2_with fail
        go_ret
        exact ⟨by rw [HR2.out]; rfl, (by (repeat' (first | (with_reducible exact Below.refl _ _) | (with_reducible assumption) | (with_reducible refine below_drewN ?_ _) | (with_reducible refine Below.drew ?_) | (with_reducible refine Below.alloc ?_ ?_ _) | (with_reducible refine Below.setCell ?_ ?_ _) | omega | (simp; done) | (simp; omega))))⟩
    · have c2 : ((0 : Int) != (x : Int)) = true := by simp; omega
      have HR2 : Hid (R = false) := Lib.hid (by rw [HR.out]; first | rfl | (simp [hx0]; done) | (simp [hx0]; rfl))
      clear HR
      go_enter Tryz.func26, Tryz.ntmps26
      go_wp2_with fail
      go_quiet (fail)
      go_wp2_with fail
      go_ret
      exact ⟨by rw [HR2.out]; rfl, (by (repeat' (first | (with_reducible exact Below.refl _ _) | (with_reducible assumption) | (with_reducible refine below_drewN ?_ _) | (with_reducible refine Below.drew ?_) | (with_reducible refine Below.alloc ?_ ?_ _) | (with_reducible refine Below.setCell ?_ ?_ _) | omega | (simp; done) | (simp; omega))))⟩
  · have c1 : ((0 : Int) != n) = true := by simp; omega
    have HR2 : Hid (R = false) := Lib.hid (by rw [HR.out]; first | rfl | (simp [hn0]; done) | (simp [hn0]; rfl))
    clear HR
    go_enter Tryz.func26, Tryz.ntmps26
    go_wp2_with fail
    go_quiet (fail)
    go_wp2_with fail
    go_ret
    exact ⟨by rw [HR2.out]; rfl, (by (repeat' (first | (with_reducible exact Below.refl _ _) | (with_reducible assumption) | (with_reducible refine below_drewN ?_ _) | (with_reducible refine Below.drew ?_) | (with_reducible refine Below.alloc ?_ ?_ _) | (with_reducible refine Below.setCell ?_ ?_ _) | omega | (simp; done) | (simp; omega))))⟩
end Go.Proofs.YthefajkihnlgfaaGreatDoor

/- right of any value. -/
namespace Go.Proofs.YthefajkihnlgfaaGreatDoor
open Go.RowKit Go.Shelf
attribute [local go_sem] run_bits64 run_frombits64 store_flt
set_option maxHeartbeats 4000000 in
set_option maxRecDepth 100000 in
theorem right_else {d : Nat} (k n : Int) (x : Nat) (t : ByteArray) (ns : List ByteArray) (is : List V) {r f : Value} {w : World} (deep : Nat) (hk : ¬ (k = 0 ∨ k = 1 ∨ k = 2 ∨ k = 3 ∨ k = 4 ∨ k = 5 ∨ k = 6 ∨ k = 7)) (h : VI (d + 1) w (.mk k n x t ns is) r f) :
    Calls Tryz.prog 26 #[.agg #[.int .i64 k, .int .i64 n, .float .f64 x, .string t, r, f], .int .i64 (deep : Int)] w fun e w' => e = .returned (.bool (rightP (d + 1) deep (.mk k n x t ns is))) ∧ Below w.heap.size w w' := by
  obtain ⟨ra, rc, a, cap, rfl, rfl, hbd, hts⟩ := h.shape
  simp only [V.names, V.items, V.text] at hbd hts ⊢
  clear h
  have HR : Hid (rightP (d + 1) deep (.mk k n x t ns is) = false) := Lib.hid (by
    have m0 : k ≠ 0 := by omega
    have m1 : k ≠ 1 := by omega
    have m2 : k ≠ 2 := by omega
    have m3 : k ≠ 3 := by omega
    have m4 : k ≠ 4 := by omega
    have m5 : k ≠ 5 := by omega
    have m6 : k ≠ 6 := by omega
    have m7 : k ≠ 7 := by omega
    simp [rightP, V.kind, m0, m1, m2, m3, m4, m5, m6, m7])
  generalize rightP (d + 1) deep (.mk k n x t ns is) = R at *
  generalize ns.length = nn at *
  generalize is.length = ni at *
  have g0 : (k == 0) = false := by simp; omega
  have g1 : (k == 1) = false := by simp; omega
  have g2 : (k == 2) = false := by simp; omega
  have g3 : (k == 3) = false := by simp; omega
  have g4 : (k == 4) = false := by simp; omega
  have g5 : (k == 5) = false := by simp; omega
  have g6 : (k == 6) = false := by simp; omega
  have g7 : (k == 7) = false := by simp; omega
  clear hk
  go_enter Tryz.func26, Tryz.ntmps26
  go_wp2_with fail
  go_ret
  exact ⟨by rw [HR.out]; rfl, (by (repeat' (first | (with_reducible exact Below.refl _ _) | (with_reducible assumption) | (with_reducible refine below_drewN ?_ _) | (with_reducible refine Below.drew ?_) | (with_reducible refine Below.alloc ?_ ?_ _) | (with_reducible refine Below.setCell ?_ ?_ _) | omega | (simp; done) | (simp; omega))))⟩
theorem right_any : ∀ d, RightAt d := by
  intro d
  induction d with
  | zero => intro v r f w deep _ h; exact h.elim
  | succ d ih =>
    intro v r f w deep hd h
    obtain ⟨k, n, x, t, ns, is⟩ := v
    simp only [V.kind, V.int, V.flt, V.text]
    by_cases hk : k = 0 ∨ k = 1 ∨ k = 2 ∨ k = 3 ∨ k = 4 ∨ k = 5 ∨ k = 6 ∨ k = 7
    · rcases hk with rfl | rfl | rfl | rfl | rfl | rfl | rfl | rfl
      · exact right_0 n x t ns is deep h
      · exact right_1 n x t ns is deep h
      · exact right_2 n x t ns is deep h
      · exact right_3 n x t ns is deep h
      · exact right_4 n x t ns is deep h
      · exact right_5 ih n x t ns is deep hd h
      · exact right_6 ih n x t ns is deep hd h
      · exact right_7 n x t ns is deep h
    · exact right_else k n x t ns is deep hk h
set_option maxHeartbeats 1000000 in
theorem Right_any {d : Nat} {v : V} {r f : Value} {w : World} (h : VI d w v r f) : Calls Tryz.prog 20 #[.agg #[.int .i64 v.kind, .int .i64 v.int, .float .f64 v.flt, .string v.text, r, f]] w fun e w' => e = .returned (.bool (rightP d 32 v)) ∧ Below w.heap.size w w' := by
  obtain ⟨ra, rc, a, cap, rfl, rfl, hbd, hts⟩ := h.shape
  have hcall := Lib.hid (fun W' (hW : Below w.heap.size w W') => right_any d 32 (by decide) (h.keeps hW))
  generalize rightP d 32 v = R at *
  clear h
  go_enter Tryz.func20, Tryz.ntmps20
  go_wp2_with fail
  refine (hcall.out _ (by (repeat' (first | (with_reducible exact Below.refl _ _) | (with_reducible assumption) | (with_reducible refine below_drewN ?_ _) | (with_reducible refine Below.drew ?_) | (with_reducible refine Below.alloc ?_ ?_ _) | (with_reducible refine Below.setCell ?_ ?_ _) | omega | (simp; done) | (simp; omega))))).mono ?_
  rintro e w2 ⟨rfl, hb⟩
  go_wp2_with fail
  go_ret
  exact ⟨rfl, Below.next (by (repeat' (first | (with_reducible exact Below.refl _ _) | (with_reducible assumption) | (with_reducible refine below_drewN ?_ _) | (with_reducible refine Below.drew ?_) | (with_reducible refine Below.alloc ?_ ?_ _) | (with_reducible refine Below.setCell ?_ ?_ _) | omega | (simp; done) | (simp; omega)))) hb⟩
end Go.Proofs.YthefajkihnlgfaaGreatDoor

