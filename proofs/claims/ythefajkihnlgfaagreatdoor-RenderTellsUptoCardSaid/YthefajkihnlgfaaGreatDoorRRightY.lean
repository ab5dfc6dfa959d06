/- bootjackref12.Right of any value: the walk. -/
import Derived.Test.YthefajkihnlgfaaGreatDoorRRightX
namespace Go.Proofs.YthefajkihnlgfaaGreatDoor
open Go.RowKit Go.Shelf
set_option linter.unusedSimpArgs false
set_option linter.unusedVariables false
attribute [local go_sem] run_bits64 run_frombits64 store_flt
theorem rright_any : ∀ d, RRightAt d := by
  intro d
  induction d with
  | zero => intro v r f w h; exact h.elim
  | succ d ih =>
    intro v r f w h
    obtain ⟨k, n, x, t, ns, is⟩ := v
    exact rright_step ih k n x t ns is h
set_option maxHeartbeats 1000000 in
theorem RRight_any {d : Nat} {v : V} {r f : Value} {w : World} (h : VI d w v r f) : Calls Tryz.prog 22 #[.agg #[.int .i64 v.kind, .int .i64 v.int, .float .f64 v.flt, .string v.text, r, f]] w fun e w' => e = .returned (.bool (rightP d 32 v)) ∧ Below w.heap.size w w' := by
  obtain ⟨ra, rc, a, cap, rfl, rfl, hbd, hts⟩ := h.shape
  have HD := Lib.hid (fun W' (hW : Below w.heap.size w W') => rdeep_any d v _ _ W' 33 (by decide) (by decide) (h.keeps hW))
  have HC := Lib.hid (fun W' (hW : Below w.heap.size w W') => rright_any d v _ _ W' (h.keeps hW))
  have HR : Hid (rightP d 32 v = (decide (deepP d v 33 ≤ 32) && rightR d v)) := Lib.hid (right_both d 32 v)
  have hle := deepP_le2 d v 33 (by decide)
  generalize rightP d 32 v = R at *
  generalize deepP d v 33 = q at *
  generalize rightR d v = B at *
  clear h
  by_cases hq : q ≤ 32
  · have hqI : (q : Int) ≤ 32 := by omega
    have hqb : decide ((q : Int) ≤ 32) = true := decide_eq_true hqI
    go_enter Tryz.func22, Tryz.ntmps22
    go_wp2_with fail
    refine (HD.out _ (by (repeat' (first | (with_reducible exact Below.refl _ _) | (with_reducible assumption) | (with_reducible refine below_drewN ?_ _) | (with_reducible refine Below.drew ?_) | (with_reducible refine Below.alloc ?_ ?_ _) | (with_reducible refine Below.setCell ?_ ?_ _) | omega | (simp; done) | (simp; omega))))).mono ?_
    rintro e w2 ⟨rfl, hb⟩
    have hB : Below w.heap.size w w2 := Below.next (by (repeat' (first | (with_reducible exact Below.refl _ _) | (with_reducible assumption) | (with_reducible refine below_drewN ?_ _) | (with_reducible refine Below.drew ?_) | (with_reducible refine Below.alloc ?_ ?_ _) | (with_reducible refine Below.setCell ?_ ?_ _) | omega | (simp; done) | (simp; omega)))) hb
    have hx2 := block_below (block_new w (.cells #[.int .i64 v.kind, .int .i64 v.int, .float .f64 v.flt, .string v.text, .slice ra v.names.length rc, .slice a v.items.length cap] 47 (0, 0)) rfl) hb
    have q0 := block_cell (i := 0) hx2 rfl
    have q1 := block_cell (i := 1) hx2 rfl
    have q2 := block_cell (i := 2) hx2 rfl
    have q3 := block_cell (i := 3) hx2 rfl
    have q4 := block_cell (i := 4) hx2 rfl
    have q5 := block_cell (i := 5) hx2 rfl
    clear hx2
    go_wp2_with fail
    refine (HC.out _ hB).mono ?_
    rintro e w3 ⟨rfl, hb3⟩
    go_wp2_with fail
    go_ret
    exact ⟨by rw [HR.out, decide_eq_true hq, Bool.true_and]; rfl, hB.next hb3⟩
  · have hqI : ¬ ((q : Int) ≤ 32) := by omega
    have hqb : decide ((q : Int) ≤ 32) = false := decide_eq_false hqI
    go_enter Tryz.func22, Tryz.ntmps22
    go_wp2_with fail
    refine (HD.out _ (by (repeat' (first | (with_reducible exact Below.refl _ _) | (with_reducible assumption) | (with_reducible refine below_drewN ?_ _) | (with_reducible refine Below.drew ?_) | (with_reducible refine Below.alloc ?_ ?_ _) | (with_reducible refine Below.setCell ?_ ?_ _) | omega | (simp; done) | (simp; omega))))).mono ?_
    rintro e w2 ⟨rfl, hb⟩
    have hB : Below w.heap.size w w2 := Below.next (by (repeat' (first | (with_reducible exact Below.refl _ _) | (with_reducible assumption) | (with_reducible refine below_drewN ?_ _) | (with_reducible refine Below.drew ?_) | (with_reducible refine Below.alloc ?_ ?_ _) | (with_reducible refine Below.setCell ?_ ?_ _) | omega | (simp; done) | (simp; omega)))) hb
    go_wp2_with fail
    go_ret
    exact ⟨by rw [HR.out, decide_eq_false hq]; rfl, hB⟩
end Go.Proofs.YthefajkihnlgfaaGreatDoor

