/- value.Text and bootjackref12.Text of a right plain value: the walks. -/
import Derived.Test.YthefajkihnlgfaaGreatDoorFlR
import Derived.Test.YthefajkihnlgfaaGreatDoorRRightY
import Derived.Test.YthefajkihnlgfaaGreatDoorM21
import Derived.Test.YthefajkihnlgfaaGreatDoorM27
import Derived.Lib.AppendIntMem
namespace Go.Proofs.YthefajkihnlgfaaGreatDoor
open Go.RowKit Go.Shelf
set_option linter.unusedSimpArgs false
set_option linter.unusedVariables false
def TxAt (f : Nat) : Prop := ∀ {B d : Nat} {v : V} {r fv : Value} {w : World}, RG B w → VI d w v r fv → NumV d v → rightP d 32 v = true → (v.kind = 0 ∨ v.kind = 1 ∨ v.kind = 2 ∨ v.kind = 3) →
  Calls Tryz.prog f #[.agg #[.int .i64 v.kind, .int .i64 v.int, .float .f64 v.flt, .string v.text, r, fv]] w fun e w' => e = .returned (.tuple #[.string ⟨(textP v).toArray⟩, .int .i64 0]) ∧ Below w.heap.size w w'
theorem fbool_any (b : Bool) (w : World) : Calls Tryz.prog 38 #[.bool b] w fun e w' => e = .returned (.string ⟨(if b = true then ([116, 114, 117, 101] : List UInt8) else [102, 97, 108, 115, 101]).toArray⟩) ∧ w = w' := by
  have hin : ∀ W, Calls Tryz.prog 45 #[.bool b] W fun e w' => e = .returned (.string ⟨(if b = true then ([116, 114, 117, 101] : List UInt8) else [102, 97, 108, 115, 101]).toArray⟩) ∧ W = w' := by
    intro W
    cases b
    all_goals
      go_enter Tryz.func45, Tryz.ntmps45
      go_wp2_with fail
      go_ret
      exact ⟨rfl, rfl⟩
  generalize (⟨(if b = true then ([116, 114, 117, 101] : List UInt8) else [102, 97, 108, 115, 101]).toArray⟩ : ByteArray) = R at *
  go_enter Tryz.func38, Tryz.ntmps38
  go_wp2_with fail
  refine (hin _).mono ?_
  rintro e w2 ⟨rfl, rfl⟩
  go_wp2_with fail
  go_ret
  exact ⟨rfl, rfl⟩
theorem itoa_call {w : World} {B : Nat} (hG : RG B w) (n : Int) (hn : I64' n) : Calls Tryz.prog 39 #[.int .i64 n, .int .i64 10] w fun e w' => e = .returned (.string ⟨(Lib.itoa n).toArray⟩) ∧ Below w.heap.size w w' := by
  refine (Tryz.strconv_FormatInt_10 n hn.1 hn.2 w hG.fg.tab).mono ?_
  rintro e w' ⟨rfl, k, os, rfl⟩
  exact ⟨rfl, Lib.below_grow _ _ (Nat.le_refl _) _ _⟩
set_option maxHeartbeats 2000000 in
set_option maxRecDepth 100000 in
theorem text_any : TxAt 28 := by
  intro B d v r f w hG h hN hr hk
  obtain ⟨ra, rc, a, cap, rfl, rfl, hbd, hts⟩ := h.shape
  have HRT := Lib.hid (fun W' (hW : Below w.heap.size w W') => Right_any (h.keeps hW))
  rw [hr] at HRT
  have HGG := Lib.hid (fun W' (hW : Below w.heap.size w W') => hG.below hW)
  obtain ⟨e, rfl⟩ : ∃ e, d = e + 1 := by cases d with
    | zero => exact h.elim
    | succ e => exact ⟨e, rfl⟩
  have HN := Lib.hid hN
  have HT : Hid (textP v = if v.kind = 0 then [110, 117, 108, 108] else if v.kind = 1 then (if v.int = 1 then [116, 114, 117, 101] else [102, 97, 108, 115, 101]) else if v.kind = 2 then Lib.itoa v.int else fltT v.flt) := Lib.hid rfl
  have HIT := Lib.hid (fun W (h : RG B W) => itoa_call h v.int hN.1)
  have HFT := Lib.hid (fun W (h : RG B W) => Float_any h hN.2.1)
  have HBT := Lib.hid (fun W => fbool_any (v.int == 1) W)
  have hT2 : v.kind = 1 → (if (v.int == 1) = true then ([116, 114, 117, 101] : List UInt8) else [102, 97, 108, 115, 101]) = textP v := by
    intro h1
    have e : textP v = (if v.int = 1 then [116, 114, 117, 101] else [102, 97, 108, 115, 101]) := by rw [HT.out, if_neg (by omega), if_pos h1]
    rw [e]
    by_cases hi : v.int = 1 <;> simp [hi]
  clear h hr hG hN HN
  generalize v.names.length = nn at *
  generalize v.items.length = ni at *
  generalize textP v = R at *
  rcases hk with hk | hk | hk | hk
  · rw [hk] at HT ⊢
    have HT2 := Lib.hid (show R = [110, 117, 108, 108] from HT.out)
    clear HT hT2 HIT HFT HBT
    rw [hk] at HRT
    go_enter Tryz.func28, Tryz.ntmps28
    go_wp2_with fail
    refine (HRT.out _ (by (repeat' (first | (with_reducible exact Below.refl _ _) | (with_reducible assumption) | (with_reducible refine below_drewN ?_ _) | (with_reducible refine Below.drew ?_) | (with_reducible refine Below.alloc ?_ ?_ _) | (with_reducible refine Below.setCell ?_ ?_ _) | omega | (simp; done) | (simp; omega))))).mono ?_
    rintro e w1 ⟨rfl, hb1⟩
    have hB1 : Below w.heap.size w w1 := Below.next (by (repeat' (first | (with_reducible exact Below.refl _ _) | (with_reducible assumption) | (with_reducible refine below_drewN ?_ _) | (with_reducible refine Below.drew ?_) | (with_reducible refine Below.alloc ?_ ?_ _) | (with_reducible refine Below.setCell ?_ ?_ _) | omega | (simp; done) | (simp; omega)))) hb1
    have hx2 := block_below (hb := hb1) (h := block_new _ _ rfl)
    have q0 := block_cell (i := 0) hx2 rfl
    have q1 := block_cell (i := 1) hx2 rfl
    have q2 := block_cell (i := 2) hx2 rfl
    have q3 := block_cell (i := 3) hx2 rfl
    have q4 := block_cell (i := 4) hx2 rfl
    have q5 := block_cell (i := 5) hx2 rfl
    clear hx2 HRT hb1
    go_wp2_with fail
    go_wp2_with fail
    go_ret2
    exact ⟨by rw [HT2.out]; rfl, hB1⟩
  · have HT2 := Lib.hid (hT2 hk)
    rw [hk]
    rw [HT2.out] at HBT
    clear HT hT2 HIT HFT HT2
    rw [hk] at HRT
    go_enter Tryz.func28, Tryz.ntmps28
    go_wp2_with fail
    refine (HRT.out _ (by (repeat' (first | (with_reducible exact Below.refl _ _) | (with_reducible assumption) | (with_reducible refine below_drewN ?_ _) | (with_reducible refine Below.drew ?_) | (with_reducible refine Below.alloc ?_ ?_ _) | (with_reducible refine Below.setCell ?_ ?_ _) | omega | (simp; done) | (simp; omega))))).mono ?_
    rintro e w1 ⟨rfl, hb1⟩
    have hB1 : Below w.heap.size w w1 := Below.next (by (repeat' (first | (with_reducible exact Below.refl _ _) | (with_reducible assumption) | (with_reducible refine below_drewN ?_ _) | (with_reducible refine Below.drew ?_) | (with_reducible refine Below.alloc ?_ ?_ _) | (with_reducible refine Below.setCell ?_ ?_ _) | omega | (simp; done) | (simp; omega)))) hb1
    have hx2 := block_below (hb := hb1) (h := block_new _ _ rfl)
    have q0 := block_cell (i := 0) hx2 rfl
    have q1 := block_cell (i := 1) hx2 rfl
    have q2 := block_cell (i := 2) hx2 rfl
    have q3 := block_cell (i := 3) hx2 rfl
    have q4 := block_cell (i := 4) hx2 rfl
    have q5 := block_cell (i := 5) hx2 rfl
    clear hx2 HRT hb1
    go_wp2_with fail
    refine (HBT.out _).mono ?_
    rintro e w2 ⟨rfl, rfl⟩
    go_wp2_with fail
    go_ret2
    exact ⟨rfl, hB1⟩
  · have HT2 := Lib.hid (show R = Lib.itoa v.int by rw [HT.out, if_neg (by omega), if_neg (by omega), if_pos hk])
    rw [hk, HT2.out]
    clear HT hT2 HFT HBT HT2
    rw [hk] at HRT
    go_enter Tryz.func28, Tryz.ntmps28
    go_wp2_with fail
    refine (HRT.out _ (by (repeat' (first | (with_reducible exact Below.refl _ _) | (with_reducible assumption) | (with_reducible refine below_drewN ?_ _) | (with_reducible refine Below.drew ?_) | (with_reducible refine Below.alloc ?_ ?_ _) | (with_reducible refine Below.setCell ?_ ?_ _) | omega | (simp; done) | (simp; omega))))).mono ?_
    rintro e w1 ⟨rfl, hb1⟩
    have hB1 : Below w.heap.size w w1 := Below.next (by (repeat' (first | (with_reducible exact Below.refl _ _) | (with_reducible assumption) | (with_reducible refine below_drewN ?_ _) | (with_reducible refine Below.drew ?_) | (with_reducible refine Below.alloc ?_ ?_ _) | (with_reducible refine Below.setCell ?_ ?_ _) | omega | (simp; done) | (simp; omega)))) hb1
    have hx2 := block_below (hb := hb1) (h := block_new _ _ rfl)
    have q0 := block_cell (i := 0) hx2 rfl
    have q1 := block_cell (i := 1) hx2 rfl
    have q2 := block_cell (i := 2) hx2 rfl
    have q3 := block_cell (i := 3) hx2 rfl
    have q4 := block_cell (i := 4) hx2 rfl
    have q5 := block_cell (i := 5) hx2 rfl
    clear hx2 HRT hb1
    go_wp2_with fail
    refine (HIT.out _ (HGG.out _ hB1)).mono ?_
    rintro e w2 ⟨rfl, hb2⟩
    go_wp2_with fail
    go_ret2
    exact ⟨rfl, hB1.next hb2⟩
  · have HT2 := Lib.hid (show R = fltT v.flt by rw [HT.out, if_neg (by omega), if_neg (by omega), if_neg (by omega)])
    rw [hk, HT2.out]
    clear HT hT2 HIT HBT HT2
    rw [hk] at HRT
    go_enter Tryz.func28, Tryz.ntmps28
    go_wp2_with fail
    refine (HRT.out _ (by (repeat' (first | (with_reducible exact Below.refl _ _) | (with_reducible assumption) | (with_reducible refine below_drewN ?_ _) | (with_reducible refine Below.drew ?_) | (with_reducible refine Below.alloc ?_ ?_ _) | (with_reducible refine Below.setCell ?_ ?_ _) | omega | (simp; done) | (simp; omega))))).mono ?_
    rintro e w1 ⟨rfl, hb1⟩
    have hB1 : Below w.heap.size w w1 := Below.next (by (repeat' (first | (with_reducible exact Below.refl _ _) | (with_reducible assumption) | (with_reducible refine below_drewN ?_ _) | (with_reducible refine Below.drew ?_) | (with_reducible refine Below.alloc ?_ ?_ _) | (with_reducible refine Below.setCell ?_ ?_ _) | omega | (simp; done) | (simp; omega)))) hb1
    have hx2 := block_below (hb := hb1) (h := block_new _ _ rfl)
    have q0 := block_cell (i := 0) hx2 rfl
    have q1 := block_cell (i := 1) hx2 rfl
    have q2 := block_cell (i := 2) hx2 rfl
    have q3 := block_cell (i := 3) hx2 rfl
    have q4 := block_cell (i := 4) hx2 rfl
    have q5 := block_cell (i := 5) hx2 rfl
    clear hx2 HRT hb1
    go_wp2_with fail
    refine (HFT.out _ (HGG.out _ hB1)).mono ?_
    rintro e w2 ⟨rfl, hb2⟩
    go_wp2_with fail
    go_ret2
    exact ⟨rfl, hB1.next hb2⟩
set_option maxHeartbeats 2000000 in
set_option maxRecDepth 100000 in
theorem rtext_any : TxAt 32 := by
  intro B d v r f w hG h hN hr hk
  obtain ⟨ra, rc, a, cap, rfl, rfl, hbd, hts⟩ := h.shape
  have HRT := Lib.hid (fun W' (hW : Below w.heap.size w W') => RRight_any (h.keeps hW))
  rw [hr] at HRT
  have HGG := Lib.hid (fun W' (hW : Below w.heap.size w W') => hG.below hW)
  obtain ⟨e, rfl⟩ : ∃ e, d = e + 1 := by cases d with
    | zero => exact h.elim
    | succ e => exact ⟨e, rfl⟩
  have HN := Lib.hid hN
  have HT : Hid (textP v = if v.kind = 0 then [110, 117, 108, 108] else if v.kind = 1 then (if v.int = 1 then [116, 114, 117, 101] else [102, 97, 108, 115, 101]) else if v.kind = 2 then Lib.itoa v.int else fltT v.flt) := Lib.hid rfl
  have HIT := Lib.hid (fun W (h : RG B W) => itoa_call h v.int hN.1)
  have HFT := Lib.hid (fun W (h : RG B W) => RFloat_any h hN.2.1)
  have HBT := Lib.hid (fun W => fbool_any (v.int == 1) W)
  have hT2 : v.kind = 1 → (if (v.int == 1) = true then ([116, 114, 117, 101] : List UInt8) else [102, 97, 108, 115, 101]) = textP v := by
    intro h1
    have e : textP v = (if v.int = 1 then [116, 114, 117, 101] else [102, 97, 108, 115, 101]) := by rw [HT.out, if_neg (by omega), if_pos h1]
    rw [e]
    by_cases hi : v.int = 1 <;> simp [hi]
  clear h hr hG hN HN
  generalize v.names.length = nn at *
  generalize v.items.length = ni at *
  generalize textP v = R at *
  rcases hk with hk | hk | hk | hk
  · rw [hk] at HT ⊢
    have HT2 := Lib.hid (show R = [110, 117, 108, 108] from HT.out)
    clear HT hT2 HIT HFT HBT
    rw [hk] at HRT
    go_enter Tryz.func32, Tryz.ntmps32
    go_wp2_with fail
    refine (HRT.out _ (by (repeat' (first | (with_reducible exact Below.refl _ _) | (with_reducible assumption) | (with_reducible refine below_drewN ?_ _) | (with_reducible refine Below.drew ?_) | (with_reducible refine Below.alloc ?_ ?_ _) | (with_reducible refine Below.setCell ?_ ?_ _) | omega | (simp; done) | (simp; omega))))).mono ?_
    rintro e w1 ⟨rfl, hb1⟩
    have hB1 : Below w.heap.size w w1 := Below.next (by (repeat' (first | (with_reducible exact Below.refl _ _) | (with_reducible assumption) | (with_reducible refine below_drewN ?_ _) | (with_reducible refine Below.drew ?_) | (with_reducible refine Below.alloc ?_ ?_ _) | (with_reducible refine Below.setCell ?_ ?_ _) | omega | (simp; done) | (simp; omega)))) hb1
    have hx2 := block_below (hb := hb1) (h := block_new _ _ rfl)
    have q0 := block_cell (i := 0) hx2 rfl
    have q1 := block_cell (i := 1) hx2 rfl
    have q2 := block_cell (i := 2) hx2 rfl
    have q3 := block_cell (i := 3) hx2 rfl
    have q4 := block_cell (i := 4) hx2 rfl
    have q5 := block_cell (i := 5) hx2 rfl
    clear hx2 HRT hb1
    go_wp2_with fail
    go_wp2_with fail
    go_ret2
    exact ⟨by rw [HT2.out]; rfl, hB1⟩
  · have HT2 := Lib.hid (hT2 hk)
    rw [hk]
    clear HT hT2 HIT HFT HBT
    by_cases hi : v.int = 1
    · rw [hi] at HRT HT2 ⊢
      rw [hk] at HRT
      go_enter Tryz.func32, Tryz.ntmps32
      go_wp2_with fail
      refine (HRT.out _ (by (repeat' (first | (with_reducible exact Below.refl _ _) | (with_reducible assumption) | (with_reducible refine below_drewN ?_ _) | (with_reducible refine Below.drew ?_) | (with_reducible refine Below.alloc ?_ ?_ _) | (with_reducible refine Below.setCell ?_ ?_ _) | omega | (simp; done) | (simp; omega))))).mono ?_
      rintro e w1 ⟨rfl, hb1⟩
      have hB1 : Below w.heap.size w w1 := Below.next (by (repeat' (first | (with_reducible exact Below.refl _ _) | (with_reducible assumption) | (with_reducible refine below_drewN ?_ _) | (with_reducible refine Below.drew ?_) | (with_reducible refine Below.alloc ?_ ?_ _) | (with_reducible refine Below.setCell ?_ ?_ _) | omega | (simp; done) | (simp; omega)))) hb1
      have hx2 := block_below (hb := hb1) (h := block_new _ _ rfl)
      have q0 := block_cell (i := 0) hx2 rfl
      have q1 := block_cell (i := 1) hx2 rfl
      have q2 := block_cell (i := 2) hx2 rfl
      have q3 := block_cell (i := 3) hx2 rfl
      have q4 := block_cell (i := 4) hx2 rfl
      have q5 := block_cell (i := 5) hx2 rfl
      clear hx2 HRT hb1
      go_wp2_with fail
      go_ret2
      exact ⟨by rw [← HT2.out]; rfl, hB1⟩
    · have hib : (v.int == 1) = false := by simp [hi]
      rw [hib] at HT2
      rw [hk] at HRT
      go_enter Tryz.func32, Tryz.ntmps32
      go_wp2_with fail
      refine (HRT.out _ (by (repeat' (first | (with_reducible exact Below.refl _ _) | (with_reducible assumption) | (with_reducible refine below_drewN ?_ _) | (with_reducible refine Below.drew ?_) | (with_reducible refine Below.alloc ?_ ?_ _) | (with_reducible refine Below.setCell ?_ ?_ _) | omega | (simp; done) | (simp; omega))))).mono ?_
      rintro e w1 ⟨rfl, hb1⟩
      have hB1 : Below w.heap.size w w1 := Below.next (by (repeat' (first | (with_reducible exact Below.refl _ _) | (with_reducible assumption) | (with_reducible refine below_drewN ?_ _) | (with_reducible refine Below.drew ?_) | (with_reducible refine Below.alloc ?_ ?_ _) | (with_reducible refine Below.setCell ?_ ?_ _) | omega | (simp; done) | (simp; omega)))) hb1
      have hx2 := block_below (hb := hb1) (h := block_new _ _ rfl)
      have q0 := block_cell (i := 0) hx2 rfl
      have q1 := block_cell (i := 1) hx2 rfl
      have q2 := block_cell (i := 2) hx2 rfl
      have q3 := block_cell (i := 3) hx2 rfl
      have q4 := block_cell (i := 4) hx2 rfl
      have q5 := block_cell (i := 5) hx2 rfl
      clear hx2 HRT hb1
      go_wp2_with fail
      go_ret2
      exact ⟨by rw [← HT2.out]; rfl, hB1⟩
  · have HT2 := Lib.hid (show R = Lib.itoa v.int by rw [HT.out, if_neg (by omega), if_neg (by omega), if_pos hk])
    rw [hk, HT2.out]
    clear HT hT2 HFT HBT HT2
    rw [hk] at HRT
    go_enter Tryz.func32, Tryz.ntmps32
    go_wp2_with fail
    refine (HRT.out _ (by (repeat' (first | (with_reducible exact Below.refl _ _) | (with_reducible assumption) | (with_reducible refine below_drewN ?_ _) | (with_reducible refine Below.drew ?_) | (with_reducible refine Below.alloc ?_ ?_ _) | (with_reducible refine Below.setCell ?_ ?_ _) | omega | (simp; done) | (simp; omega))))).mono ?_
    rintro e w1 ⟨rfl, hb1⟩
    have hB1 : Below w.heap.size w w1 := Below.next (by (repeat' (first | (with_reducible exact Below.refl _ _) | (with_reducible assumption) | (with_reducible refine below_drewN ?_ _) | (with_reducible refine Below.drew ?_) | (with_reducible refine Below.alloc ?_ ?_ _) | (with_reducible refine Below.setCell ?_ ?_ _) | omega | (simp; done) | (simp; omega)))) hb1
    have hx2 := block_below (hb := hb1) (h := block_new _ _ rfl)
    have q0 := block_cell (i := 0) hx2 rfl
    have q1 := block_cell (i := 1) hx2 rfl
    have q2 := block_cell (i := 2) hx2 rfl
    have q3 := block_cell (i := 3) hx2 rfl
    have q4 := block_cell (i := 4) hx2 rfl
    have q5 := block_cell (i := 5) hx2 rfl
    clear hx2 HRT hb1
    go_wp2_with fail
    refine (HIT.out _ (HGG.out _ hB1)).mono ?_
    rintro e w2 ⟨rfl, hb2⟩
    go_wp2_with fail
    go_ret2
    exact ⟨rfl, hB1.next hb2⟩
  · have HT2 := Lib.hid (show R = fltT v.flt by rw [HT.out, if_neg (by omega), if_neg (by omega), if_neg (by omega)])
    rw [hk, HT2.out]
    clear HT hT2 HIT HBT HT2
    rw [hk] at HRT
    go_enter Tryz.func32, Tryz.ntmps32
    go_wp2_with fail
    refine (HRT.out _ (by (repeat' (first | (with_reducible exact Below.refl _ _) | (with_reducible assumption) | (with_reducible refine below_drewN ?_ _) | (with_reducible refine Below.drew ?_) | (with_reducible refine Below.alloc ?_ ?_ _) | (with_reducible refine Below.setCell ?_ ?_ _) | omega | (simp; done) | (simp; omega))))).mono ?_
    rintro e w1 ⟨rfl, hb1⟩
    have hB1 : Below w.heap.size w w1 := Below.next (by (repeat' (first | (with_reducible exact Below.refl _ _) | (with_reducible assumption) | (with_reducible refine below_drewN ?_ _) | (with_reducible refine Below.drew ?_) | (with_reducible refine Below.alloc ?_ ?_ _) | (with_reducible refine Below.setCell ?_ ?_ _) | omega | (simp; done) | (simp; omega)))) hb1
    have hx2 := block_below (hb := hb1) (h := block_new _ _ rfl)
    have q0 := block_cell (i := 0) hx2 rfl
    have q1 := block_cell (i := 1) hx2 rfl
    have q2 := block_cell (i := 2) hx2 rfl
    have q3 := block_cell (i := 3) hx2 rfl
    have q4 := block_cell (i := 4) hx2 rfl
    have q5 := block_cell (i := 5) hx2 rfl
    clear hx2 HRT hb1
    go_wp2_with fail
    refine (HFT.out _ (HGG.out _ hB1)).mono ?_
    rintro e w2 ⟨rfl, hb2⟩
    go_wp2_with fail
    go_ret2
    exact ⟨rfl, hB1.next hb2⟩
end Go.Proofs.YthefajkihnlgfaaGreatDoor

