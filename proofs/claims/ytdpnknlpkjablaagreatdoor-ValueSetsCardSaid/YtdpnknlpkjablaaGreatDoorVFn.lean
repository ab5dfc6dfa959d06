/- slices.IndexFunc, ContainsFunc, EqualFunc over values. -/
import Derived.Test.YtdpnknlpkjablaaGreatDoorVBase
import Derived.Shelf.Abstract
namespace Go.Proofs.YtdpnknlpkjablaaGreatDoor
open Go.RowKit Go.Shelf
attribute [local go_sem] store_flt

/-- A function value that tells p of each of the values, wherever it is asked. -/
def PredV (g : Nat) (lb : Array Value) (d : Nat) (w : World) (xs : List V) (p : V → Bool) : Prop :=
  ∀ x, x ∈ xs → ∀ W r f, Below w.heap.size w W → VI d W x r f → Calls Tryz.prog g (#[.agg #[.int .i64 x.kind, .int .i64 x.int, .float .f64 x.flt, .string x.text, r, f]] ++ lb) W fun e w' => e = .returned (.bool (p x)) ∧ Below W.heap.size W w'
set_option maxHeartbeats 1000000 in
set_option maxRecDepth 100000 in
theorem indexV_any {g : Nat} {lb : Array Value} {d : Nat} {v : Value} {xs : List V} {w : World} {p : V → Bool} (eg : Enters Tryz.prog g) (h1 : VLs d w v xs) (hp : PredV g lb d w xs p) :
    Calls Tryz.prog 73 #[v, .func (.func g) #[] lb] w fun e w' => e = .returned (.int .i64 (idxG p xs)) ∧ Below w.heap.size w w' := by
  obtain ⟨a, cap, rfl, _, hm, hc⟩ := h1
  generalize hn : xs.length = n at *
  have HN := Lib.hid hn
  have HC := Lib.hid hc
  have HP := Lib.hid hp
  have eg' : ∀ (args : Array Value) (w : World), (callFunc g args).run Tryz.prog w = .ok (.enter g args) w := eg
  clear hn hc hp
  go_enter Tryz.func73, Tryz.ntmps73
  go_wp2
  go_loopw [5, 8] (fun _ i wr => ∃ k : Nat, k ≤ n ∧ i = .int .i64 k ∧ Below w.heap.size w wr ∧ ToG p xs k) (fun _ i _ => n - (intOf i).toNat)
  case atStart => exact ⟨0, Nat.zero_le _, rfl, Below.refl _ _, fun _ _ hj => absurd hj (Nat.not_lt_zero _)⟩
  case round =>
    obtain ⟨k, hk, rfl, hb, hto⟩ := hrel
    by_cases hlt : k < n
    · obtain ⟨x, hx⟩ := get_lt xs (k := k) (by have := HN.out; omega)
      obtain ⟨b, off, r', f', rfl, k1, k2, k3, k4, k5, k6, hv⟩ := HC.out k _ hx
      have k1 := cell_keeps hb k1
      have k2 := cell_keeps hb k2
      have k3 := cell_keeps hb k3
      have k4 := cell_keeps hb k4
      have k5 := cell_keeps hb k5
      have k6 := cell_keeps hb k6
      have hcall := Lib.hid (HP.out x (List.mem_of_getElem? hx) wr r' f' hb (hv.keeps hb))
      have HS := Lib.hid hx
      clear hx hv
      cases hps : p x
      · have HPS := Lib.hid hps
        clear hps
        go_wp2_with (go_at_fn g; refine hcall.out.mono ?_; rw [HPS.out]; rintro e w1 ⟨rfl, hb1⟩)
        go_roundw
        case rel => exact ⟨k + 1, by omega, by go_num, hb.next hb1, hto.step HS.out HPS.out⟩
        case measure => simp [intOf]; omega
      · have HPS := Lib.hid hps
        clear hps
        go_wp2_with (go_at_fn g; refine hcall.out.mono ?_; rw [HPS.out]; rintro e w1 ⟨rfl, hb1⟩)
        go_ret
        exact ⟨ret_int (idxG_some HS.out HPS.out hto).symm, hb.next hb1⟩
    · obtain rfl : k = n := by omega
      go_wp2
      go_ret
      exact ⟨ret_int (idxG_none (fun j x hx => hto j x (by have := (List.getElem?_eq_some_iff.1 hx).1; rw [HN.out] at this; exact this) hx)).symm, hb⟩
set_option maxHeartbeats 1000000 in
theorem containsV_any {g : Nat} {lb : Array Value} {d : Nat} {v : Value} {xs : List V} {w : World} {p : V → Bool} (eg : Enters Tryz.prog g) (h1 : VLs d w v xs) (hp : PredV g lb d w xs p) :
    Calls Tryz.prog 56 #[v, .func (.func g) #[] lb] w fun e w' => e = .returned (.bool (xs.any p)) ∧ Below w.heap.size w w' := by
  have HP := Lib.hid hp
  have h1' := h1
  obtain ⟨a, cap, rfl, _, hm, hc⟩ := h1'
  clear hp hc
  rw [← idxG_any]
  generalize hr : idxG p xs = r
  have HR := Lib.hid hr
  clear hr
  go_enter Tryz.func56, Tryz.ntmps56
  go_wp2_with fail
  refine (indexV_any eg h1 HP.out).mono ?_
  rw [HR.out]
  rintro e w1 ⟨rfl, hb1⟩
  go_wp2_with fail
  go_ret
  exact ⟨rfl, hb1⟩
/-- A function value that tells p of any two. -/
def PredE (g : Nat) (d : Nat) (w : World) (xs ys : List V) (p : V → V → Bool) : Prop :=
  ∀ x y, x ∈ xs → y ∈ ys → ∀ W r f r' f', Below w.heap.size w W → VI d W x r f → VI d W y r' f' → Calls Tryz.prog g #[.agg #[.int .i64 x.kind, .int .i64 x.int, .float .f64 x.flt, .string x.text, r, f], .agg #[.int .i64 y.kind, .int .i64 y.int, .float .f64 y.flt, .string y.text, r', f']] W fun e w' => e = .returned (.bool (p x y)) ∧ Below W.heap.size W w'
def AllE (p : V → V → Bool) (xs ys : List V) (k : Nat) : Prop := ∀ (j : Nat) (x y : V), j < k → xs[j]? = some x → ys[j]? = some y → p x y = true
theorem AllE.step {p : V → V → Bool} {xs ys : List V} {k : Nat} {x y : V} (h : AllE p xs ys k) (hx : xs[k]? = some x) (hy : ys[k]? = some y) (he : p x y = true) : AllE p xs ys (k + 1) := by
  intro j a b hj ha hb
  by_cases e : j = k
  · subst e; rw [hx] at ha; rw [hy] at hb; cases ha; cases hb; exact he
  · exact h j a b (by omega) ha hb
theorem AllE.yes {p : V → V → Bool} {xs ys : List V} {n : Nat} (h : AllE p xs ys n) (h1 : xs.length = n) : (xs.zip ys).all (fun q => p q.1 q.2) = true := by
  rw [List.all_eq_true]
  intro q hq
  obtain ⟨j, hj⟩ := List.getElem?_of_mem hq
  rw [List.getElem?_zip_eq_some] at hj
  exact h j _ _ (by rw [← h1]; exact (List.getElem?_eq_some_iff.1 hj.1).1) hj.1 hj.2
theorem AllE.no {p : V → V → Bool} {xs ys : List V} {k : Nat} {x y : V} (hx : xs[k]? = some x) (hy : ys[k]? = some y) (he : p x y = false) : (xs.zip ys).all (fun q => p q.1 q.2) = false := by
  rw [List.all_eq_false]
  exact ⟨(x, y), List.mem_of_getElem? (i := k) (List.getElem?_zip_eq_some.2 ⟨hx, hy⟩), by simp [he]⟩
set_option maxHeartbeats 2000000 in
set_option maxRecDepth 100000 in
theorem equalV_any {g : Nat} {d : Nat} {v1 v2 : Value} {xs ys : List V} {w : World} {p : V → V → Bool} (eg : Enters Tryz.prog g) (h1 : VLs d w v1 xs) (h2 : VLs d w v2 ys) (hp : PredE g d w xs ys p) :
    Calls Tryz.prog 35 #[v1, v2, .func (.func g) #[] #[]] w fun e w' => e = .returned (.bool (decide (xs.length = ys.length) && (xs.zip ys).all fun q => p q.1 q.2)) ∧ Below w.heap.size w w' := by
  obtain ⟨a1, cap1, rfl, _, hm1, hc1⟩ := h1
  obtain ⟨a2, cap2, rfl, _, hm2, hc2⟩ := h2
  have HR : ∀ {A B : Bool}, A = decide (xs.length = ys.length) → B = (xs.zip ys).all (fun q => p q.1 q.2) → (decide (xs.length = ys.length) && (xs.zip ys).all fun q => p q.1 q.2) = (A && B) := fun h k => by rw [h, k]
  generalize hR : (decide (xs.length = ys.length) && (xs.zip ys).all fun q => p q.1 q.2) = R
  have HRR := Lib.hid hR
  clear hR HR
  generalize hn1 : xs.length = n1 at *
  generalize hn2 : ys.length = n2 at *
  have HN1 := Lib.hid hn1
  have HN2 := Lib.hid hn2
  have HC1 := Lib.hid hc1
  have HC2 := Lib.hid hc2
  have HP := Lib.hid hp
  have eg' : ∀ (args : Array Value) (w : World), (callFunc g args).run Tryz.prog w = .ok (.enter g args) w := eg
  clear hn1 hn2 hc1 hc2 hp
  by_cases hne : n1 = n2
  · subst hne
    have hnn : ((n1 : Int) != (n1 : Int)) = false := by simp
    have HR2 : Hid (R = (xs.zip ys).all fun q => p q.1 q.2) := Lib.hid (by rw [← HRR.out]; simp)
    go_enter Tryz.func35, Tryz.ntmps35
    go_wp2_with fail
    go_loopw [17] (fun i wr => ∃ k : Nat, k ≤ n1 ∧ i = .int .i64 (k : Int) ∧ Below w.heap.size w wr ∧ AllE p xs ys k) (fun i _ => n1 - (intOf i).toNat)
    case atStart => exact ⟨0, Nat.zero_le _, rfl, Below.refl _ _, fun _ _ _ hj => absurd hj (Nat.not_lt_zero _)⟩
    case round =>
      obtain ⟨k, hk, rfl, hb, hall⟩ := hrel
      have HALL := Lib.hid hall
      clear hall
      by_cases hlt : k < n1
      · obtain ⟨x, hx⟩ := get_lt xs (k := k) (by have := HN1.out; omega)
        obtain ⟨y, hy⟩ := get_lt ys (k := k) (by have := HN2.out; omega)
        obtain ⟨b1, off1, r1, f1, rfl, k1, k2, k3, k4, k5, k6, hv1⟩ := HC1.out k _ hx
        obtain ⟨b2, off2, r2, f2, rfl, l1, l2, l3, l4, l5, l6, hv2⟩ := HC2.out k _ hy
        have k1 := cell_keeps hb k1
        have k2 := cell_keeps hb k2
        have k3 := cell_keeps hb k3
        have k4 := cell_keeps hb k4
        have k5 := cell_keeps hb k5
        have k6 := cell_keeps hb k6
        have l1 := cell_keeps hb l1
        have l2 := cell_keeps hb l2
        have l3 := cell_keeps hb l3
        have l4 := cell_keeps hb l4
        have l5 := cell_keeps hb l5
        have l6 := cell_keeps hb l6
        have hv1 := hv1.keeps hb
        have hv2 := hv2.keeps hb
        obtain ⟨ra1, rc1, fa1, fc1, rfl, rfl, _, _⟩ := hv1.shape
        obtain ⟨ra2, rc2, fa2, fc2, rfl, rfl, _, _⟩ := hv2.shape
        have hlt1 := World.block_lt_of_cell? wr _ k1
        have hlt2 := World.block_lt_of_cell? wr _ l1
        have hcall := Lib.hid (fun W (hW : Below wr.heap.size wr W) => HP.out x y (List.mem_of_getElem? hx) (List.mem_of_getElem? hy) W _ _ _ _ (hb.next hW) (hv1.keeps hW) (hv2.keeps hW))
        have HX := Lib.hid hx
        have HY := Lib.hid hy
        clear hx hy hv1 hv2
        cases hps : p x y
        · have HPS := Lib.hid hps
          clear hps
          go_wp2_with (go_at_fn g; refine (hcall.out _ (by (repeat' (first | (with_reducible exact Below.refl _ _) | (with_reducible assumption) | (with_reducible refine below_drewN ?_ _) | (with_reducible refine Below.drew ?_) | (with_reducible refine Below.alloc ?_ ?_ _) | (with_reducible refine Below.setCell ?_ ?_ _) | omega | (simp; done) | (simp; omega))))).mono ?_; rw [HPS.out]; rintro e w1 ⟨rfl, hb1⟩)
          go_ret
          exact ⟨by rw [HR2.out, AllE.no HX.out HY.out HPS.out]; rfl, hb.next (Below.next (by (repeat' (first | (with_reducible exact Below.refl _ _) | (with_reducible assumption) | (with_reducible refine below_drewN ?_ _) | (with_reducible refine Below.drew ?_) | (with_reducible refine Below.alloc ?_ ?_ _) | (with_reducible refine Below.setCell ?_ ?_ _) | omega | (simp; done) | (simp; omega)))) hb1)⟩
        · have HPS := Lib.hid hps
          clear hps
          go_wp2_with (go_at_fn g; refine (hcall.out _ (by (repeat' (first | (with_reducible exact Below.refl _ _) | (with_reducible assumption) | (with_reducible refine below_drewN ?_ _) | (with_reducible refine Below.drew ?_) | (with_reducible refine Below.alloc ?_ ?_ _) | (with_reducible refine Below.setCell ?_ ?_ _) | omega | (simp; done) | (simp; omega))))).mono ?_; rw [HPS.out]; rintro e w1 ⟨rfl, hb1⟩)
          go_roundw
          case rel => exact ⟨k + 1, by omega, by go_num, hb.next (Below.next (by (repeat' (first | (with_reducible exact Below.refl _ _) | (with_reducible assumption) | (with_reducible refine below_drewN ?_ _) | (with_reducible refine Below.drew ?_) | (with_reducible refine Below.alloc ?_ ?_ _) | (with_reducible refine Below.setCell ?_ ?_ _) | omega | (simp; done) | (simp; omega)))) hb1), HALL.out.step HX.out HY.out HPS.out⟩
          case measure => simp [intOf]; omega
      · obtain rfl : k = n1 := by omega
        go_wp2_with fail
        go_ret
        exact ⟨by rw [HR2.out, HALL.out.yes HN1.out]; rfl, hb⟩
  · have hnn : ((n1 : Int) != (n2 : Int)) = true := by simp; omega
    have HR2 : Hid (R = false) := Lib.hid (by rw [← HRR.out]; simp [hne])
    go_enter Tryz.func35, Tryz.ntmps35
    go_wp2_with fail
    go_ret
    exact ⟨by rw [HR2.out]; rfl, Below.refl _ _⟩
end Go.Proofs.YtdpnknlpkjablaaGreatDoor
