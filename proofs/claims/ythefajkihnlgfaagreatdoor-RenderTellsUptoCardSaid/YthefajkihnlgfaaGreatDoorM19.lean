/- slices.IndexFunc, ContainsFunc, EqualFunc over values. -/
import Derived.Test.YthefajkihnlgfaaGreatDoorVBase
import Derived.Shelf.Abstract
import Derived.Test.YthefajkihnlgfaaGreatDoorM03
import Derived.Deep.DeepCutAuto
import Derived.StillTailTactics
namespace Go.Proofs.YthefajkihnlgfaaGreatDoor
open Go.RowKit Go.Shelf
attribute [local go_sem] store_flt
/-- A function value that tells p of each of the values, wherever it is asked. -/
def PredV (g : Nat) (lb : Array Value) (d : Nat) (w : World) (xs : List V) (p : V → Bool) : Prop :=
  ∀ x, x ∈ xs → ∀ W r f, Below w.heap.size w W → VI d W x r f → Calls Tryz.prog g (#[.agg #[.int .i64 x.kind, .int .i64 x.int, .float .f64 x.flt, .string x.text, r, f]] ++ lb) W fun e w' => e = .returned (.bool (p x)) ∧ Below W.heap.size W w'
set_option maxHeartbeats 1000000 in
set_option maxRecDepth 100000 in
theorem indexV_any {g : Nat} {lb : Array Value} {d : Nat} {v : Value} {xs : List V} {w : World} {p : V → Bool} (eg : Enters Tryz.prog g) (h1 : VLs d w v xs) (hp : PredV g lb d w xs p) :
    Calls Tryz.prog 42 #[v, .func (.func g) #[] lb] w fun e w' => e = .returned (.int .i64 (idxG p xs)) ∧ Below w.heap.size w w' := by
  obtain ⟨a, cap, rfl, _, hm, hc⟩ := h1
  generalize hn : xs.length = n at *
  have HN := Lib.hid hn
  have HC := Lib.hid hc
  have HP := Lib.hid hp
  have eg' : ∀ (args : Array Value) (w : World), (callFunc g args).run Tryz.prog w = .ok (.enter g args) w := eg
  clear hn hc hp
  go_enter Tryz.func42, Tryz.ntmps42
  go_wp2
  go_loopw [5, 8] (fun _ i wr => ∃ k : Nat, k ≤ n ∧ i = .int .i64 k ∧ Below w.heap.size w wr ∧ ToG p xs k) (fun _ i _ => n - (intOf i).toNat)
  case atStart => exact ⟨0, Nat.zero_le _, rfl, Below.refl _ _, fun _ _ hj => absurd hj (Nat.not_lt_zero _)⟩
  case round =>
    obtain ⟨k, hk, rfl, hb, hto⟩ := hrel
    by_cases hlt : k < n
    · obtain ⟨x, hx⟩ := get_lt xs (k := k) (by have := HN.out; omega)
      obtain ⟨b, off, r', f', rfl, k1, k2, k3, k4, k5, k6, hv⟩ := HC.out k _ hx
      have k1 := cell_keeps hb k1
      have k2 := cell_keeps hb k2
      have k3 := cell_keeps hb k3
      have k4 := cell_keeps hb k4
      have k5 := cell_keeps hb k5
      have k6 := cell_keeps hb k6
      have hcall := Lib.hid (HP.out x (List.mem_of_getElem? hx) wr r' f' hb (hv.keeps hb))
      have HS := Lib.hid hx
      clear hx hv
      cases hps : p x
      · have HPS := Lib.hid hps
        clear hps
        go_wp2_with (go_at_fn g; refine hcall.out.mono ?_; rw [HPS.out]; rintro e w1 ⟨rfl, hb1⟩)
        go_roundw
        case rel => exact ⟨k + 1, by omega, by go_num, hb.next hb1, hto.step HS.out HPS.out⟩
        case measure => simp [intOf]; omega
      · have HPS := Lib.hid hps
        clear hps
        go_wp2_with (go_at_fn g; refine hcall.out.mono ?_; rw [HPS.out]; rintro e w1 ⟨rfl, hb1⟩)
        go_ret
        exact ⟨ret_int (idxG_some HS.out HPS.out hto).symm, hb.next hb1⟩
    · obtain rfl : k = n := by omega
      go_wp2
      go_ret
      exact ⟨ret_int (idxG_none (fun j x hx => hto j x (by have := (List.getElem?_eq_some_iff.1 hx).1; rw [HN.out] at this; exact this) hx)).symm, hb⟩
set_option maxHeartbeats 1000000 in
theorem containsV_any {g : Nat} {lb : Array Value} {d : Nat} {v : Value} {xs : List V} {w : World} {p : V → Bool} (eg : Enters Tryz.prog g) (h1 : VLs d w v xs) (hp : PredV g lb d w xs p) :
    Calls Tryz.prog 34 #[v, .func (.func g) #[] lb] w fun e w' => e = .returned (.bool (xs.any p)) ∧ Below w.heap.size w w' := by
  have HP := Lib.hid hp
  have h1' := h1
  obtain ⟨a, cap, rfl, _, hm, hc⟩ := h1'
  clear hp hc
  rw [← idxG_any]
  generalize hr : idxG p xs = r
  have HR := Lib.hid hr
  clear hr
  go_enter Tryz.func34, Tryz.ntmps34
  go_wp2_with fail
  refine (indexV_any eg h1 HP.out).mono ?_
  rw [HR.out]
  rintro e w1 ⟨rfl, hb1⟩
  go_wp2_with fail
  go_ret
  exact ⟨rfl, hb1⟩
/-- A function value that tells p of any two. -/
def PredE (g : Nat) (d : Nat) (w : World) (xs ys : List V) (p : V → V → Bool) : Prop :=
  ∀ x y, x ∈ xs → y ∈ ys → ∀ W r f r' f', Below w.heap.size w W → VI d W x r f → VI d W y r' f' → Calls Tryz.prog g #[.agg #[.int .i64 x.kind, .int .i64 x.int, .float .f64 x.flt, .string x.text, r, f], .agg #[.int .i64 y.kind, .int .i64 y.int, .float .f64 y.flt, .string y.text, r', f']] W fun e w' => e = .returned (.bool (p x y)) ∧ Below W.heap.size W w'
def AllE (p : V → V → Bool) (xs ys : List V) (k : Nat) : Prop := ∀ (j : Nat) (x y : V), j < k → xs[j]? = some x → ys[j]? = some y → p x y = true
theorem AllE.step {p : V → V → Bool} {xs ys : List V} {k : Nat} {x y : V} (h : AllE p xs ys k) (hx : xs[k]? = some x) (hy : ys[k]? = some y) (he : p x y = true) : AllE p xs ys (k + 1) := by
  intro j a b hj ha hb
  by_cases e : j = k
  · subst e; rw [hx] at ha; rw [hy] at hb; cases ha; cases hb; exact he
  · exact h j a b (by omega) ha hb
theorem AllE.yes {p : V → V → Bool} {xs ys : List V} {n : Nat} (h : AllE p xs ys n) (h1 : xs.length = n) : (xs.zip ys).all (fun q => p q.1 q.2) = true := by
  rw [List.all_eq_true]
  intro q hq
  obtain ⟨j, hj⟩ := List.getElem?_of_mem hq
  rw [List.getElem?_zip_eq_some] at hj
  exact h j _ _ (by rw [← h1]; exact (List.getElem?_eq_some_iff.1 hj.1).1) hj.1 hj.2
theorem AllE.no {p : V → V → Bool} {xs ys : List V} {k : Nat} {x y : V} (hx : xs[k]? = some x) (hy : ys[k]? = some y) (he : p x y = false) : (xs.zip ys).all (fun q => p q.1 q.2) = false := by
  rw [List.all_eq_false]
  exact ⟨(x, y), List.mem_of_getElem? (i := k) (List.getElem?_zip_eq_some.2 ⟨hx, hy⟩), by simp [he]⟩
end Go.Proofs.YthefajkihnlgfaaGreatDoor

/- Whether a value is right. -/
namespace Go.Proofs.YthefajkihnlgfaaGreatDoor
open Go.RowKit Go.Shelf
attribute [local go_sem] run_bits64 run_frombits64 store_flt
theorem empty_of_size {t : ByteArray} (h : t.size = 0) : t = ⟨#[]⟩ := by
  cases t with
  | mk data => congr 1; exact Array.eq_empty_of_size_eq_zero h
theorem size_ne {t : ByteArray} (h : t ≠ ⟨#[]⟩) : t.size ≠ 0 := fun e => h (empty_of_size e)
theorem toList_ne {t : ByteArray} (h : t ≠ ⟨#[]⟩) : (([] : List UInt8) == t.toList) = false := by
  have : ((⟨#[]⟩ : ByteArray).toList == t.toList) = false := eqs_false.2 (fun e => h e.symm)
  simpa using this
/-- What right tells of a value of so many levels. -/
def RightAt (d : Nat) : Prop := ∀ {v : V} {r f : Value} {w : World} (deep : Nat), deep ≤ 32 → VI d w v r f →
    Calls Tryz.prog 26 #[.agg #[.int .i64 v.kind, .int .i64 v.int, .float .f64 v.flt, .string v.text, r, f], .int .i64 (deep : Int)] w fun e w' => e = .returned (.bool (rightP d deep v)) ∧ Below w.heap.size w w'

end Go.Proofs.YthefajkihnlgfaaGreatDoor

