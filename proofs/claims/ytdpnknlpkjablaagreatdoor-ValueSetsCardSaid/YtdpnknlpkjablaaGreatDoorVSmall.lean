/- What goes through a value: small, odd. -/
import Derived.Test.YtdpnknlpkjablaaGreatDoorVBase
import Derived.Test.YtdpnknlpkjablaaGreatDoorInf
namespace Go.Proofs.YtdpnknlpkjablaaGreatDoor
open Go.RowKit
attribute [local go_sem] store_flt

set_option maxHeartbeats 1000000 in
set_option maxRecDepth 100000 in
theorem small_any : ∀ (d : Nat) {v : V} {r f : Value} {w : World} (left : Nat), left ≤ 100000 → VI d w v r f →
    Calls Tryz.prog 12 #[.agg #[.int .i64 v.kind, .int .i64 v.int, .float .f64 v.flt, .string v.text, r, f], .int .i64 (left : Int)] w fun e w' => (∃ n : Nat, n ≤ left ∧ e = .returned (.int .i64 (n : Int))) ∧ Below w.heap.size w w' := by
  intro d
  induction d with
  | zero => intro v r f w left _ h; exact h.elim
  | succ d ih =>
    intro v r f w left hl h
    obtain ⟨ra, rc, a, cap, rfl, rfl, hbd, hs⟩ := h.shape
    have HI := Lib.hid (fun i x (hi : v.items[i]? = some x) => h.item hi)
    generalize hn : v.items.length = n at *
    generalize v.names.length = nn at *
    have HN := Lib.hid hn
    clear hn h
    by_cases h0 : left = 0
    · subst h0
      go_enter Tryz.func12, Tryz.ntmps12
      go_wp2_with fail
      go_ret
      exact ⟨⟨0, Nat.le_refl _, rfl⟩, (by (repeat' (first | (with_reducible exact Below.refl _ _) | (with_reducible assumption) | (with_reducible refine below_drewN ?_ _) | (with_reducible refine Below.drew ?_) | (with_reducible refine Below.alloc ?_ ?_ _) | (with_reducible refine Below.setCell ?_ ?_ _) | omega | (simp; done) | (simp; omega))))⟩
    · obtain ⟨m, hm⟩ : ∃ m, left = m + 1 := ⟨left - 1, by omega⟩
      have hz : (left : Int) - 1 = (m : Int) := by omega
      have hlp : decide ((left : Int) ≤ 0) = false := decide_eq_false (by omega)
      have hml : m + 1 ≤ left := by omega
      clear hm
      go_enter Tryz.func12, Tryz.ntmps12
      go_wp2_with fail
      go_loopw [1, 5] (fun t i wr => ∃ (k q : Nat), k ≤ n ∧ q ≤ m ∧ i = .int .i64 (k : Int) ∧ t = .int .i64 (q : Int) ∧ wr.heap[w.heap.size]? = some (.cells #[.int .i64 v.kind, .int .i64 v.int, .float .f64 v.flt, .string v.text, .slice ra nn rc, .slice a n cap] 27 (0, 0)) ∧ Below w.heap.size w wr) (fun _ i _ => n - (intOf i).toNat)
      case atStart => exact ⟨0, m, Nat.zero_le _, Nat.le_refl _, rfl, by go_num, block_new _ _ rfl, (by (repeat' (first | (with_reducible exact Below.refl _ _) | (with_reducible assumption) | (with_reducible refine below_drewN ?_ _) | (with_reducible refine Below.drew ?_) | (with_reducible refine Below.alloc ?_ ?_ _) | (with_reducible refine Below.setCell ?_ ?_ _) | omega | (simp; done) | (simp; omega))))⟩
      case round =>
        obtain ⟨k, q, hk, hq, rfl, rfl, hbox, hb⟩ := hrel
        have c5 := block_cell (i := 5) hbox rfl
        by_cases hlt : k < n
        · obtain ⟨x, hx⟩ := get_lt v.items (k := k) (by have := HN.out; omega)
          obtain ⟨b, off, r', f', rfl, k1, k2, k3, k4, k5, k6, hv⟩ := HI.out k x hx
          have k1 := cell_keeps hb k1
          have k2 := cell_keeps hb k2
          have k3 := cell_keeps hb k3
          have k4 := cell_keeps hb k4
          have k5 := cell_keeps hb k5
          have k6 := cell_keeps hb k6
          have hv := hv.keeps hb
          by_cases hq0 : q = 0
          · subst hq0
            go_wp2_with fail
            go_ret
            exact ⟨⟨0, by omega, rfl⟩, hb⟩
          · have hqp : (0 : Int) < (q : Int) := by omega
            go_wp2_with fail
            refine (ih q (by omega) hv).mono ?_
            rintro e w1 ⟨⟨q', hq', rfl⟩, hb1⟩
            go_wp2_with fail
            go_roundw
            case rel => exact ⟨k + 1, q', by omega, by omega, by go_num, rfl, block_below hbox hb1, hb.next hb1⟩
            case measure => simp [intOf]; omega
        · obtain rfl : k = n := by omega
          go_wp2_with fail
          go_ret
          exact ⟨⟨q, by omega, rfl⟩, hb⟩
set_option maxHeartbeats 1000000 in
set_option maxRecDepth 100000 in
theorem odd_any : ∀ (d : Nat) {v : V} {r f : Value} {w : World}, VI d w v r f →
    Calls Tryz.prog 17 #[.agg #[.int .i64 v.kind, .int .i64 v.int, .float .f64 v.flt, .string v.text, r, f]] w fun e w' => e = .returned (.bool (oddP d v)) ∧ Below w.heap.size w w' := by
  intro d
  induction d with
  | zero => intro v r f w h; exact h.elim
  | succ d ih =>
    intro v r f w h
    obtain ⟨ra, rc, a, cap, rfl, rfl, hbd, hs⟩ := h.shape
    have HI := Lib.hid (fun i x (hi : v.items[i]? = some x) => h.item hi)
    have HR : Hid (oddP (d + 1) v = (decide (v.kind = 7) || nanB v.flt || v.items.any (oddP d))) := Lib.hid rfl
    generalize oddP (d + 1) v = R at *
    generalize hn : v.items.length = n at *
    generalize v.names.length = nn at *
    have HN := Lib.hid hn
    clear hn h
    by_cases h7 : v.kind = 7
    · have h7b : (v.kind == 7) = true := by simp [h7]
      have HR2 : Hid (R = true) := Lib.hid (by rw [HR.out]; simp [h7])
      clear h7
      go_enter Tryz.func17, Tryz.ntmps17
      go_wp2_with fail
      go_ret
      exact ⟨by rw [HR2.out]; rfl, (by (repeat' (first | (with_reducible exact Below.refl _ _) | (with_reducible assumption) | (with_reducible refine below_drewN ?_ _) | (with_reducible refine Below.drew ?_) | (with_reducible refine Below.alloc ?_ ?_ _) | (with_reducible refine Below.setCell ?_ ?_ _) | omega | (simp; done) | (simp; omega))))⟩
    · have h7b : (v.kind == 7) = false := by simp [h7]
      have HR1 : Hid (R = (nanB v.flt || v.items.any (oddP d))) := Lib.hid (by rw [HR.out]; simp [h7])
      clear h7 HR
      cases hnan : nanB v.flt with
      | true =>
        have HR2 : Hid (R = true) := Lib.hid (by rw [HR1.out, hnan]; rfl)
        have hne : (FloatKind.f64.format.order v.flt v.flt != some Ordering.eq) = true := hnan
        clear hnan HR1
        go_enter Tryz.func17, Tryz.ntmps17
        go_wp2_with fail
        go_ret
        exact ⟨by rw [HR2.out]; rfl, (by (repeat' (first | (with_reducible exact Below.refl _ _) | (with_reducible assumption) | (with_reducible refine below_drewN ?_ _) | (with_reducible refine Below.drew ?_) | (with_reducible refine Below.alloc ?_ ?_ _) | (with_reducible refine Below.setCell ?_ ?_ _) | omega | (simp; done) | (simp; omega))))⟩
      | false =>
        have HR2 : Hid (R = v.items.any (oddP d)) := Lib.hid (by rw [HR1.out, hnan]; rfl)
        have hne : (FloatKind.f64.format.order v.flt v.flt != some Ordering.eq) = false := hnan
        clear hnan HR1
        go_enter Tryz.func17, Tryz.ntmps17
        go_wp2_with fail
        go_loopw [3] (fun i wr => ∃ k : Nat, k ≤ n ∧ i = .int .i64 (k : Int) ∧ ToG (oddP d) v.items k ∧ wr.heap[w.heap.size]? = some (.cells #[.int .i64 v.kind, .int .i64 v.int, .float .f64 v.flt, .string v.text, .slice ra nn rc, .slice a n cap] 27 (0, 0)) ∧ Below w.heap.size w wr) (fun i _ => n - (intOf i).toNat)
        case atStart => exact ⟨0, Nat.zero_le _, rfl, fun j x hj => absurd hj (Nat.not_lt_zero _), block_new _ _ rfl, (by (repeat' (first | (with_reducible exact Below.refl _ _) | (with_reducible assumption) | (with_reducible refine below_drewN ?_ _) | (with_reducible refine Below.drew ?_) | (with_reducible refine Below.alloc ?_ ?_ _) | (with_reducible refine Below.setCell ?_ ?_ _) | omega | (simp; done) | (simp; omega))))⟩
        case round =>
          obtain ⟨k, hk, rfl, hto, hbox, hb⟩ := hrel
          have HTO := Lib.hid hto
          have c5 := block_cell (i := 5) hbox rfl
          clear hto
          by_cases hlt : k < n
          · obtain ⟨x, hx⟩ := get_lt v.items (k := k) (by have := HN.out; omega)
            obtain ⟨b, off, r', f', rfl, k1, k2, k3, k4, k5, k6, hv⟩ := HI.out k x hx
            have k1 := cell_keeps hb k1
            have k2 := cell_keeps hb k2
            have k3 := cell_keeps hb k3
            have k4 := cell_keeps hb k4
            have k5 := cell_keeps hb k5
            have k6 := cell_keeps hb k6
            have hv := hv.keeps hb
            have HX := Lib.hid hx
            clear hx
            go_wp2_with fail
            refine (ih hv).mono ?_
            cases ho : oddP d x with
            | true =>
              have HO := Lib.hid ho
              clear ho
              rintro e w1 ⟨rfl, hb1⟩
              go_wp2_with fail
              go_ret
              exact ⟨by rw [HR2.out, List.any_eq_true.2 ⟨x, List.mem_of_getElem? HX.out, HO.out⟩]; rfl, hb.next hb1⟩
            | false =>
              have HO := Lib.hid ho
              clear ho
              rintro e w1 ⟨rfl, hb1⟩
              go_wp2_with fail
              go_roundw
              case rel => exact ⟨k + 1, by omega, by go_num, HTO.out.step HX.out HO.out, block_below hbox hb1, hb.next hb1⟩
              case measure => simp [intOf]; omega
          · obtain rfl : k = n := by omega
            have HA : Hid (v.items.any (oddP d) = false) := Lib.hid (by
              rw [List.any_eq_false]
              intro x hx
              obtain ⟨j, hj⟩ := List.getElem?_of_mem hx
              simp [HTO.out j x (by have := (List.getElem?_eq_some_iff.1 hj).1; have := HN.out; omega) hj])
            go_wp2_with fail
            go_ret
            exact ⟨by rw [HR2.out, HA.out]; rfl, hb⟩
end Go.Proofs.YtdpnknlpkjablaaGreatDoor
