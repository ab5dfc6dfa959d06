/- bootjackref12.deep, right and Right of any value: the walks. -/
import Derived.Test.YthefajkihnlgfaaGreatDoorM21
import Derived.Test.YthefajkihnlgfaaGreatDoorM22
namespace Go.Proofs.YthefajkihnlgfaaGreatDoor
open Go.RowKit Go.Shelf
set_option linter.unusedSimpArgs false
set_option linter.unusedVariables false
attribute [local go_sem] run_bits64 run_frombits64 store_flt
theorem take_snoc'' {α : Type} {l : List α} {k : Nat} {u : α} (hk : l[k]? = some u) : l.take (k + 1) = l.take k ++ [u] := by
  rw [List.take_add_one, hk]; rfl
theorem deepP_le2 : ∀ (d : Nat) (v : V) (m : Int), -1 ≤ m → (deepP d v m : Int) ≤ m + 1
  | 0, _, m, h => by show (0 : Int) ≤ m + 1; omega
  | d + 1, v, m, h => by
    unfold deepP
    split
    · rename_i hc
      have : maxL (v.items.map fun x => deepP d x (m - 1)) ≤ m.toNat := by
        rw [maxL_le]
        intro z hz
        obtain ⟨y, _, rfl⟩ := List.mem_map.1 hz
        have := deepP_le2 d y (m - 1) (by omega)
        omega
      omega
    · omega
set_option maxHeartbeats 2000000 in
set_option maxRecDepth 100000 in
theorem rdeep_any : ∀ (d : Nat) (v : V) (r f : Value) (w : World) (m : Int), -1 ≤ m → m ≤ 33 → VI d w v r f →
    Calls Tryz.prog 29 #[.agg #[.int .i64 v.kind, .int .i64 v.int, .float .f64 v.flt, .string v.text, r, f], .int .i64 m] w fun e w' => e = .returned (.int .i64 (deepP d v m : Nat)) ∧ Below w.heap.size w w' := by
  intro d
  induction d with
  | zero => intro v r f w m _ _ h; exact h.elim
  | succ d ih =>
    intro v r f w m hm1 hm2 h
    obtain ⟨ra, rc, a, cap, rfl, rfl, hbd, hs⟩ := h.shape
    have HI := Lib.hid (fun i x (hi : v.items[i]? = some x) => h.item hi)
    have HR : Hid (deepP (d + 1) v m = if (v.kind = 5 ∨ v.kind = 6) ∧ 0 ≤ m then maxL (v.items.map fun x => deepP d x (m - 1)) + 1 else 0) := Lib.hid rfl
    have hle := deepP_le2 (d + 1) v m hm1
    generalize deepP (d + 1) v m = R at *
    generalize hn : v.items.length = n at *
    generalize v.names.length = nn at *
    have HN := Lib.hid hn
    have IH := Lib.hid ih
    clear hn h ih
    by_cases hmn : m < 0
    · have HR2 : Hid (R = 0) := Lib.hid (by rw [HR.out, if_neg (fun h => by omega)])
      clear HR hle
      generalize v.kind = K at *
      have hcut : ∀ b, (b = decide (K ≠ 5 ∧ K ≠ 6)) → b = b := fun _ _ => rfl
      by_cases k5 : K = 5
      · subst k5
        go_enter Tryz.func29, Tryz.ntmps29
        go_wp2_with fail
        go_ret
        exact ⟨by rw [HR2.out]; rfl, (by (repeat' (first | (with_reducible exact Below.refl _ _) | (with_reducible assumption) | (with_reducible refine below_drewN ?_ _) | (with_reducible refine Below.drew ?_) | (with_reducible refine Below.alloc ?_ ?_ _) | (with_reducible refine Below.setCell ?_ ?_ _) | omega | (simp; done) | (simp; omega))))⟩
      · have k5b : (K != 5) = true := by simp [k5]
        by_cases k6 : K = 6
        · subst k6
          go_enter Tryz.func29, Tryz.ntmps29
          go_wp2_with fail
          go_ret
          exact ⟨by rw [HR2.out]; rfl, (by (repeat' (first | (with_reducible exact Below.refl _ _) | (with_reducible assumption) | (with_reducible refine below_drewN ?_ _) | (with_reducible refine Below.drew ?_) | (with_reducible refine Below.alloc ?_ ?_ _) | (with_reducible refine Below.setCell ?_ ?_ _) | omega | (simp; done) | (simp; omega))))⟩
        · have k6b : (K != 6) = true := by simp [k6]
          go_enter Tryz.func29, Tryz.ntmps29
          go_wp2_with fail
          go_ret
          exact ⟨by rw [HR2.out]; rfl, (by (repeat' (first | (with_reducible exact Below.refl _ _) | (with_reducible assumption) | (with_reducible refine below_drewN ?_ _) | (with_reducible refine Below.drew ?_) | (with_reducible refine Below.alloc ?_ ?_ _) | (with_reducible refine Below.setCell ?_ ?_ _) | omega | (simp; done) | (simp; omega))))⟩
    · have hm0 : 0 ≤ m := by omega
      by_cases k56 : v.kind = 5 ∨ v.kind = 6
      · have HR2 : Hid (R = maxL (v.items.map fun x => deepP d x (m - 1)) + 1) := Lib.hid (by rw [HR.out, if_pos ⟨k56, hm0⟩])
        clear HR hle
        generalize v.kind = K at *
        rcases k56 with rfl | rfl
        all_goals
          go_enter Tryz.func29, Tryz.ntmps29
          go_wp2_with fail
          go_loopw [5, 6] (fun t i wr => ∃ (k q : Nat), k ≤ n ∧ q ≤ 34 ∧ q = maxL ((v.items.map fun x => deepP d x (m - 1)).take k) ∧ i = .int .i64 (k : Int) ∧ t = .int .i64 (q : Int) ∧ wr.heap[w.heap.size]? = some (.cells #[.int .i64 _, .int .i64 v.int, .float .f64 v.flt, .string v.text, .slice ra nn rc, .slice a n cap] 47 (0, 0)) ∧ Below w.heap.size w wr) (fun _ i _ => n - (intOf i).toNat)
          case atStart => exact ⟨0, 0, Nat.zero_le _, by omega, rfl, rfl, by go_num, block_new _ _ rfl, (by (repeat' (first | (with_reducible exact Below.refl _ _) | (with_reducible assumption) | (with_reducible refine below_drewN ?_ _) | (with_reducible refine Below.drew ?_) | (with_reducible refine Below.alloc ?_ ?_ _) | (with_reducible refine Below.setCell ?_ ?_ _) | omega | (simp; done) | (simp; omega))))⟩
          case round =>
            obtain ⟨k, q, hk, hqd, hq, rfl, rfl, hbox, hb⟩ := hrel
            have c5 := block_cell (i := 5) hbox rfl
            have HQ := Lib.hid hq
            clear hq
            by_cases hlt : k < n
            · obtain ⟨x, hx⟩ := get_lt v.items (k := k) (by have := HN.out; omega)
              obtain ⟨b, off, r', f', rfl, k1, k2, k3, k4, k5, k6, hv⟩ := HI.out k x hx
              have k1 := cell_keeps hb k1
              have k2 := cell_keeps hb k2
              have k3 := cell_keeps hb k3
              have k4 := cell_keeps hb k4
              have k5 := cell_keeps hb k5
              have k6 := cell_keeps hb k6
              have hv := hv.keeps hb
              have hxd := deepP_le2 d x (m - 1) (by omega)
              have HX : Hid (maxL ((v.items.map fun x => deepP d x (m - 1)).take (k + 1)) = max q (deepP d x (m - 1))) := Lib.hid (by
                rw [take_snoc'' (u := deepP d x (m - 1)) (by rw [List.getElem?_map, hx]; rfl), maxL_app, ← HQ.out])
              have HC := Lib.hid (IH.out x _ _ _ (m - 1) (by omega) (by omega) hv)
              generalize deepP d x (m - 1) = z at *
              clear hx hv
              by_cases hzq : q < z
              · have hzI : (q : Int) < (z : Int) := by omega
                go_wp2_with fail
                refine HC.out.mono ?_
                rintro e w1 ⟨rfl, hb1⟩
                go_wp2_with fail
                go_roundw
                case rel => exact ⟨k + 1, z, by omega, by omega, by rw [HX.out]; omega, by go_num, rfl, block_below hbox hb1, hb.next hb1⟩
                case measure => simp [intOf]; omega
              · have hzI : ¬ (q : Int) < (z : Int) := by omega
                go_wp2_with fail
                refine HC.out.mono ?_
                rintro e w1 ⟨rfl, hb1⟩
                go_wp2_with fail
                go_roundw
                case rel => exact ⟨k + 1, q, by omega, by omega, by rw [HX.out]; omega, by go_num, rfl, block_below hbox hb1, hb.next hb1⟩
                case measure => simp [intOf]; omega
            · obtain rfl : k = n := by omega
              have HF : Hid (R = q + 1) := Lib.hid (by
                rw [HR2.out, HQ.out, List.take_of_length_le (by rw [List.length_map, HN.out]; exact Nat.le_refl _)])
              go_wp2_with fail
              go_ret
              exact ⟨by rw [HF.out]; rfl, hb⟩
      · have HR2 : Hid (R = 0) := Lib.hid (by rw [HR.out, if_neg (fun h => k56 h.1)])
        have k5b : (v.kind != 5) = true := by simp; exact fun e => k56 (Or.inl e)
        have k6b : (v.kind != 6) = true := by simp; exact fun e => k56 (Or.inr e)
        clear HR hle k56
        generalize v.kind = K at *
        go_enter Tryz.func29, Tryz.ntmps29
        go_wp2_with fail
        go_ret
        exact ⟨by rw [HR2.out]; rfl, (by (repeat' (first | (with_reducible exact Below.refl _ _) | (with_reducible assumption) | (with_reducible refine below_drewN ?_ _) | (with_reducible refine Below.drew ?_) | (with_reducible refine Below.alloc ?_ ?_ _) | (with_reducible refine Below.setCell ?_ ?_ _) | omega | (simp; done) | (simp; omega))))⟩
end Go.Proofs.YthefajkihnlgfaaGreatDoor

