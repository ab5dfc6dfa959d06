/- Whether two values are the same. -/
import Derived.Test.YtdpnknlpkjablaaGreatDoorVFn
import Derived.Test.YtdpnknlpkjablaaGreatDoorInf
import Derived.Deep.DeepCutAuto
import Derived.StillTailTactics
namespace Go.Proofs.YtdpnknlpkjablaaGreatDoor
open Go.RowKit Go.Shelf
attribute [local go_sem] run_bits64 run_frombits64 store_flt

def Same1 (s1 s2 : List ByteArray) (k : Nat) : Prop := ∀ j : Nat, j < k → s1[j]? = s2[j]?

theorem Same1.step {s1 s2 : List ByteArray} {k : Nat} {x y : ByteArray} (h : Same1 s1 s2 k) (hx : s1[k]? = some x) (hy : s2[k]? = some y) (he : (!x.toList == y.toList) = false) : Same1 s1 s2 (k + 1) := by
  intro j hj
  by_cases hjk : j < k
  · exact h j hjk
  · obtain rfl : j = k := by omega
    simp only [Bool.not_eq_false'] at he
    rw [hx, hy, eqs_true.1 he]
theorem Same1.no {s1 s2 : List ByteArray} {k : Nat} {x y : ByteArray} (hx : s1[k]? = some x) (hy : s2[k]? = some y) (he : (!x.toList == y.toList) = true) : decide (s1 = s2) = false := by
  simp only [Bool.not_eq_true'] at he
  rw [decide_eq_false_iff_not]
  intro h
  rw [h, hy] at hx
  exact eqs_false.1 he (Option.some.inj hx).symm
theorem Same1.yes {s1 s2 : List ByteArray} {n : Nat} (h : Same1 s1 s2 n) (h1 : s1.length = n) (h2 : s2.length = n) : decide (s1 = s2) = true := by
  rw [decide_eq_true_eq]
  apply List.ext_getElem?
  intro j
  by_cases hj : j < n
  · exact h j hj
  · rw [List.getElem?_eq_none (by omega), List.getElem?_eq_none (by omega)]

set_option maxHeartbeats 400000 in
theorem equalS_any {v1 v2 : Value} {s1 s2 : List ByteArray} {w : World} (h1 : SL w v1 s1) (h2 : SL w v2 s2) :
    Calls Tryz.prog 34 #[v1, v2] w fun e w' => e = .returned (.bool (decide (s1 = s2))) ∧ ∃ q, w' = w.drewN q := by
  obtain ⟨a1, cap1, rfl, _, hm1, hc1⟩ := h1
  obtain ⟨a2, cap2, rfl, _, hm2, hc2⟩ := h2
  generalize hn1 : s1.length = n1 at *
  generalize hn2 : s2.length = n2 at *
  have HN1 := Lib.hid hn1
  have HN2 := Lib.hid hn2
  have HC1 := Lib.hid hc1
  have HC2 := Lib.hid hc2
  clear hn1 hn2 hc1 hc2
  by_cases hne : n1 = n2
  · subst hne
    go_enter Tryz.func34, Tryz.ntmps34
    go_wp2
    go_loopw [13] (fun i wr => ∃ k m : Nat, k ≤ n1 ∧ i = .int .i64 k ∧ wr = w.drewN m ∧ Same1 s1 s2 k) (fun i _ => n1 - (intOf i).toNat)
    case atStart => exact ⟨0, 0, Nat.zero_le _, rfl, rfl, fun j hj => absurd hj (Nat.not_lt_zero _)⟩
    case round =>
      obtain ⟨k, m, hk, rfl, rfl, hsame⟩ := hrel
      by_cases hlt : k < n1
      · obtain ⟨x, hx⟩ := get_lt s1 (k := k) (by have := HN1.out; omega)
        obtain ⟨y, hy⟩ := get_lt s2 (k := k) (by have := HN2.out; omega)
        obtain ⟨b1, off1, rfl, hcell1, _, _⟩ := HC1.out k _ hx
        obtain ⟨b2, off2, rfl, hcell2, _, _⟩ := HC2.out k _ hy
        have HX := Lib.hid hx
        have HY := Lib.hid hy
        clear hx hy
        go_wp2
        go_quiet (fail)
        go_wp2
        · go_ret
          exact ⟨ret_bool (Same1.no HX.out HY.out ‹_›).symm, m + nq, by simp⟩
        · go_roundw
          case rel => exact ⟨k + 1, m + nq, by omega, by go_num, rfl, hsame.step HX.out HY.out ‹_›⟩
          case measure => simp [intOf]; omega
      · obtain rfl : k = n1 := by omega
        go_wp2
        go_ret
        exact ⟨ret_bool (hsame.yes HN1.out HN2.out).symm, ⟨_, rfl⟩⟩
  · have hbb : ((n1 : Int) != (n2 : Int)) = true := by simp; omega
    go_enter Tryz.func34, Tryz.ntmps34
    go_wp2
    go_ret
    exact ⟨ret_bool (by rw [eq_comm, decide_eq_false_iff_not]; intro h; exact hne (by rw [← HN1.out, ← HN2.out, h])), ⟨0, rfl⟩⟩

theorem entersSame : Enters Tryz.prog 15 := enters_of Tryz.func15 (by kernel_rfl) rfl
theorem isNaN_any (x : Nat) (w : World) : Calls Tryz.prog 33 #[.float .f64 x] w fun e w' => e = .returned (.bool (nanB x)) ∧ w = w' := by
  have HR : Hid (nanB x = (FloatKind.f64.format.order x x != some Ordering.eq)) := Lib.hid rfl
  generalize nanB x = R at *
  go_enter Tryz.func33, Tryz.ntmps33
  go_wp2_with fail
  go_ret
  exact ⟨by rw [HR.out]; rfl, rfl⟩
set_option maxHeartbeats 4000000 in
set_option maxRecDepth 100000 in
theorem Same_any : ∀ (d : Nat) {a b : V} {r f r' f' : Value} {w : World}, VI d w a r f → VI d w b r' f' →
    Calls Tryz.prog 15 #[.agg #[.int .i64 a.kind, .int .i64 a.int, .float .f64 a.flt, .string a.text, r, f], .agg #[.int .i64 b.kind, .int .i64 b.int, .float .f64 b.flt, .string b.text, r', f']] w fun e w' => e = .returned (.bool (sameP d a b)) ∧ Below w.heap.size w w' := by
  intro d
  induction d with
  | zero => intro a b r f r' f' w h _; exact h.elim
  | succ d ih =>
    intro a b r f r' f' w h1 h2
    have hs1 := h1.names
    have hs2 := h2.names
    have hl1 := h1.list
    have hl2 := h2.list
    obtain ⟨ra, rc, fa, fc, rfl, rfl, _, _⟩ := h1.shape
    obtain ⟨ra', rc', fa', fc', rfl, rfl, _, _⟩ := h2.shape
    have HR : Hid (sameP (d + 1) a b = (fltP a.flt b.flt && decide (a.kind = b.kind) && decide (a.int = b.int) && decide (a.text = b.text) && decide (a.names = b.names) && decide (a.items.length = b.items.length) && (a.items.zip b.items).all fun p => sameP d p.1 p.2)) := Lib.hid rfl
    generalize sameP (d + 1) a b = R at *
    clear h1 h2
    go_enter Tryz.func15, Tryz.ntmps15
    go_upto_region 1 with fail
    obtain ⟨W, hW⟩ : ∃ W, (w.alloc (.cells #[.int .i64 a.kind, .int .i64 a.int, .float .f64 a.flt, .string a.text, .slice ra a.names.length rc, .slice fa a.items.length fc] 27)).alloc (.cells #[.int .i64 b.kind, .int .i64 b.int, .float .f64 b.flt, .string b.text, .slice ra' b.names.length rc', .slice fa' b.items.length fc'] 27) = W := ⟨_, rfl⟩
    have hb : Below w.heap.size w W := by rw [← hW]; (repeat' (first | (with_reducible exact Below.refl _ _) | (with_reducible assumption) | (with_reducible refine below_drewN ?_ _) | (with_reducible refine Below.drew ?_) | (with_reducible refine Below.alloc ?_ ?_ _) | (with_reducible refine Below.setCell ?_ ?_ _) | omega | (simp; done) | (simp; omega)))
    have hx : W.heap[w.heap.size]? = some (.cells #[.int .i64 a.kind, .int .i64 a.int, .float .f64 a.flt, .string a.text, .slice ra a.names.length rc, .slice fa a.items.length fc] 27 (0, 0)) := by rw [← hW]; exact block_alloc (block_new _ _ rfl) _
    have hy : W.heap[w.heap.size + 1]? = some (.cells #[.int .i64 b.kind, .int .i64 b.int, .float .f64 b.flt, .string b.text, .slice ra' b.names.length rc', .slice fa' b.items.length fc'] 27 (0, 0)) := by rw [← hW]; exact block_new _ _ (by simp)
    rw [hW]
    clear hW
    go_cut [5] (fun c wx => ∃ nq, c = .bool (fltP a.flt b.flt) ∧ wx = W.drewN nq)
    case first =>
      have x2 := block_cell (i := 2) hx rfl
      have y2 := block_cell (i := 2) hy rfl
      have HF : Hid (fltP a.flt b.flt = (decide (a.flt = b.flt) || nanB a.flt && nanB b.flt)) := Lib.hid rfl
      generalize fltP a.flt b.flt = F at *
      by_cases hxy : a.flt = b.flt
      · have hxb : ((a.flt : Int) == (b.flt : Int)) = true := by simp [hxy]
        have HF2 : Hid (F = true) := Lib.hid (by rw [HF.out]; simp [hxy])
        clear hxy HF
        go_quiet (fail)
        go_wp2_with fail
        go_meet
        exact ⟨_, by rw [HF2.out], rfl⟩
      · have hxb : ((a.flt : Int) == (b.flt : Int)) = false := by simp; omega
        have HF1 : Hid (F = (nanB a.flt && nanB b.flt)) := Lib.hid (by rw [HF.out]; simp [hxy])
        clear hxy HF
        have HN1 := Lib.hid (fun W => isNaN_any a.flt W)
        have HN2 := Lib.hid (fun W => isNaN_any b.flt W)
        generalize nanB a.flt = n1 at *
        generalize nanB b.flt = n2 at *
        cases n1
        · have HF2 : Hid (F = false) := Lib.hid (by rw [HF1.out]; rfl)
          go_quiet ((go_at_call 33; exact quiet_l (HN1.out _)))
          go_wp2_with fail
          go_meet
          exact ⟨_, by rw [HF2.out], rfl⟩
        · have HF2 : Hid (F = n2) := Lib.hid (by rw [HF1.out]; simp)
          go_quiet (first | (go_at_call 33; exact quiet_l (HN1.out _)) | (go_at_call 33; exact quiet_l (HN2.out _)))
          go_wp2_with fail
          go_meet
          exact ⟨_, by rw [HF2.out], rfl⟩
    case rest =>
      obtain ⟨nq, rfl, rfl⟩ := hcut
      have hb2 := below_drewN hb nq
      have x0 : (W.drewN nq).cell? ⟨w.heap.size, 0, none⟩ = some (.int .i64 a.kind) := block_cell (i := 0) hx rfl
      have x1 : (W.drewN nq).cell? ⟨w.heap.size, 1, none⟩ = some (.int .i64 a.int) := block_cell (i := 1) hx rfl
      have x3 : (W.drewN nq).cell? ⟨w.heap.size, 3, none⟩ = some (.string a.text) := block_cell (i := 3) hx rfl
      have x4 : (W.drewN nq).cell? ⟨w.heap.size, 4, none⟩ = some (.slice ra a.names.length rc) := block_cell (i := 4) hx rfl
      have x5 : (W.drewN nq).cell? ⟨w.heap.size, 5, none⟩ = some (.slice fa a.items.length fc) := block_cell (i := 5) hx rfl
      have y0 : (W.drewN nq).cell? ⟨w.heap.size + 1, 0, none⟩ = some (.int .i64 b.kind) := block_cell (i := 0) hy rfl
      have y1 : (W.drewN nq).cell? ⟨w.heap.size + 1, 1, none⟩ = some (.int .i64 b.int) := block_cell (i := 1) hy rfl
      have y3 : (W.drewN nq).cell? ⟨w.heap.size + 1, 3, none⟩ = some (.string b.text) := block_cell (i := 3) hy rfl
      have y4 : (W.drewN nq).cell? ⟨w.heap.size + 1, 4, none⟩ = some (.slice ra' b.names.length rc') := block_cell (i := 4) hy rfl
      have y5 : (W.drewN nq).cell? ⟨w.heap.size + 1, 5, none⟩ = some (.slice fa' b.items.length fc') := block_cell (i := 5) hy rfl
      have hs1 := SL.keeps hb2 hs1
      have hs2 := SL.keeps hb2 hs2
      have hl1 := hl1.keeps hb2
      have hl2 := hl2.keeps hb2
      have hxy : Hid (∀ n, ((W.drewN nq).drewN n).cell? ⟨w.heap.size, 5, none⟩ = some (.slice fa a.items.length fc) ∧ ((W.drewN nq).drewN n).cell? ⟨w.heap.size + 1, 5, none⟩ = some (.slice fa' b.items.length fc')) := Lib.hid (fun n => ⟨x5, y5⟩)
      clear hx hy hb
      generalize W.drewN nq = W2 at *
      clear W
      generalize fltP a.flt b.flt = F at *
      cases F
      · have HR2 : Hid (R = false) := Lib.hid (by rw [HR.out]; rfl)
        go_wp2_with fail
        go_ret
        exact ⟨by rw [HR2.out]; rfl, hb2⟩
      · by_cases hk : a.kind = b.kind
        · have hkb : (a.kind == b.kind) = true := by simp [hk]
          have HK := Lib.hid hk
          clear hk
          by_cases hi : a.int = b.int
          · have hib : (a.int == b.int) = true := by simp [hi]
            have HI := Lib.hid hi
            clear hi
            by_cases ht : a.text = b.text
            · have htb : (a.text.toList == b.text.toList) = true := by simp [ht]
              have HT := Lib.hid ht
              clear ht
              have HR1 : Hid (R = (decide (a.names = b.names) && decide (a.items.length = b.items.length) && (a.items.zip b.items).all fun p => sameP d p.1 p.2)) := Lib.hid (by rw [HR.out]; simp [HK.out, HI.out, HT.out])
              clear HR
              go_wp2_with fail
              refine (equalS_any hs1 hs2).mono ?_
              by_cases hn : a.names = b.names
              · rw [decide_eq_true hn]
                have HR2 : Hid (R = (decide (a.items.length = b.items.length) && (a.items.zip b.items).all fun p => sameP d p.1 p.2)) := Lib.hid (by rw [HR1.out]; simp [hn])
                clear hn HR1
                rintro e w3 ⟨rfl, q3, rfl⟩
                obtain ⟨z5, u5⟩ := hxy.out q3
                have hl1 := hl1.keeps (below_drewN' W2 q3)
                have hl2 := hl2.keeps (below_drewN' W2 q3)
                go_wp2_with fail
                refine (equalV_any entersSame hl1 hl2 (fun x y hx hy W r f r' f' _ k1 k2 => ih k1 k2)).mono ?_
                rw [← HR2.out]
                rintro e w4 ⟨rfl, hb4⟩
                go_wp2_with fail
                go_ret
                exact ⟨rfl, (below_drewN hb2 q3).next hb4⟩
              · rw [decide_eq_false hn]
                have HR2 : Hid (R = false) := Lib.hid (by rw [HR1.out]; simp [hn])
                clear hn HR1
                rintro e w3 ⟨rfl, q3, rfl⟩
                have hb2 := below_drewN hb2 q3
                go_wp2_with fail
                go_ret
                exact ⟨by rw [HR2.out]; rfl, hb2⟩
            · have htb : (a.text.toList == b.text.toList) = false := eqs_false.2 ht
              have HR2 : Hid (R = false) := Lib.hid (by rw [HR.out]; simp [ht])
              clear ht
              go_wp2_with fail
              go_ret
              exact ⟨by rw [HR2.out]; rfl, hb2⟩
          · have hib : (a.int == b.int) = false := by simp [hi]
            have HR2 : Hid (R = false) := Lib.hid (by rw [HR.out]; simp [hi])
            clear hi
            go_wp2_with fail
            go_ret
            exact ⟨by rw [HR2.out]; rfl, hb2⟩
        · have hkb : (a.kind == b.kind) = false := by simp [hk]
          have HR2 : Hid (R = false) := Lib.hid (by rw [HR.out]; simp [hk])
          clear hk
          go_wp2_with fail
          go_ret
          exact ⟨by rw [HR2.out]; rfl, hb2⟩
end Go.Proofs.YtdpnknlpkjablaaGreatDoor
