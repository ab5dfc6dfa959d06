/- equal of any two values. -/
import Derived.Test.YtdpnknlpkjablaaGreatDoorVEqual
import Derived.Test.YtdpnknlpkjablaaGreatDoorRegMid
namespace Go.Proofs.YtdpnknlpkjablaaGreatDoor
open Go.RowKit Go.Shelf
attribute [local go_sem] run_bits64 run_frombits64 store_flt

def EqTo (f : V → V → Bool × Int) (xs ys : List V) (k : Nat) : Prop := itemsE f xs ys = itemsE f (xs.drop k) (ys.drop k)
theorem EqTo.zero (f : V → V → Bool × Int) (xs ys : List V) : EqTo f xs ys 0 := rfl
theorem drop_at {l : List V} {k : Nat} {x : V} (h : l[k]? = some x) : l.drop k = x :: l.drop (k + 1) := by
  obtain ⟨hk, hx⟩ := List.getElem?_eq_some_iff.1 h
  rw [List.drop_eq_getElem_cons hk, hx]
theorem EqTo.step {f : V → V → Bool × Int} {xs ys : List V} {k : Nat} {x y : V} (h : EqTo f xs ys k) (hx : xs[k]? = some x) (hy : ys[k]? = some y) (he : (f x y).1 = true) : EqTo f xs ys (k + 1) := by
  unfold EqTo at *
  rw [h, drop_at hx, drop_at hy]
  simp only [itemsE]
  rw [if_pos he]
theorem EqTo.no {f : V → V → Bool × Int} {xs ys : List V} {k : Nat} {x y : V} (h : EqTo f xs ys k) (hx : xs[k]? = some x) (hy : ys[k]? = some y) (he : (f x y).1 = false) : itemsE f xs ys = (false, (f x y).2) := by
  rw [h, drop_at hx, drop_at hy]
  simp only [itemsE]
  rw [if_neg (by rw [he]; simp)]
theorem EqTo.yes {f : V → V → Bool × Int} {xs ys : List V} {n : Nat} (h : EqTo f xs ys n) (hn : xs.length = n) : itemsE f xs ys = (true, 0) := by
  rw [h, List.drop_eq_nil_of_le (by omega)]
  simp [itemsE]
set_option maxHeartbeats 4000000 in
set_option maxRecDepth 100000 in
theorem equalAny : ∀ (d : Nat) {a b : V} {r f r' f' : Value} {w : World}, VI d w a r f → VI d w b r' f' →
    Calls Tryz.prog 36 #[.agg #[.int .i64 a.kind, .int .i64 a.int, .float .f64 a.flt, .string a.text, r, f], .agg #[.int .i64 b.kind, .int .i64 b.int, .float .f64 b.flt, .string b.text, r', f']] w fun e w' => e = .returned (.tuple #[.bool (equalP d a b).1, .int .i64 (equalP d a b).2]) ∧ Below w.heap.size w w' := by
  intro d
  induction d with
  | zero => intro a b r f r' f' w h _; exact h.elim
  | succ d ih =>
    intro a b r f r' f' w h1 h2
    obtain ⟨ra, rc, fa, fc, rfl, rfl, hbd1, _⟩ := h1.shape
    obtain ⟨ra', rc', fa', fc', rfl, rfl, hbd2, _⟩ := h2.shape
    have HFL := Lib.hid (fun W (hW : Below w.heap.size w W) => floatsV_any (h1.keeps hW) (h2.keeps hW))
    have HSAME := Lib.hid (fun W (hW : Below w.heap.size w W) => Same_any (d + 1) (h1.keeps hW) (h2.keeps hW))
    have HNM := Lib.hid (fun W (hW : Below w.heap.size w W) => equalS_any (SL.keeps hW h1.names) (SL.keeps hW h2.names))
    have HI1 := Lib.hid (fun i x (hi : a.items[i]? = some x) => h1.item hi)
    have HI2 := Lib.hid (fun i x (hi : b.items[i]? = some x) => h2.item hi)
    have HYES := Lib.hid (@equalP_flt d a b)
    have HNO := Lib.hid (@equalP_else d a b)
    generalize equalP (d + 1) a b = R at *
    obtain ⟨R1, R2⟩ := R
    clear h1 h2
    go_enter Tryz.func36, Tryz.ntmps36
    go_wp2_with fail
    obtain ⟨W, hW⟩ : ∃ W, (w.alloc (.cells #[.int .i64 a.kind, .int .i64 a.int, .float .f64 a.flt, .string a.text, .slice ra a.names.length rc, .slice fa a.items.length fc] 27)).alloc (.cells #[.int .i64 b.kind, .int .i64 b.int, .float .f64 b.flt, .string b.text, .slice ra' b.names.length rc', .slice fa' b.items.length fc'] 27) = W := ⟨_, rfl⟩
    have hb : Below w.heap.size w W := by rw [← hW]; (repeat' (first | (with_reducible exact Below.refl _ _) | (with_reducible assumption) | (with_reducible refine below_drewN ?_ _) | (with_reducible refine Below.drew ?_) | (with_reducible refine Below.alloc ?_ ?_ _) | (with_reducible refine Below.setCell ?_ ?_ _) | omega | (simp; done) | (simp; omega)))
    have hx : W.heap[w.heap.size]? = some (.cells #[.int .i64 a.kind, .int .i64 a.int, .float .f64 a.flt, .string a.text, .slice ra a.names.length rc, .slice fa a.items.length fc] 27 (0, 0)) := by rw [← hW]; exact block_alloc (block_new _ _ rfl) _
    have hy : W.heap[w.heap.size + 1]? = some (.cells #[.int .i64 b.kind, .int .i64 b.int, .float .f64 b.flt, .string b.text, .slice ra' b.names.length rc', .slice fa' b.items.length fc'] 27 (0, 0)) := by rw [← hW]; exact block_new _ _ (by simp)
    rw [hW]
    clear hW
    refine (HFL.out _ hb).mono ?_
    rintro e w1 ⟨rfl, hb1⟩
    have hb2 := hb.next hb1
    have hx := block_below hx hb1
    have hy := block_below hy hb1
    have x0 : w1.cell? ⟨w.heap.size, 0, none⟩ = some (.int .i64 a.kind) := block_cell (i := 0) hx rfl
    have y0 : w1.cell? ⟨w.heap.size + 1, 0, none⟩ = some (.int .i64 b.kind) := block_cell (i := 0) hy rfl
    clear hb hb1
    go_upto_region 2 with fail
    go_cut [29] (fun c wx => c = .bool (condF a b) ∧ wx = w1)
    case first =>
      have HC : Hid (condF a b = (numB a && numB b && (decide (a.kind = 3) || decide (b.kind = 3)))) := Lib.hid rfl
      generalize condF a b = C at *
      generalize (numB a && numB b) = N at *
      cases N
      · have HC2 : Hid (C = false) := Lib.hid (by rw [HC.out]; rfl)
        clear HC
        go_wp2_with fail
        go_meet
        exact ⟨by rw [HC2.out], rfl⟩
      · by_cases h3 : a.kind = 3
        · have h3b : (a.kind == 3) = true := by simp [h3]
          have HC2 : Hid (C = true) := Lib.hid (by rw [HC.out]; simp [h3])
          clear HC h3
          go_wp2_with fail
          go_meet
          exact ⟨by rw [HC2.out], rfl⟩
        · have h3b : (a.kind == 3) = false := by simp [h3]
          have HC2 : Hid (C = (b.kind == 3)) := Lib.hid (by rw [HC.out]; simp [h3]; rfl)
          clear HC h3
          go_wp2_with fail
          go_meet
          exact ⟨by rw [HC2.out], rfl⟩
    case rest =>
      obtain ⟨rfl, rfl⟩ := hcut
      generalize condF a b = C at *
      cases C
      · have HR := Lib.hid (HNO.out rfl)
        clear HYES HNO
        by_cases hk : a.kind = b.kind
        · have hkb : (a.kind != b.kind) = false := by simp [hk]
          have HK := Lib.hid hk
          have HR2 := Lib.hid (HR.out.trans (if_neg (by simp [hk])))
          clear hk HR
          by_cases h7 : a.kind = 7
          · have h7b : (a.kind == 7) = true := by simp [h7]
            have HR3 := Lib.hid (HR2.out.trans (if_pos h7))
            have E1 : Hid (R1 = false) := Lib.hid (congrArg Prod.fst HR3.out)
            have E2 : Hid (R2 = 11) := Lib.hid (congrArg Prod.snd HR3.out)
            clear h7 HR2
            go_wp2_with fail
            go_ret2
            exact ⟨by rw [E1.out, E2.out]; rfl, hb2⟩
          · have h7b : (a.kind == 7) = false := by simp [h7]
            have HR3 := Lib.hid (HR2.out.trans (if_neg h7))
            clear h7 HR2
            by_cases hls : a.kind = 5 ∨ a.kind = 6
            · have HR4 := Lib.hid (HR3.out.trans (if_pos hls))
              clear HR3
              have HLS : Hid (a.kind = 5 ∨ a.kind = 6) := Lib.hid hls
              have x4 : wc.cell? ⟨w.heap.size, 4, none⟩ = some (.slice ra a.names.length rc) := block_cell (i := 4) hx rfl
              have x5 : wc.cell? ⟨w.heap.size, 5, none⟩ = some (.slice fa a.items.length fc) := block_cell (i := 5) hx rfl
              have y4 : wc.cell? ⟨w.heap.size + 1, 4, none⟩ = some (.slice ra' b.names.length rc') := block_cell (i := 4) hy rfl
              have y5 : wc.cell? ⟨w.heap.size + 1, 5, none⟩ = some (.slice fa' b.items.length fc') := block_cell (i := 5) hy rfl
              have hkk : ∃ A5 : Bool, (a.kind == 5) = A5 ∧ (A5 = false → (a.kind == 6) = true) := by
                rcases HLS.out with h | h
                · exact ⟨true, by simp [h], fun e => by cases e⟩
                · exact ⟨false, by simp [h], fun _ => by simp [h]⟩
              obtain ⟨A5, h5b, h6⟩ := hkk
              clear hls
              generalize hn1 : a.items.length = n1 at *
              generalize hn2 : b.items.length = n2 at *
              have HN1 := Lib.hid hn1
              have HN2 := Lib.hid hn2
              clear hn1 hn2
              by_cases hl : n1 = n2
              · subst hl
                have hlb : ((n1 : Int) != (n1 : Int)) = false := by simp
                by_cases hn : a.names = b.names
                · have HR5 : Hid ((R1, R2) = itemsE (equalP d) a.items b.items) := Lib.hid (by rw [HR4.out, if_neg (by simp [hn])])
                  have hnm := HNM.out wc hb2
                  rw [decide_eq_true hn] at hnm
                  have HNM2 := Lib.hid hnm
                  have HXY := Lib.hid hx
                  have HYX := Lib.hid hy
                  clear HR4 HNM hn hnm hx hy HSAME HFL
                  have hwalk : ∀ A : Bool, A5 = A → True := fun _ _ => trivial
                  cases A5
                  all_goals
                    (try have h6b := h6 rfl)
                    clear h6
                    go_wp2_with fail
                    refine HNM2.out.mono ?_
                    rintro e w3 ⟨rfl, q3, rfl⟩
                    have x5' : (wc.drewN q3).cell? ⟨w.heap.size, 5, none⟩ = some (.slice fa n1 fc) := x5
                    have hb3 := below_drewN hb2 q3
                    have hx3 : (wc.drewN q3).heap[w.heap.size]? = _ := HXY.out
                    have hy3 : (wc.drewN q3).heap[w.heap.size + 1]? = _ := HYX.out
                    have HX3 := Lib.hid hx3
                    have HY3 := Lib.hid hy3
                    clear hx3 hy3 x4 x5 y4 y5 x0 y0
                    go_wp2_with fail
                    go_loopw [63] (fun i wr => ∃ k : Nat, k ≤ n1 ∧ i = .int .i64 (k : Int) ∧ Hid (EqTo (equalP d) a.items b.items k) ∧ wr.heap[w.heap.size]? = some (.cells #[.int .i64 a.kind, .int .i64 a.int, .float .f64 a.flt, .string a.text, .slice ra a.names.length rc, .slice fa n1 fc] 27 (0, 0)) ∧ wr.heap[w.heap.size + 1]? = some (.cells #[.int .i64 b.kind, .int .i64 b.int, .float .f64 b.flt, .string b.text, .slice ra' b.names.length rc', .slice fa' n1 fc'] 27 (0, 0)) ∧ Below w.heap.size w wr) (fun i _ => n1 - (intOf i).toNat)
                    case atStart => exact ⟨0, Nat.zero_le _, rfl, EqTo.zero _ _ _, HX3.out, HY3.out, hb3⟩
                    case round =>
                      clear x5' hb3 HX3 HY3
                      obtain ⟨k, hk, rfl, HE, hx, hy, hb⟩ := hrel
                      have x5 := block_cell (i := 5) hx rfl
                      have y5 := block_cell (i := 5) hy rfl
                      by_cases hlt : k < n1
                      · obtain ⟨x, hxk⟩ := get_lt a.items (k := k) (by have := HN1.out; omega)
                        obtain ⟨y, hyk⟩ := get_lt b.items (k := k) (by have := HN2.out; omega)
                        obtain ⟨b1, off1, r1, f1, rfl, k1, k2, k3, k4, k5, k6, hv1⟩ := HI1.out k x hxk
                        obtain ⟨b2, off2, r2, f2, rfl, l1, l2, l3, l4, l5, l6, hv2⟩ := HI2.out k y hyk
                        have k1 := cell_keeps hb k1
                        have k2 := cell_keeps hb k2
                        have k3 := cell_keeps hb k3
                        have k4 := cell_keeps hb k4
                        have k5 := cell_keeps hb k5
                        have k6 := cell_keeps hb k6
                        have l1 := cell_keeps hb l1
                        have l2 := cell_keeps hb l2
                        have l3 := cell_keeps hb l3
                        have l4 := cell_keeps hb l4
                        have l5 := cell_keeps hb l5
                        have l6 := cell_keeps hb l6
                        have hv1 := (hv1.keeps hb).keeps (below_drewN' wr 1)
                        have hv2 := (hv2.keeps hb).keeps (below_drewN' wr 1)
                        have HCALL := Lib.hid (ih hv1 hv2)
                        have HXK := Lib.hid hxk
                        have HYK := Lib.hid hyk
                        clear hv1 hv2 hxk hyk
                        go_wp2_with fail
                        refine wp_region_mid 10 (by kernel_rfl) (by kernel_rfl) rfl rfl ?_
                        simp only [List.take_succ_cons, List.take_zero, List.drop_succ_cons, List.drop_zero]
                        repeat still_step
                        refine wpStill_nil ?_
                        change Oper.wp _ _ _ wr.drew _ _
                        go_simp
                        refine HCALL.out.mono ?_
                        generalize hq : equalP d x y = q
                        have HQ := Lib.hid hq
                        clear hq
                        obtain ⟨q1, q2⟩ := q
                        rintro e w4 ⟨rfl, hb4⟩
                        have hb5 : Below w.heap.size w w4 := (below_drewN hb 1).next hb4
                        have hx6 := block_below (show (wr.drewN 1).heap[w.heap.size]? = _ from hx) hb4
                        have hy6 := block_below (show (wr.drewN 1).heap[w.heap.size + 1]? = _ from hy) hb4
                        repeat still_step
                        refine wpStill_nil ?_
                        cases q1
                        · have HR6 : Hid ((R1, R2) = (false, q2)) := Lib.hid (by rw [HR5.out, HE.out.no HXK.out HYK.out (by rw [HQ.out]), HQ.out])
                          have E1 : Hid (R1 = false) := Lib.hid (congrArg Prod.fst HR6.out)
                          have E2 : Hid (R2 = q2) := Lib.hid (congrArg Prod.snd HR6.out)
                          go_wp2_with fail
                          go_ret2
                          exact ⟨by rw [E1.out, E2.out]; rfl, hb5⟩
                        · go_wp2_with fail
                          go_roundw
                          case rel => exact ⟨k + 1, by omega, by go_num, HE.out.step HXK.out HYK.out (by rw [HQ.out]), hx6, hy6, hb5⟩
                          case measure => simp [intOf]; omega
                      · obtain rfl : k = n1 := by omega
                        have HR6 : Hid ((R1, R2) = (true, 0)) := Lib.hid (HR5.out.trans (EqTo.yes HE.out HN1.out))
                        have E1 : Hid (R1 = true) := Lib.hid (congrArg Prod.fst HR6.out)
                        have E2 : Hid (R2 = 0) := Lib.hid (congrArg Prod.snd HR6.out)
                        go_wp2_with fail
                        go_ret2
                        exact ⟨by rw [E1.out, E2.out]; rfl, hb⟩
                · have HR5 : Hid ((R1, R2) = (false, 0)) := Lib.hid (by rw [HR4.out, if_pos (Or.inr hn)])
                  have E1 : Hid (R1 = false) := Lib.hid (congrArg Prod.fst HR5.out)
                  have E2 : Hid (R2 = 0) := Lib.hid (congrArg Prod.snd HR5.out)
                  have hnm := HNM.out wc hb2
                  rw [decide_eq_false hn] at hnm
                  have HNM2 := Lib.hid hnm
                  clear HR4 HNM hn hnm hx hy HSAME HFL
                  cases A5
                  all_goals
                    (try have h6b := h6 rfl)
                    clear h6
                    go_wp2_with fail
                    refine HNM2.out.mono ?_
                    rintro e w3 ⟨rfl, q3, rfl⟩
                    go_wp2_with fail
                    go_ret2
                    exact ⟨by rw [E1.out, E2.out]; rfl, below_drewN hb2 q3⟩
              · have hlb : ((n1 : Int) != (n2 : Int)) = true := by simp; omega
                have HR5 : Hid ((R1, R2) = (false, 0)) := Lib.hid (by rw [HR4.out, if_pos (Or.inl (by simp; omega))])
                have E1 : Hid (R1 = false) := Lib.hid (congrArg Prod.fst HR5.out)
                have E2 : Hid (R2 = 0) := Lib.hid (congrArg Prod.snd HR5.out)
                clear HR4 hl
                cases A5
                all_goals
                  (try have h6b := h6 rfl)
                  clear h6
                  go_wp2_with fail
                  go_ret2
                  exact ⟨by rw [E1.out, E2.out]; rfl, hb2⟩
            · have h5b : (a.kind == 5) = false := by simp; omega
              have h6b : (a.kind == 6) = false := by simp; omega
              have HR4 := Lib.hid (HR3.out.trans (if_neg hls))
              have E1 : Hid (R1 = sameP (d + 1) a b) := Lib.hid (congrArg Prod.fst HR4.out)
              have E2 : Hid (R2 = 0) := Lib.hid (congrArg Prod.snd HR4.out)
              clear hls HR3
              have x1 : wc.cell? ⟨w.heap.size, 1, none⟩ = some (.int .i64 a.int) := block_cell (i := 1) hx rfl
              have x2 : wc.cell? ⟨w.heap.size, 2, none⟩ = some (.float .f64 a.flt) := block_cell (i := 2) hx rfl
              have x3 : wc.cell? ⟨w.heap.size, 3, none⟩ = some (.string a.text) := block_cell (i := 3) hx rfl
              have x4 : wc.cell? ⟨w.heap.size, 4, none⟩ = some (.slice ra a.names.length rc) := block_cell (i := 4) hx rfl
              have x5 : wc.cell? ⟨w.heap.size, 5, none⟩ = some (.slice fa a.items.length fc) := block_cell (i := 5) hx rfl
              have y1 : wc.cell? ⟨w.heap.size + 1, 1, none⟩ = some (.int .i64 b.int) := block_cell (i := 1) hy rfl
              have y2 : wc.cell? ⟨w.heap.size + 1, 2, none⟩ = some (.float .f64 b.flt) := block_cell (i := 2) hy rfl
              have y3 : wc.cell? ⟨w.heap.size + 1, 3, none⟩ = some (.string b.text) := block_cell (i := 3) hy rfl
              have y4 : wc.cell? ⟨w.heap.size + 1, 4, none⟩ = some (.slice ra' b.names.length rc') := block_cell (i := 4) hy rfl
              have y5 : wc.cell? ⟨w.heap.size + 1, 5, none⟩ = some (.slice fa' b.items.length fc') := block_cell (i := 5) hy rfl
              have HS := Lib.hid (HSAME.out _ hb2)
              generalize sameP (d + 1) a b = SP at *
              go_wp2_with fail
              refine HS.out.mono ?_
              rintro e w4 ⟨rfl, hb4⟩
              go_wp2_with fail
              go_ret2
              exact ⟨by rw [E1.out, E2.out]; rfl, hb2.next hb4⟩
        · have hkb : (a.kind != b.kind) = true := by simp [hk]
          have HR2 := Lib.hid (HR.out.trans (if_pos hk))
          have E1 : Hid (R1 = false) := Lib.hid (congrArg Prod.fst HR2.out)
          have E2 : Hid (R2 = 0) := Lib.hid (congrArg Prod.snd HR2.out)
          clear hk HR
          go_wp2_with fail
          go_ret2
          exact ⟨by rw [E1.out, E2.out]; rfl, hb2⟩
      · have HR := Lib.hid (HYES.out rfl)
        have HE : Hid (eqF (flV a) (flV b) = (FloatKind.f64.format.order (flV a) (flV b) == some Ordering.eq)) := Lib.hid rfl
        clear HYES HNO
        go_wp2_with fail
        go_ret2
        refine ⟨?_, hb2⟩
        have h := HR.out
        rw [HE.out] at h
        injection h with e1 e2
        rw [e1, e2]
        rfl
end Go.Proofs.YtdpnknlpkjablaaGreatDoor
