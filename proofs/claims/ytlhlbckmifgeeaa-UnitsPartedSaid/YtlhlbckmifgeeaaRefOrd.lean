/- The reference's Order answers as the plain function does. -/
import Derived.Test.YtlhlbckmifgeeaaRefOrdP
import Derived.Test.YtlhlbckmifgeeaaCopied
import Derived.StillTailTactics
import Derived.Laws.MakeOwn
import Derived.Laws.OwnMore
import Derived.Deep.DeepCutAuto
namespace Go.Proofs.Ytlhlbckmifgeeaa
open Go.RowKit

theorem quiet_l {f : FuncId} {args : Array Value} {w : World} {n : Nat} {v : Value}
    (h : Calls Try.prog f args (w.drewN n) fun e w' => e = .returned v ∧ w.drewN n = w') : Calls Try.prog f args (w.drewN n) fun e w'' => e = .returned v ∧ ∃ m, w'' = w.drewN m :=
  h.mono fun _ _ ⟨he, hm⟩ => ⟨he, n, hm.symm⟩
theorem quiet_al {f : FuncId} {args : Array Value} {w : World} {a n : Nat} {v : Value}
    (h : Calls Try.prog f args (w.drewN (a + n)) fun e w' => e = .returned v ∧ w.drewN (a + n) = w') :
    Calls Try.prog f args (w.drewN (a + n)) fun e w'' => e = .returned v ∧ ∃ m, w'' = w.drewN (a + m) :=
  h.mono fun _ _ ⟨he, hm⟩ => ⟨he, n, hm.symm⟩

/-- An answer's list, read. -/
def RAns (w w' : World) (e : Ending) (r : List U × ByteArray × Int) : Prop :=
  ∃ v, e = .returned (.tuple #[v, .string r.2.1, .int .i64 r.2.2]) ∧ UL w' v r.1 ∧ Below w.heap.size w w'
theorem RAns.none {w w' : World} {s : ByteArray} {e : Int} (h : Below w.heap.size w w') : RAns w w' (.returned (.tuple #[.slice none 0 0, .string s, .int .i64 e])) ([], s, e) :=
  ⟨_, rfl, ⟨Option.none, 0, rfl, by simp, fun i u h => by simp at h⟩, h⟩

/-- A row of bools that the call has made, known whole. -/
def BB (w : World) (g : Nat) (bs : List Bool) : Prop := w.heap[g]? = some (.cells (bs.map Value.bool).toArray 4 (0, 0))
theorem BB.bl {w : World} {g : Nat} {bs : List Bool} {c : Nat} (h : BB w g bs) (hl : bs.length ≤ 1759218604390) : BL w (.slice (some ⟨g, 0, none⟩) bs.length c) bs :=
  ⟨_, _, rfl, hl, fun i x hi => ⟨g, 0, rfl, block_cell h (by simp [hi])⟩⟩
theorem BB.cell {w : World} {g : Nat} {bs : List Bool} (h : BB w g bs) {i : Nat} {x : Bool} (hi : bs[i]? = some x) : w.cell? ⟨g, i, none⟩ = some (.bool x) := block_cell h (by simp [hi])
theorem BB.free {w : World} {g i : Nat} {bs : List Bool} (h : BB w g bs) : w.frozen? ⟨g, i, none⟩ = false := block_free h
theorem BB.set {w : World} {g i : Nat} {bs : List Bool} (h : BB w g bs) (x : Bool) : BB (w.setCell ⟨g, i, none⟩ (.bool x)) g (bs.set i x) := by
  have := block_set (i := i) h (.bool x)
  unfold BB
  rw [this]
  simp
theorem BB.lt {w : World} {g : Nat} {bs : List Bool} (h : BB w g bs) : g < w.heap.size := (Array.getElem?_eq_some_iff.1 h).1
theorem BB.below {w w' : World} {g : Nat} {bs : List Bool} (h : BB w g bs) (hb : Below w.heap.size w w') : BB w' g bs := by unfold BB; rw [hb.block g h.lt]; exact h

theorem infoB : (Try.prog.info? 4).map (fun i => (i.zero, i.size, i.bytes)) = some (some (.bool false), 1, 1) := by kernel_rfl
theorem make_bools (n : Nat) (hn : n ≤ 2000) (w : World) : (Instr.makeSlice 40 (.int .i64 (n : Int)) (.int .i64 (n : Int))).run Try.prog w = .ok (.slice (some ⟨w.heap.size, 0, none⟩) n n) (w.alloc (.cells ((List.replicate n false).map Value.bool).toArray 4)) := by
  obtain ⟨i0, hi, hz0, hz1, hz2⟩ := info_parts infoB
  have hr := run_make (P := Try.prog) (w := w) 40 4 i0 _ Try.underlying40 hi hz0 .i64 .i64 n n (by omega) (by omega) (by rw [hz2]; omega) (by omega)
  simp only [Int.toNat_natCast] at hr
  rw [hr, hz1, Nat.mul_one]
  have e : madeCells (Value.bool false).cells n = ((List.replicate n false).map Value.bool).toArray := by
    have := toList_madeCells_one (.bool false) n
    rw [List.map_replicate, ← this]
    rfl
  rw [e]

theorem BB.bl' {w : World} {g n : Nat} {bs : List Bool} {c : Nat} (h : BB w g bs) (hn : bs.length = n) (hl : n ≤ 2000) : BL w (.slice (some ⟨g, 0, none⟩) n c) bs := by
  subst hn
  exact h.bl (by omega)
theorem set_true {bs : List Bool} {k : Nat} (h : ∀ j, j < k → bs[j]? = some true) (hk : k < bs.length) : ∀ j, j < k + 1 → (bs.set k true)[j]? = some true := by
  intro j hj
  by_cases e : k = j
  · subst e; simp [hk]
  · rw [List.getElem?_set_ne e]; exact h j (by omega)
theorem all_true {bs : List Bool} {n : Nat} (hn : bs.length = n) (h : ∀ j, j < n → bs[j]? = some true) : bs = List.replicate n true := by
  apply List.ext_getElem?
  intro j
  by_cases hj : j < n
  · rw [h j hj]; simp [hj]
  · rw [List.getElem?_eq_none (by omega), List.getElem?_eq_none (by simp; omega)]
theorem own_shape {w : World} {base n : Nat} {v : Value} {xs : List Value} {e : TypeId} {size : Nat} (h : w.ownsRow base e size v n xs) : ∃ a cap, v = .slice a n cap := by
  rcases own_block_form h with ⟨h1, h2, _⟩ | ⟨g, cap, h1⟩
  · exact ⟨none, 0, by rw [h1, h2]⟩
  · exact ⟨_, _, h1⟩

set_option maxHeartbeats 1000000 in
set_option maxRecDepth 100000 in
theorem refOrder_any {v : Value} {us : List U} {w : World} (h1 : UL w v us) (hsz : sizeU us ≤ 2000) :
    Calls Try.prog 11 #[v] w fun e w' => RAns w w' e (orderU us) := by
  have h0 := h1
  obtain ⟨a, cap, rfl, hm, hc⟩ := h0
  have hln : us.length ≤ 2000 := by unfold sizeU at hsz; omega
  have hmk := fun (W : World) => make_bools us.length hln W
  generalize hn : us.length = n at *
  have HN := Lib.hid hn
  have HC := Lib.hid hc
  have HMK := Lib.hid hmk
  clear hn hc hsz hmk
  by_cases hmany : 24 < n
  · have hres := Lib.hid (show orderU us = ([], ⟨#[]⟩, 30) by unfold orderU; rw [if_pos (by rw [HN.out]; exact hmany)])
    generalize orderU us = res at hres ⊢
    go_enter Try.func11, Try.ntmps11
    go_wp2_with fail
    go_ret3
    rw [hres.out]
    exact RAns.none (Below.refl _ _)
  · have hres := Lib.hid (show orderU us = orderB us by unfold orderU; rw [if_neg (by rw [HN.out]; exact hmany)])
    generalize orderU us = res at hres ⊢
    go_enter Try.func11, Try.ntmps11
    go_wp2_with fail
    go_loopw [5] (fun i wr => ∃ k : Nat, k ≤ n ∧ i = .int .i64 k ∧ w = wr ∧ (nm (us.take k)).Nodup) (fun i _ => n - (intOf i).toNat)
    case atStart => exact ⟨0, Nat.zero_le _, rfl, rfl, by simp [nm]⟩
    case round =>
      obtain ⟨k, hk, rfl, rfl, hnd⟩ := hrel
      by_cases hlt : k < n
      · obtain ⟨u, hu⟩ := get_lt us (k := k) (by have := HN.out; omega)
        obtain ⟨b, off, rfl, ⟨hcell, _⟩, _⟩ := HC.out k _ hu
        have HU := Lib.hid hu
        have HND := Lib.hid hnd
        rcases findI_first hu with ⟨hf, hin⟩ | ⟨hf, hin⟩
        · have HF := Lib.hid hf
          have HIN := Lib.hid hin
          have hnn : ((k : Int) != (k : Int)) = false := by simp
          clear hu hf hin hnd
          go_wp2_with fail
          refine (find_any h1).mono ?_
          rw [HF.out]
          rintro e w1 ⟨rfl, rfl⟩
          go_wp2_with fail
          go_roundw
          case rel => exact ⟨k + 1, by omega, by go_num, trivial, nodup_step HU.out HND.out HIN.out⟩
          case measure => simp [intOf]; omega
        · generalize hq : findI us u.name = q at hf
          have HQ := Lib.hid hq
          have HT := Lib.hid (twiceU_some HU.out hin HND.out)
          clear hu hq hin hnd
          go_wp2_with fail
          refine (find_any h1).mono ?_
          rw [HQ.out]
          rintro e w1 ⟨rfl, rfl⟩
          go_wp2_with fail
          go_quiet (fail)
          go_wp2_with fail
          go_ret3
          rw [hres.out, orderB_some HT.out]
          exact RAns.none (by (repeat' (first | (with_reducible exact Below.refl _ _) | (with_reducible assumption) | (with_reducible refine below_drewN ?_ _) | (with_reducible refine Below.drew ?_) | (with_reducible refine Below.alloc ?_ ?_ _) | (with_reducible refine Below.setCell ?_ ?_ _) | omega | (simp; done) | (simp; omega))))
      · obtain rfl : k = n := by omega
        have hall : us.take k = us := List.take_of_length_le (by rw [HN.out]; exact Nat.le_refl _)
        rw [hall] at hnd
        have HND := Lib.hid hnd
        have HT := Lib.hid (twiceU_none hnd)
        clear hall hnd
        go_wp2_with fail
        go_loopw [6, 7] (fun m i wr => ∃ (k2 : Nat) (q : Int) (nq : Nat), k2 ≤ k ∧ i = .int .i64 k2 ∧ m = .int .i64 q ∧ wr = w.drewN nq ∧ MinTo us (lacksAt us) k2 q) (fun _ i _ => k - (intOf i).toNat)
        case atStart => exact ⟨0, _, 0, Nat.zero_le _, rfl, rfl, rfl, MinTo.zero _ _⟩
        case round =>
          obtain ⟨k2, q, nq, hk2, rfl, rfl, rfl, hmin⟩ := hrel
          by_cases hlt : k2 < k
          · obtain ⟨u, hu⟩ := get_lt us (k := k2) (by have := HN.out; omega)
            obtain ⟨b, off, rfl, ⟨p0, p1, hsn, hss, r, f, p2, p3, hr, hf⟩, _⟩ := HC.out k2 _ hu
            have hr' := hr
            obtain ⟨ra, rc, rfl, _, hrl, hrc⟩ := hr'
            have HRC := Lib.hid hrc
            have HU := Lib.hid hu
            clear hu hrc
            go_wp2_with fail
            go_loopw [6, 8] (fun m j wq => ∃ (kk : Nat) (q2 : Int) (nq : Nat), kk ≤ u.req.length ∧ j = .int .i64 kk ∧ m = .int .i64 q2 ∧ wq = w.drewN nq ∧ BadIn us u k2 kk q2) (fun _ j _ => u.req.length - (intOf j).toNat)
            case atStart => exact ⟨0, _, nq, Nat.zero_le _, rfl, rfl, rfl, BadIn.zero hmin⟩
            case round =>
              clear hmin
              obtain ⟨kk, q2, nq2, hkk, rfl, rfl, rfl, hbad⟩ := hrel
              by_cases hlt2 : kk < u.req.length
              · obtain ⟨s, hs⟩ := get_lt u.req hlt2
                obtain ⟨b2, off2, rfl, hcell2, _, _⟩ := HRC.out kk s hs
                have HS := Lib.hid hs
                have hcall : ∀ W, Below w.heap.size w W → Calls Try.prog 14 #[.slice (some ⟨b, off, none⟩) k cap, .string s] W fun e w' => e = .returned (.int .i64 (findI us s)) ∧ W = w' := fun W hb => find_any (h1.keeps hb)
                rcases findI_isSome us s with ⟨hfi, hsome⟩ | ⟨i, hfi, hsome⟩
                · rw [hfi] at hcall
                  have HCALL := Lib.hid hcall
                  have HSOME := Lib.hid hsome
                  clear hs hfi hsome hcall
                  rcases hbad.cases with rfl | ⟨bb, rfl, hbb⟩
                  · go_wp2_with fail
                    go_quiet ((go_at_call 14; exact quiet_al (HCALL.out _ (below_drewN' _ _))))
                    go_wp2_with fail
                    go_roundw
                    case rel => exact ⟨kk + 1, _, _, by omega, by go_num, rfl, rfl, hbad.first HU.out HS.out HSOME.out (by omega)⟩
                    case measure => simp [intOf]; omega
                  · obtain ⟨ub, hub⟩ := get_lt us (k := bb) (by have := HN.out; omega)
                    obtain ⟨_, _, he, ⟨pb0, _⟩, _⟩ := HC.out bb _ hub
                    simp only [Option.some.injEq, Addr.mk.injEq, and_true] at he
                    obtain ⟨rfl, rfl⟩ := he
                    have hd : decide ((bb : Int) < 0) = false := by simp
                    have hbl : (bb : Int) < (k : Int) := by omega
                    have hb0 : (0 : Int) ≤ (bb : Int) := by omega
                    have HUB := Lib.hid hub
                    clear hub
                    cases hl : Op.bytesLess u.name.toList ub.name.toList
                    · have HL := Lib.hid (show ltS (nmAt us k2) (nmAt us bb) = false by rw [nmAt_eq HU.out, nmAt_eq HUB.out]; exact hl)
                      go_wp2_with fail
                      go_quiet ((go_at_call 14; exact quiet_al (HCALL.out _ (below_drewN' _ _))))
                      go_wp2_with fail
                      go_roundw
                      case rel => exact ⟨kk + 1, _, _, by omega, by go_num, rfl, rfl, hbad.keep HU.out HS.out HSOME.out rfl HL.out⟩
                      case measure => simp [intOf]; omega
                    · have HL := Lib.hid (show ltS (nmAt us k2) (nmAt us bb) = true by rw [nmAt_eq HU.out, nmAt_eq HUB.out]; exact hl)
                      go_wp2_with fail
                      go_quiet ((go_at_call 14; exact quiet_al (HCALL.out _ (below_drewN' _ _))))
                      go_wp2_with fail
                      go_roundw
                      case rel => exact ⟨kk + 1, _, _, by omega, by go_num, rfl, rfl, hbad.less HU.out HS.out HSOME.out rfl HL.out⟩
                      case measure => simp [intOf]; omega
                · rw [hfi] at hcall
                  have HCALL := Lib.hid hcall
                  have HSOME := Lib.hid hsome
                  have hd : decide ((i : Int) < 0) = false := by simp
                  clear hs hfi hsome hcall
                  go_wp2_with fail
                  go_quiet ((go_at_call 14; exact quiet_al (HCALL.out _ (below_drewN' _ _))))
                  go_wp2_with fail
                  go_roundw
                  case rel => exact ⟨kk + 1, _, _, by omega, by go_num, rfl, rfl, hbad.there HS.out HSOME.out⟩
                  case measure => simp [intOf]; omega
              · obtain rfl : kk = u.req.length := by omega
                go_wp2_with fail
                go_roundw
                case rel => exact ⟨k2 + 1, _, _, by omega, by go_num, rfl, rfl, hbad.done HU.out (by omega)⟩
                case measure => simp [intOf]; omega
          · obtain rfl : k2 = k := by omega
            rw [← HN.out] at hmin
            have hbo := bad_of HND.out hmin
            have HC0 := Lib.hid (show orderC us = (match (sortS (nm us)).find? (lacks (byName us)) with | some s => ([], s, 28) | none => runU (byName us) us.length (sortS (nm us)) []) from rfl)
            clear hmin
            rcases hbo with ⟨rfl, hf⟩ | ⟨i, u, rfl, hu, hf⟩
            · have hR := Lib.hid (show orderC us = runU (byName us) us.length (sortS (nm us)) [] by rw [HC0.out, hf])
              have hS := St.start HND.out
              have hsl : (sortS (nm us)).length = k2 := by rw [sortS_length]; simp [nm]; exact HN.out
              have hRR := Lib.hid (show runU (byName us) k2 (sortS (nm us)) [] = orderC us by rw [hR.out, HN.out])
              rw [HN.out] at hS
              have HSL := Lib.hid hsl
              have hmk := HMK.out
              generalize sortS (nm us) = sn at *
              generalize hOC : orderC us = RR at *
              have HOC := Lib.hid hOC
              clear hOC hf HC0 hsl hR
              go_wp2_with fail
              clear hmk
              go_loopw [10] (fun i wr => ∃ (k4 : Nat) (bs : List Bool), k4 ≤ k2 ∧ i = .int .i64 k4 ∧ BB wr w.heap.size bs ∧ Hid (bs.length = k2) ∧ Hid (∀ j, j < k4 → bs[j]? = some true) ∧ Below w.heap.size w wr) (fun i _ => k2 - (intOf i).toNat)
              case atStart => exact ⟨0, List.replicate k2 false, Nat.zero_le _, rfl, (by have := block_new (w.drewN nq) (.cells ((List.replicate k2 false).map Value.bool).toArray 4) rfl; simpa [BB] using this), List.length_replicate, fun _ hj => absurd hj (Nat.not_lt_zero _), (by (repeat' (first | (with_reducible exact Below.refl _ _) | (with_reducible assumption) | (with_reducible refine below_drewN ?_ _) | (with_reducible refine Below.drew ?_) | (with_reducible refine Below.alloc ?_ ?_ _) | (with_reducible refine Below.setCell ?_ ?_ _) | omega | (simp; done) | (simp; omega))))⟩
              case round =>
                obtain ⟨k4, bs, hk4, rfl, hbb, hbl, hbt, hb⟩ := hrel
                by_cases hlt4 : k4 < k2
                · obtain ⟨x, hx⟩ := get_lt bs (k := k4) (by have := hbl.out; omega)
                  have hcell := hbb.cell hx
                  have hfree := hbb.free (i := k4)
                  clear hx
                  go_wp2_with fail
                  go_roundw
                  case rel => exact ⟨k4 + 1, bs.set k4 true, by omega, by go_num, hbb.set true, (by have := hbl.out; unfold Hid; simpa using this), set_true hbt.out (by have := hbl.out; omega), hb.setCell (Nat.le_refl _) _⟩
                  case measure => simp [intOf]; omega
                · obtain rfl : k4 = k2 := by omega
                  obtain rfl := all_true hbl.out hbt.out
                  clear hbl hbt
                  go_wp2_with fail
                  go_loopw [11] (fun t wr => ∃ (acc : List U) (ns : List ByteArray) (left : List Bool) (xs : List Value), acc.length ≤ k4 ∧ wr.ownsRow (w.heap.size + 1) 32 4 t acc.length xs ∧ UFlat (fun b => b < w.heap.size) wr xs acc ∧ BB wr w.heap.size left ∧ Hid (left.length = k4) ∧ St us left ns ∧ Hid (acc.length + ns.length = k4) ∧ Hid (runU (byName us) (k4 - acc.length) ns acc = RR) ∧ Below w.heap.size w wr) (fun t _ => k4 - lenOf t)
                  case atStart => exact ⟨[], sn, _, [], Nat.zero_le _, World.ownsRow_nil _ _ _ _, UFlat.nil _ _, hbb, List.length_replicate, hS, (by have := HSL.out; unfold Hid; simp; exact this), hRR, hb⟩
                  case round =>
                    clear hb hbb hS HSL hRR
                    obtain ⟨acc, ns, left, xs, hacc, hown, hflat, hbb, hll, hS, hlen, hrun, hb⟩ := hrel
                    obtain ⟨ta, tc, rfl⟩ := own_shape hown
                    by_cases hlt5 : acc.length < k4
                    · obtain ⟨wo, hwo⟩ : ∃ wo, wo = wr := ⟨_, rfl⟩
                      subst hwo
                      have hzo := hb.size
                      go_wp2_with fail
                      go_loopw [12, 13, 14] (fun nx ls i wq => ∃ (k6 : Nat) (q1 q2 : Int), k6 ≤ k4 ∧ i = .int .i64 k6 ∧ nx = .int .i64 q1 ∧ ls = .int .i64 q2 ∧ MinTo us (readyAt us left) k6 q1 ∧ MinTo us (leftAt left) k6 q2 ∧ Below wo.heap.size wo wq) (fun _ _ i _ => k4 - (intOf i).toNat)
                      case atStart => exact ⟨0, _, _, Nat.zero_le _, rfl, rfl, rfl, MinTo.zero _ _, MinTo.zero _ _, Below.refl _ _⟩
                      case round =>
                        obtain ⟨k6, q1, q2, hk6, rfl, rfl, rfl, hmin1, hmin2, hb6⟩ := hrel
                        have hbq : Below w.heap.size w wr := hb.trans (hb6.mono hzo)
                        have hbbq := hbb.below hb6
                        by_cases hlt6 : k6 < k4
                        · obtain ⟨u, hu⟩ := get_lt us (k := k6) (by have := HN.out; omega)
                          obtain ⟨x, hx⟩ := get_lt left (k := k6) (by have := hll.out; omega)
                          have hcx := hbbq.cell hx
                          obtain ⟨b, off, rfl, hcell, _⟩ := HC.out k6 _ hu
                          have hcell := UCP.keeps hbq hcell
                          have HX := Lib.hid hx
                          have HU := Lib.hid hu
                          clear hx hu
                          cases x
                          · go_wp2_with fail
                            go_roundw
                            case rel => exact ⟨k6 + 1, _, _, by omega, by go_num, rfl, rfl, hmin1.skip (by simp [readyAt, leftAt, List.getD, HX.out]), hmin2.skip (by simp [leftAt, List.getD, HX.out]), hb6⟩
                            case measure => simp [intOf]; omega
                          · have HL := Lib.hid (show leftAt left k6 = true by simp [leftAt, List.getD, HX.out])
                            obtain ⟨r1, f1, hr1, hf1, hv1⟩ := hcell.value
                            obtain ⟨p0, p1, _, _, _⟩ := hcell
                            go_upto_region 32 with fail
                            go_cut [133] (fun c wx => ∃ (B : Bool) (nq : Nat), c = .bool B ∧ wx = wr.drewN nq ∧ MinTo us (leftAt left) (k6 + 1) (if B then (k6 : Int) else q2))
                            case first =>
                              rcases hmin2.cases with rfl | ⟨bb, rfl, hbbk, _⟩
                              · go_wp2_with fail
                                go_quiet (fail)
                                go_wp2_with fail
                                go_meet
                                exact ⟨true, _, rfl, rfl, hmin2.first (by omega) HL.out⟩
                              · obtain ⟨ub, hub⟩ := get_lt us (k := bb) (by have := HN.out; omega)
                                obtain ⟨_, _, he, hcub, _⟩ := HC.out bb _ hub
                                simp only [Option.some.injEq, Addr.mk.injEq, and_true] at he
                                obtain ⟨rfl, rfl⟩ := he
                                obtain ⟨pb0, _⟩ := UCP.keeps hbq hcub
                                have hd : decide ((bb : Int) < 0) = false := by simp
                                have hbl : (bb : Int) < (k4 : Int) := by omega
                                have hb0 : (0 : Int) ≤ (bb : Int) := by omega
                                have HUB := Lib.hid hub
                                clear hub hcub
                                cases hl : Op.bytesLess u.name.toList ub.name.toList
                                · have HLL := Lib.hid (show ltS (nmAt us k6) (nmAt us bb) = false by rw [nmAt_eq HU.out, nmAt_eq HUB.out]; exact hl)
                                  go_wp2_with fail
                                  go_quiet (fail)
                                  go_wp2_with fail
                                  go_meet
                                  exact ⟨false, _, rfl, rfl, hmin2.keep rfl HLL.out⟩
                                · have HLL := Lib.hid (show ltS (nmAt us k6) (nmAt us bb) = true by rw [nmAt_eq HU.out, nmAt_eq HUB.out]; exact hl)
                                  go_wp2_with fail
                                  go_quiet (fail)
                                  go_wp2_with fail
                                  go_meet
                                  exact ⟨true, _, rfl, rfl, hmin2.less rfl HL.out HLL.out⟩
                            case rest =>
                              obtain ⟨B, nq6, rfl, rfl, hB⟩ := hcut
                              go_upto_if 133 with fail
                              go_cut [13] (fun ls wx => ∃ q2' : Int, ls = .int .i64 q2' ∧ MinTo us (leftAt left) (k6 + 1) q2' ∧ wx = wr.drewN nq6)
                              case first =>
                                cases B
                                · go_wp2_with fail
                                  go_meet
                                  exact ⟨_, rfl, hB, rfl⟩
                                · go_wp2_with fail
                                  go_meet
                                  exact ⟨_, rfl, hB, rfl⟩
                              case rest =>
                                clear hB
                                obtain ⟨q2', rfl, hmin2', rfl⟩ := hcut
                                cases hw : waitsU us left u
                                · have HW := Lib.hid hw
                                  have HR := Lib.hid (show readyAt us left k6 = true by unfold readyAt; rw [HL.out, HU.out]; simp only [hw]; rfl)
                                  clear hw
                                  rcases hmin1.cases with rfl | ⟨bb, rfl, hbbk, _⟩
                                  · go_wp2_with fail
                                    refine (waits_any (ULP.keeps ?_ h1) (BB.bl' (bs := left) (BB.below hbbq ?_) hll.out (by omega)) (UVP.keeps ?_ hv1) (by have := hll.out; have := HN.out; omega)).mono ?_
                                    rotate_left 3
                                    rw [HW.out]
                                    rintro e w5 ⟨rfl, hb5⟩
                                    have hb56 : Below wo.heap.size wo w5 := (below_drewN hb6 nq6).trans (hb5.mono hb6.size)
                                    have p0 := cell_keeps hb5 p0
                                    go_wp2_with fail
                                    go_quiet (fail)
                                    go_wp2_with fail
                                    go_roundw
                                    case rel => exact ⟨k6 + 1, _, _, by omega, by go_num, rfl, rfl, hmin1.first (by omega) HR.out, hmin2', below_drewN hb56 _⟩
                                    case measure => simp [intOf]; omega
                                    all_goals (repeat' (first | (with_reducible exact Below.refl _ _) | (with_reducible assumption) | (with_reducible refine below_drewN ?_ _) | (with_reducible refine Below.drew ?_) | (with_reducible refine Below.alloc ?_ ?_ _) | (with_reducible refine Below.setCell ?_ ?_ _) | omega | (simp; done) | (simp; omega)))
                                  · obtain ⟨ub, hub⟩ := get_lt us (k := bb) (by have := HN.out; omega)
                                    obtain ⟨_, _, he, hcub, _⟩ := HC.out bb _ hub
                                    simp only [Option.some.injEq, Addr.mk.injEq, and_true] at he
                                    obtain ⟨rfl, rfl⟩ := he
                                    obtain ⟨pb0, _⟩ := UCP.keeps hbq hcub
                                    have hd : decide ((bb : Int) < 0) = false := by simp
                                    have hbl : (bb : Int) < (k4 : Int) := by omega
                                    have hb0 : (0 : Int) ≤ (bb : Int) := by omega
                                    have HUB := Lib.hid hub
                                    clear hub hcub
                                    cases hl : Op.bytesLess u.name.toList ub.name.toList
                                    · have HLL := Lib.hid (show ltS (nmAt us k6) (nmAt us bb) = false by rw [nmAt_eq HU.out, nmAt_eq HUB.out]; exact hl)
                                      go_wp2_with fail
                                      refine (waits_any (ULP.keeps ?_ h1) (BB.bl' (bs := left) (BB.below hbbq ?_) hll.out (by omega)) (UVP.keeps ?_ hv1) (by have := hll.out; have := HN.out; omega)).mono ?_
                                      rotate_left 3
                                      rw [HW.out]
                                      rintro e w5 ⟨rfl, hb5⟩
                                      have hb56 : Below wo.heap.size wo w5 := (below_drewN hb6 nq6).trans (hb5.mono hb6.size)
                                      have p0 := cell_keeps hb5 p0
                                      have pb0 := cell_keeps hb5 pb0
                                      go_wp2_with fail
                                      go_quiet (fail)
                                      go_wp2_with fail
                                      go_roundw
                                      case rel => exact ⟨k6 + 1, _, _, by omega, by go_num, rfl, rfl, hmin1.keep rfl HLL.out, hmin2', below_drewN hb56 _⟩
                                      case measure => simp [intOf]; omega
                                      all_goals (repeat' (first | (with_reducible exact Below.refl _ _) | (with_reducible assumption) | (with_reducible refine below_drewN ?_ _) | (with_reducible refine Below.drew ?_) | (with_reducible refine Below.alloc ?_ ?_ _) | (with_reducible refine Below.setCell ?_ ?_ _) | omega | (simp; done) | (simp; omega)))
                                    · have HLL := Lib.hid (show ltS (nmAt us k6) (nmAt us bb) = true by rw [nmAt_eq HU.out, nmAt_eq HUB.out]; exact hl)
                                      go_wp2_with fail
                                      refine (waits_any (ULP.keeps ?_ h1) (BB.bl' (bs := left) (BB.below hbbq ?_) hll.out (by omega)) (UVP.keeps ?_ hv1) (by have := hll.out; have := HN.out; omega)).mono ?_
                                      rotate_left 3
                                      rw [HW.out]
                                      rintro e w5 ⟨rfl, hb5⟩
                                      have hb56 : Below wo.heap.size wo w5 := (below_drewN hb6 nq6).trans (hb5.mono hb6.size)
                                      have p0 := cell_keeps hb5 p0
                                      have pb0 := cell_keeps hb5 pb0
                                      go_wp2_with fail
                                      go_quiet (fail)
                                      go_wp2_with fail
                                      go_roundw
                                      case rel => exact ⟨k6 + 1, _, _, by omega, by go_num, rfl, rfl, hmin1.less rfl HR.out HLL.out, hmin2', below_drewN hb56 _⟩
                                      case measure => simp [intOf]; omega
                                      all_goals (repeat' (first | (with_reducible exact Below.refl _ _) | (with_reducible assumption) | (with_reducible refine below_drewN ?_ _) | (with_reducible refine Below.drew ?_) | (with_reducible refine Below.alloc ?_ ?_ _) | (with_reducible refine Below.setCell ?_ ?_ _) | omega | (simp; done) | (simp; omega)))
                                · have HW := Lib.hid hw
                                  have HR := Lib.hid (show readyAt us left k6 = false by unfold readyAt; rw [HL.out, HU.out]; simp only [hw]; rfl)
                                  clear hw
                                  go_wp2_with fail
                                  refine (waits_any (ULP.keeps ?_ h1) (BB.bl' (bs := left) (BB.below hbbq ?_) hll.out (by omega)) (UVP.keeps ?_ hv1) (by have := hll.out; have := HN.out; omega)).mono ?_
                                  rotate_left 3
                                  rw [HW.out]
                                  rintro e w5 ⟨rfl, hb5⟩
                                  have hb56 : Below wo.heap.size wo w5 := (below_drewN hb6 nq6).trans (hb5.mono hb6.size)
                                  have p0 := cell_keeps hb5 p0
                                  go_wp2_with fail
                                  go_quiet (fail)
                                  go_wp2_with fail
                                  go_roundw
                                  case rel => exact ⟨k6 + 1, _, _, by omega, by go_num, rfl, rfl, hmin1.skip HR.out, hmin2', below_drewN hb56 _⟩
                                  case measure => simp [intOf]; omega
                                  all_goals (repeat' (first | (with_reducible exact Below.refl _ _) | (with_reducible assumption) | (with_reducible refine below_drewN ?_ _) | (with_reducible refine Below.drew ?_) | (with_reducible refine Below.alloc ?_ ?_ _) | (with_reducible refine Below.setCell ?_ ?_ _) | omega | (simp; done) | (simp; omega)))
                        · obtain rfl : k6 = k4 := by omega
                          rw [← HN.out] at hmin1 hmin2
                          rcases next_of hS HND.out hmin1 with ⟨rfl, hidx⟩ | ⟨i, kk, u, rfl, hu, hidx, hsk, hli⟩
                          · cases ns with
                            | nil =>
                              exfalso
                              have := hlen.out
                              simp at this
                              omega
                            | cons n0 rs =>
                              obtain ⟨i, u, rfl, hu, hnm⟩ := least_of hS hmin2 rfl
                              have hfin := hrun.out
                              rw [show k6 - acc.length = (k6 - (acc.length + 1)) + 1 by omega, runU_none hidx, ← hnm] at hfin
                              have HF := Lib.hid hfin
                              obtain ⟨b, off, rfl, hcell, _⟩ := HC.out i _ hu
                              obtain ⟨p0, _⟩ := UCP.keeps hbq hcell
                              have hil : (i : Int) < (k6 : Int) := by
                                have := (List.getElem?_eq_some_iff.1 hu).1
                                have := HN.out
                                omega
                              clear hmin1 hmin2 hidx hu hnm hfin hcell hS hlen hrun
                              go_wp2_with fail
                              go_quiet (fail)
                              go_wp2_with fail
                              go_ret3
                              rw [hres.out, orderB_none HT.out, HOC.out, ← HF.out]
                              exact RAns.none (below_drewN hbq _)
                          · obtain ⟨b, off, rfl, hcell, _⟩ := HC.out i _ hu
                            have hcell := UCP.there hcell
                            have hblt : b < w.heap.size := World.block_lt_of_cell? w _ hcell.1
                            have hil : (i : Int) < (k6 : Int) := by
                              have := (List.getElem?_eq_some_iff.1 hu).1
                              have := HN.out
                              omega
                            have hd : decide ((i : Int) < 0) = false := by simp
                            have hcx := hbbq.cell hli
                            have hfx := hbbq.free (i := i)
                            have HS' := Lib.hid (hS.next HND.out hu hsk)
                            have HRUN : Hid (runU (byName us) (k6 - (acc.length + 1)) (ns.eraseIdx kk) (acc ++ [u]) = RR) := by
                              have h := hrun.out
                              rw [show k6 - acc.length = (k6 - (acc.length + 1)) + 1 by omega, runU_some hidx hsk (byName_of_mem HND.out (List.mem_of_getElem? hu))] at h
                              exact h
                            have HLEN : Hid ((acc ++ [u]).length + (ns.eraseIdx kk).length = k6) := by
                              have h := hlen.out
                              have hk := (List.getElem?_eq_some_iff.1 hsk).1
                              unfold Hid
                              rw [List.length_eraseIdx_of_lt hk]
                              simp
                              omega
                            clear hmin1 hmin2 hidx hsk hli hu hlen hrun hS
                            go_upto_region 40 with fail
                            have hb7 : Below w.heap.size w (wr.setCell ⟨w.heap.size, i, none⟩ (.bool false)) := hbq.setCell (Nat.le_refl _) _
                            have hbb7 := hbbq.set (i := i) false
                            have hown7 : (wr.setCell ⟨w.heap.size, i, none⟩ (.bool false)).ownsRow (w.heap.size + 1) 32 4 (.slice ta acc.length tc) acc.length xs := ownsRow_setCell_below (own_below hown hb6) (a := ⟨w.heap.size, i, none⟩) (Nat.lt_succ_self _) _
                            have hflat7 := hflat.kept (Kept.two hb hb7)
                            have hcell7 := UCP.keeps hb7 hcell
                            generalize (wr.setCell ⟨w.heap.size, i, none⟩ (.bool false)) = w7 at *
                            obtain ⟨p0, p1, hsn, hss, r, f, p2, p3, hr, hf⟩ := hcell7
                            have hr' := hr
                            have hf' := hf
                            obtain ⟨ra, rc, rfl, _, hrl, _⟩ := hr'
                            obtain ⟨fa, fc, rfl, _, hfl, _⟩ := hf'
                            have hlt7 := hbb7.lt
                            have tok1 : True := trivial
                            clear hcx hfx hcell hbbq hbb hbq hb hb6 hflat hown
                            go_wp2_with (at_builtin; have _t := tok1
                                         refine append_unit rfl _ _ rfl (w.heap.size + 1) (.slice ta acc.length tc) acc.length xs rfl (own_below hown7 (by (repeat' (first | (with_reducible exact Below.refl _ _) | (with_reducible assumption) | (with_reducible refine below_drewN ?_ _) | (with_reducible refine Below.drew ?_) | (with_reducible refine Below.alloc ?_ ?_ _) | (with_reducible refine Below.setCell ?_ ?_ _) | omega | (simp; done) | (simp; omega))))) _ _ (.string u.name) (.string u.start) (.slice ra u.req.length rc) (.slice fa u.aft.length fc) rfl (block_cell (block_new _ _ (by simp)) rfl) (block_cell (block_new _ _ (by simp)) rfl) (block_cell (block_new _ _ (by simp)) rfl) (block_cell (block_new _ _ (by simp)) rfl) rfl rfl rfl rfl (by omega) (by simp <;> omega) ?_
                                         intro v5 w8 hown8 hg8 hl8
                                         clear tok1)
                            go_roundw
                            case rel =>
                              have hlo := hown7.lt
                              have hb8 : Below w.heap.size w w8 := Below.grown (w := w7.alloc _) (hb7.alloc (by omega) _) hg8 (by simp; omega) (fun j hj => by have := (hlo j hj).1; omega)
                              have hkp := Kept.two hb7 hb8
                              have hgb : some w.heap.size ≠ (Value.slice ta acc.length tc).ownBlock := fun e => by have := (hlo _ e.symm).1; omega
                              refine ⟨acc ++ [u], ns.eraseIdx kk, left.set i false, _, by simp; omega, by simpa using hown8, ?_, block_grown (block_alloc hbb7 _) hg8 hgb, (by have := hll.out; unfold Hid; simpa using this), HS'.out, HLEN, by simpa using HRUN, hb8⟩
                              exact UFlat.snoc (hflat7.kept hkp) hsn hss (hr.kept hkp) (hf.kept hkp)
                            case measure =>
                              obtain ⟨ta8, tc8, rfl⟩ := own_shape hown8
                              simp [lenOf]; omega
                    · have hk : acc.length = k4 := by omega
                      have hns : ns = [] := List.eq_nil_of_length_eq_zero (by have := hlen.out; omega)
                      subst hns
                      have hfin := hrun.out
                      rw [runU_nil] at hfin
                      have HF := Lib.hid hfin
                      have hd : decide ((acc.length : Int) < (k4 : Int)) = false := by simp; omega
                      have hul := (ULP.of_own hown hflat (by omega)).any
                      clear hfin hk
                      go_wp2_with fail
                      go_ret3
                      rw [hres.out, orderB_none HT.out, HOC.out, ← HF.out]
                      exact ⟨_, rfl, hul, hb⟩
            · obtain ⟨b, off, rfl, ⟨p0, p1, hsn, hss, r, f, p2, p3, hr, hf'⟩, _⟩ := HC.out i _ hu
              have hil : (i : Int) < (k2 : Int) := by
                have := (List.getElem?_eq_some_iff.1 hu).1
                have := HN.out
                omega
              have hge : decide ((0 : Int) ≤ (i : Int)) = true := by simp
              have HR := Lib.hid (show orderC us = ([], u.name, 28) by rw [HC0.out, hf])
              clear hu hf
              go_wp2_with fail
              go_quiet (fail)
              go_wp2_with fail
              go_ret3
              rw [hres.out, orderB_none HT.out, HR.out]
              exact RAns.none (by (repeat' (first | (with_reducible exact Below.refl _ _) | (with_reducible assumption) | (with_reducible refine below_drewN ?_ _) | (with_reducible refine Below.drew ?_) | (with_reducible refine Below.alloc ?_ ?_ _) | (with_reducible refine Below.setCell ?_ ?_ _) | omega | (simp; done) | (simp; omega))))
end Go.Proofs.Ytlhlbckmifgeeaa
