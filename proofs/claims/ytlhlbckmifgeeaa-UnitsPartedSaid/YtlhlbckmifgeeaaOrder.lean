/- The program's Order answers as the plain function does. -/
import Derived.Test.YtlhlbckmifgeeaaOrderP
import Derived.Test.YtlhlbckmifgeeaaCopied
import Derived.StillTailTactics
import Derived.Deep.RegionLaw
import Derived.Laws.EntriesVeiled
namespace Go.Proofs.Ytlhlbckmifgeeaa
open Go.RowKit Go.Shelf

/-- Behind a list's tail a map is as it was; an answer's list. -/
def Ans (w w' : World) (e : Ending) (r : List U × ByteArray × Int) : Prop :=
  ∃ v, e = .returned (.tuple #[v, .string r.2.1, .int .i64 r.2.2]) ∧ (∃ xs, w'.ownsRow w.heap.size 32 4 v r.1.length xs ∧ UFlat (fun b => (w.heap.size ≤ b ∧ v.ownBlock ≠ some b) ∧ Fz w' b) w' xs r.1) ∧ Below w.heap.size w w'
theorem Ans.none {w w' : World} {s : ByteArray} {e : Int} (h : Below w.heap.size w w') : Ans w w' (.returned (.tuple #[.slice none 0 0, .string s, .int .i64 e])) ([], s, e) :=
  ⟨_, rfl, ⟨[], World.ownsRow_nil _ _ _ _, UFlat.nil _ _⟩, h⟩

theorem FU.snoc {p : Nat → Prop} {w : World} {F : FMap} {us : List U} {u : U} {v : Value} (h : FU p w F (byName us)) (hu : UVP p w v u) (hn : u.name ∉ nm us) : FU p w (updF F u.name (Option.some v)) (byName (us ++ [u])) := by
  rw [byName_snoc hn]
  intro s
  by_cases hs : s = u.name
  · subst hs
    simp only [updF_same, if_true]
    exact hu
  · rw [updF_other _ hs]
    simp only [if_neg hs]
    exact h s

set_option maxHeartbeats 1000000 in
set_option maxRecDepth 100000 in
theorem order_any {v : Value} {us : List U} {w : World} (h1 : UL w v us) (hsz : sizeU us ≤ 2000) :
    Calls Try.prog 12 #[v] w fun e w' => Ans w w' e (orderU us) := by
  obtain ⟨a, cap, rfl, hm, hc⟩ := h1
  have HSZ := Lib.hid hsz
  generalize hn : us.length = n at *
  have HN := Lib.hid hn
  have HC := Lib.hid hc
  clear hn hc hsz
  have hmm := @run_makeMap Try.prog
  by_cases hmany : 24 < n
  · have hres := Lib.hid (show orderU us = ([], ⟨#[]⟩, 30) by unfold orderU; rw [if_pos (by rw [HN.out]; exact hmany)])
    generalize orderU us = res at hres ⊢
    go_enter Try.func12, Try.ntmps12
    go_wp2_with fail
    go_ret3
    rw [hres.out]
    exact Ans.none (Below.refl _ _)
  · have hres := Lib.hid (show orderU us = orderB us by unfold orderU; rw [if_neg (by rw [HN.out]; exact hmany)])
    generalize orderU us = res at hres ⊢
    go_enter Try.func12, Try.ntmps12
    go_wp2_with fail
    go_loopw [23] (fun i wr => ∃ (k : Nat) (F : FMap), k ≤ n ∧ i = .int .i64 k ∧ MF wr w.heap.size k F ∧ FU (fun b => b < w.heap.size) wr F (byName (us.take k)) ∧ wr.heap[w.heap.size + 1]? = some (.cells #[.map (some w.heap.size)] 42 (0, 0)) ∧ Below w.heap.size w wr ∧ w.heap.size + 2 ≤ wr.heap.size ∧ (nm (us.take k)).Nodup) (fun i _ => n - (intOf i).toNat)
    case atStart => exact ⟨0, fun _ => none, Nat.zero_le _, rfl, by
      have := MF.made w rfl
      exact this.kept (World.grownBy_alloc _ _ none) (by simp), fun s => by simp [byName], block_new _ _ (by simp), (by (repeat' (first | (with_reducible exact Below.refl _ _) | (with_reducible assumption) | (with_reducible refine below_drewN ?_ _) | (with_reducible refine Below.drew ?_) | (with_reducible refine Below.alloc ?_ ?_ _) | (with_reducible refine Below.setCell ?_ ?_ _) | omega | (simp; done) | (simp; omega)))), by simp, by simp [nm]⟩
    case round =>
      obtain ⟨k, F, hk, rfl, hM, hF, hB, hb, hz, hnd⟩ := hrel
      have HB := Lib.hid hB
      have HND := Lib.hid hnd
      clear hB hnd
      by_cases hlt : k < n
      · obtain ⟨u, hu⟩ := get_lt us (k := k) (by have := HN.out; omega)
        obtain ⟨b, off, rfl, hcell, _⟩ := HC.out k _ hu
        have HU := Lib.hid hu
        clear hu
        have hcell := UCP.keeps hb hcell.there
        obtain ⟨p0, p1, hsn, hss, r, f, p2, p3, hr, hf⟩ := hcell
        have hr' := hr
        have hf' := hf
        obtain ⟨ra, rc, rfl, _, _, _⟩ := hr'
        obtain ⟨fa, fc, rfl, _, _, _⟩ := hf'
        have hblt : b < wr.heap.size := World.block_lt_of_cell? wr _ p0
        have hMl := hM.lt
        have l5 := block_cell (i := 0) HB.out rfl
        have hbl1 : w.heap.size + 1 < wr.heap.size := by omega
        have HM1 := hM.below (w' := wr.alloc (.cells #[.string u.name, .string u.start, .slice ra u.req.length rc, .slice fa u.aft.length fc] 32)) (by (repeat' (first | (with_reducible exact Below.refl _ _) | (with_reducible assumption) | (with_reducible refine below_drewN ?_ _) | (with_reducible refine Below.drew ?_) | (with_reducible refine Below.alloc ?_ ?_ _) | (with_reducible refine Below.setCell ?_ ?_ _) | omega | (simp; done) | (simp; omega))))
        have hlook := HM1.look_ok Try.underlying42 zeroU hsn
        cases hG : byName (us.take k) u.name with
        | some u' =>
          obtain ⟨v', hv', huv⟩ := hF.some hG
          obtain ⟨a', c', e', d', rfl, _, _⟩ := uv_shape huv
          rw [hv'] at hlook
          simp only [Option.getD_some, Option.isSome_some] at hlook
          have HT := Lib.hid (twiceU_some HU.out (by have := byName_some hG; exact List.mem_map.2 ⟨u', this.1, this.2⟩) HND.out)
          clear hv' hG
          go_wp2_with fail
          go_quiet (fail)
          go_wp2_with fail
          go_ret3
          rw [hres.out, orderB_some HT.out]
          exact Ans.none ((by (repeat' (first | (with_reducible exact Below.refl _ _) | (with_reducible assumption) | (with_reducible refine below_drewN ?_ _) | (with_reducible refine Below.drew ?_) | (with_reducible refine Below.alloc ?_ ?_ _) | (with_reducible refine Below.setCell ?_ ?_ _) | omega | (simp; done) | (simp; omega)))))
        | none =>
          have hv' := hF.none hG
          rw [hv'] at hlook
          simp only [Option.getD_none, Option.isSome_none, zU] at hlook
          have HNM := Lib.hid (byName_none.1 hG)
          clear hv' hG
          have tok1 : True := trivial
          go_wp2_with (at_mapUpdate; have _t := tok1
                       refine at_store _ rfl _ _ _ _ _ rfl Try.underlying42 w.heap.size k F rfl (hM.below (by (repeat' (first | (with_reducible exact Below.refl _ _) | (with_reducible assumption) | (with_reducible refine below_drewN ?_ _) | (with_reducible refine Below.drew ?_) | (with_reducible refine Below.alloc ?_ ?_ _) | (with_reducible refine Below.setCell ?_ ?_ _) | omega | (simp; done) | (simp; omega))))) (by unfold maxLen; omega) u.name rfl hsn (.agg #[.string u.name, .string u.start, .slice ra u.req.length rc, .slice fa u.aft.length fc]) rfl ?_
                       intro w1 hM1 hg1 hz1
                       clear tok1)
          go_roundw
          case rel =>
            have hbn : Below w.heap.size w w1 := Below.grown (w := (wr.alloc _).alloc _) ((hb.alloc (by omega) _).alloc (by simp; omega) _) hg1 (by simp; omega) (by intro j hj; simp at hj; omega)
            have hkp := Kept.two hb hbn
            refine ⟨k + 1, _, by omega, by go_num, hM1, ?_, ?_, hbn, ?_, nodup_step HU.out HND.out HNM.out⟩
            · rw [take_snoc HU.out]
              exact FU.snoc (hF.kept hkp) ⟨_, _, rfl, hsn, hss, hr.kept hkp, hf.kept hkp⟩ HNM.out
            · exact block_grown (block_alloc (block_alloc HB.out _) _) hg1 (by simp)
            · rw [hz1]; simp; omega
          case measure => simp [intOf]; omega
      · obtain rfl : k = n := by omega
        have hall : us.take k = us := List.take_of_length_le (by rw [HN.out]; exact Nat.le_refl _)
        rw [hall] at hF
        have HND : Hid (nm us).Nodup := by have := HND.out; rw [hall] at this; exact this
        have HT := Lib.hid (twiceU_none HND.out)
        clear hall
        have hMl := hM.lt
        have l5 := block_cell (i := 0) HB.out rfl
        have tok1 : True := trivial
        go_wp2_with (at_range; have _t := tok1
                     refine at_ranged _ rfl _ _ _ rfl Try.underlying42 w.heap.size k F rfl hM ?_
                     intro w1 cnt1 hR1 hg1 hz1
                     clear tok1)
        go_frame
        have hb1 : Below w.heap.size w w1 := hb.grown hg1 (by omega) (by simp)
        have HB1 := Lib.hid (block_grown HB.out hg1 (by simp))
        have hF1 := hF.kept (Kept.two hb hb1)
        obtain ⟨r, hr⟩ : ∃ r, r = wr.heap.size := ⟨_, rfl⟩
        rw [← hr] at hR1 ⊢
        have HR := Lib.hid hr
        clear hr hg1 hF hM hMl l5 HB hb
        have hrz : w.heap.size + 2 ≤ r := by have := HR.out; omega
        have hwz : w1.heap.size = r + 1 := by have := HR.out; omega
        have HWZ := Lib.hid hwz
        clear hwz hz1 hz
        go_loopw [10] (fun t wr2 => ∃ (ns : List ByteArray) (left : ByteArray → Bool) (cnt : Nat), OS (r + 1) wr2 t ns ∧ MR wr2 w.heap.size r k F left cnt ∧ wr2.heap[w.heap.size + 1]? = some (.cells #[.map (some w.heap.size)] 42 (0, 0)) ∧ Below w.heap.size w wr2 ∧ FU (fun b => b < w.heap.size) wr2 F (byName us) ∧ r + 1 ≤ wr2.heap.size ∧ ns.Nodup ∧ (∀ s, left s = ((byName us s).isSome && !decide (s ∈ ns))) ∧ (∀ s, s ∈ ns → s ∈ nm us ∧ s.size ≤ maxLen)) (fun _ wr2 => wr2.rangeLeft w.heap.size r)
        case atStart => exact ⟨[], _, _, World.ownsRow_nil _ _ _ _, hR1, HB1.out, hb1, hF1, by have := HWZ.out; omega, List.nodup_nil, fun s => by rw [hF1.isSome]; simp, fun s hs => by simp at hs⟩
        case round =>
          obtain ⟨ns, left, cnt, hns, hMR, hB2, hb2, hF2, hz2, hnd, hleft, hin⟩ := hrel
          have HB2 := Lib.hid hB2
          have HNS := Lib.hid hnd
          have HLE := Lib.hid hleft
          have HIN := Lib.hid hin
          have hnl : ns.length ≤ k := by
            have h1 := hnd.length_le_of_subset (l₂ := nm us) (fun s hs => (hin s hs).1)
            simp [nm, HN.out] at h1
            exact h1
          clear hB2 hnd hleft hin
          go_wp2_with (at_next; refine at_nexted _ rfl _ rfl w.heap.size r k F left cnt rfl hMR ?_ ?_)
          · intro hl0
            have hperm : ns.Perm (nm us) := (List.perm_ext_iff_of_nodup HNS.out HND.out).2 fun s => ⟨fun h => (HIN.out s h).1, fun h => by
              have h1 := HLE.out s
              rw [hl0 s, byName_isSome] at h1
              simp [h] at h1
              exact h1⟩
            have HSN := Lib.hid (sortS_congr hperm)
            have HIN2 : Hid (∀ s, s ∈ nm us → s.size ≤ maxLen) := fun s hs => (HIN.out s (hperm.mem_iff.2 hs)).2
            have HPL := Lib.hid hperm.length_eq
            clear hl0 hperm
            obtain ⟨na, ncap, rfl⟩ := hns.shape
            go_wp2_with fail
            refine (sort_own hns (by omega)).mono ?_
            rw [HSN.out]
            rintro e w3 ⟨rfl, hos, hg3⟩
            have hlow := OS.lows hns
            have hb3 : Below w.heap.size w w3 := hb2.grown hg3 (by omega) (fun j hj => by have := hlow j hj; omega)
            have hM3 := hMR.owns.kept hg3 (OS.low hns (by omega))
            have hF3 := hF2.kept (Kept.two hb2 hb3)
            have HB3 := Lib.hid (block_grown HB2.out hg3 (OS.low hns (by omega)))
            have hz3 := hg3.size
            have hln : ns.length = (sortS (nm us)).length := by rw [HPL.out, sortS_length]
            have HLN := Lib.hid hln
            rw [hln] at hos ⊢
            have HSS := Lib.hid (show ∀ s, s ∈ sortS (nm us) → s ∈ nm us from fun s hs => mem_sortS.1 hs)
            have HSI := Lib.hid (show ∀ s, s ∈ nm us → s ∈ sortS (nm us) from fun s hs => mem_sortS.2 hs)
            have HSD := Lib.hid (sortS_nodup HND.out)
            have HSL := Lib.hid (sortS_length (nm us))
            have hsl : (sortS (nm us)).length ≤ 24 := by rw [HSL.out]; simp [nm, HN.out]; omega
            have hCC := Lib.hid (show orderC us = (match (sortS (nm us)).find? (lacks (byName us)) with | some s => ([], s, 28) | none => runU (byName us) us.length (sortS (nm us)) []) from rfl)
            generalize sortS (nm us) = sn at *
            clear hns hMR hF2 HB2 HNS HLE HIN hg3 hb2 hln hlow
            go_wp2_with fail
            have hE : Env2 (w3.alloc (Obj.cells #[Value.func (Fn.func 21) #[] #[Value.pointer (some { block := w.heap.size + 1, off := 0 })]] 45)) (w.heap.size + 1) w3.heap.size w.heap.size k F (byName us) :=
              ⟨⟨block_cell (block_alloc HB3.out _) rfl, hM3.below (by (repeat' (first | (with_reducible exact Below.refl _ _) | (with_reducible assumption) | (with_reducible refine below_drewN ?_ _) | (with_reducible refine Below.drew ?_) | (with_reducible refine Below.alloc ?_ ?_ _) | (with_reducible refine Below.setCell ?_ ?_ _) | omega | (simp; done) | (simp; omega)))), (hF3.mono fun _ _ => trivial).keeps (by (repeat' (first | (with_reducible exact Below.refl _ _) | (with_reducible assumption) | (with_reducible refine below_drewN ?_ _) | (with_reducible refine Below.drew ?_) | (with_reducible refine Below.alloc ?_ ?_ _) | (with_reducible refine Below.setCell ?_ ?_ _) | omega | (simp; done) | (simp; omega))))⟩, block_cell (block_new _ _ rfl) rfl⟩
            have hF4 := hF3.keeps (w' := w3.alloc (Obj.cells #[Value.func (Fn.func 21) #[] #[Value.pointer (some { block := w.heap.size + 1, off := 0 })]] 45)) (by (repeat' (first | (with_reducible exact Below.refl _ _) | (with_reducible assumption) | (with_reducible refine below_drewN ?_ _) | (with_reducible refine Below.drew ?_) | (with_reducible refine Below.alloc ?_ ?_ _) | (with_reducible refine Below.setCell ?_ ?_ _) | omega | (simp; done) | (simp; omega))))
            have hos4 := hos.below (w' := w3.alloc (Obj.cells #[Value.func (Fn.func 21) #[] #[Value.pointer (some { block := w.heap.size + 1, off := 0 })]] 45)) (by (repeat' (first | (with_reducible exact Below.refl _ _) | (with_reducible assumption) | (with_reducible refine below_drewN ?_ _) | (with_reducible refine Below.drew ?_) | (with_reducible refine Below.alloc ?_ ?_ _) | (with_reducible refine Below.setCell ?_ ?_ _) | omega | (simp; done) | (simp; omega))))
            have hb4 : Below w.heap.size w (w3.alloc (Obj.cells #[Value.func (Fn.func 21) #[] #[Value.pointer (some { block := w.heap.size + 1, off := 0 })]] 45)) := hb3.alloc (by omega) _
            have hz4 : w3.heap.size + 1 = (w3.alloc (Obj.cells #[Value.func (Fn.func 21) #[] #[Value.pointer (some { block := w.heap.size + 1, off := 0 })]] 45)).heap.size := by simp
            generalize (w3.alloc (Obj.cells #[Value.func (Fn.func 21) #[] #[Value.pointer (some { block := w.heap.size + 1, off := 0 })]] 45)) = w4 at *
            have hbt : r + 1 ≤ w3.heap.size ∧ w3.heap.size < w4.heap.size := by omega
            have HLT : Hid (∀ j, (Value.slice na sn.length ncap).ownBlock = some j → j < w3.heap.size) := fun j hj => (World.ownsRow.lt hos j hj).2
            generalize w3.heap.size = bt at *
            clear hz4 hos hM3 hF3 HB3 hb3 hz3 hz2
            have hfd2 := fieldReq
            have hsl4 := hos4.slp (by omega) (fun s hs => HIN2.out s (HSS.out s hs))
            go_loopw [57] (fun i wr3 => ∃ k3 : Nat, k3 ≤ sn.length ∧ i = .int .i64 k3 ∧ Below w4.heap.size w4 wr3 ∧ PTo (lacks (byName us)) sn k3) (fun i _ => sn.length - (intOf i).toNat)
            case atStart => exact ⟨0, Nat.zero_le _, rfl, Below.refl _ _, fun _ _ hj => absurd hj (Nat.not_lt_zero _)⟩
            case round =>
              obtain ⟨k3, hk3, rfl, hb5, hto⟩ := hrel
              by_cases hlt3 : k3 < sn.length
              · obtain ⟨s, hs⟩ := get_lt sn hlt3
                have hsl4' := hsl4
                obtain ⟨_, _, hv, _, _, hcc⟩ := hsl4'
                obtain ⟨b, off, hna, hcell, hss, _⟩ := hcc k3 s hs
                simp only [Value.slice.injEq, true_and] at hv
                obtain ⟨rfl, rfl⟩ := hv
                subst hna
                clear hcc
                have hcell5 := cell_keeps hb5 hcell
                have hE5 := hE.keeps hb5
                have hbn : (byName us s).isSome = true := by rw [byName_isSome]; simpa using HSS.out s (List.mem_of_getElem? hs)
                obtain ⟨u, hu⟩ := Option.isSome_iff_exists.1 hbn
                obtain ⟨v', hv', huv⟩ := hE5.env.units.some hu
                obtain ⟨a', c', e', d', rfl, hr5, hf5⟩ := uv_shape huv
                have hlook := hE5.env.map.look Try.underlying42 zeroU hss
                rw [hv'] at hlook
                simp only [Option.getD_some] at hlook
                have hcl := hE5.env.cell
                have HS := Lib.hid hs
                have HLK := Lib.hid (show lacks (byName us) s = (u.req.any fun r => !(byName us r).isSome) by unfold lacks; rw [hu])
                have hcf := Lib.hid (containsFunc_any enters2 hr5 (notThere_pred hE5 hr5.size))
                generalize hlk : (u.req.any fun r => !(byName us r).isSome) = lk at HLK hcf
                clear hs hbn hu hv' hlk hcell
                cases lk
                · go_wp2_with fail
                  refine hcf.out.mono ?_
                  rintro e w6 ⟨rfl, hb6⟩
                  go_wp2_with fail
                  go_roundw
                  case rel => exact ⟨k3 + 1, by omega, by go_num, hb5.trans (hb6.mono hb5.size), hto.step HS.out HLK.out⟩
                  case measure => simp [intOf]; omega
                · have HRR := Lib.hid (show orderC us = ([], s, 28) by rw [hCC.out, find_first HS.out HLK.out hto])
                  go_wp2_with fail
                  refine hcf.out.mono ?_
                  rintro e w6 ⟨rfl, hb6⟩
                  go_wp2_with fail
                  go_ret3
                  rw [hres.out, orderB_none HT.out, HRR.out]
                  exact Ans.none (hb4.trans ((hb5.trans (hb6.mono hb5.size)).mono (by omega)))
              · obtain rfl : k3 = sn.length := by omega
                have HRR := Lib.hid (show orderC us = runU (byName us) us.length sn [] by rw [hCC.out, find_no (fun j x hx => hto j x (List.getElem?_eq_some_iff.1 hx).1 hx)])
                have hz5 := hb5.size
                have hE5 := hE.keeps hb5
                have hF5 := hF4.keeps hb5
                have hos5 := hos4.below hb5
                have hb5' : Below w.heap.size w wr := hb4.trans (hb5.mono (by omega))
                have honly := only_all (us := us) (sn := sn) HSI.out
                have hlen : sn.length = us.length := by rw [HSL.out]; simp [nm]
                have hbtz := hbt.1
                have HLEN := Lib.hid hlen
                have HONLY := Lib.hid honly
                clear hlen honly
                go_wp2_with fail
                go_loopw [10, 15] (fun t o wr6 => ∃ (ns : List ByteArray) (acc : List U) (xs : List Value) (F' : FMap), OS (r + 1) wr6 t ns ∧ wr6.ownsRow w4.heap.size 32 4 o acc.length xs ∧ UFlat (fun b => (w4.heap.size ≤ b ∧ o.ownBlock ≠ some b) ∧ Fz wr6 b) wr6 xs acc ∧
                    Env2 wr6 (w.heap.size + 1) bt w.heap.size k F' (only (byName us) ns) ∧ FU (fun b => b < w.heap.size) wr6 F' (only (byName us) ns) ∧ Below w.heap.size w wr6 ∧ w4.heap.size ≤ wr6.heap.size ∧ ns.Nodup ∧ (∀ s, s ∈ ns → s ∈ nm us) ∧
                    Hid (runU (byName us) us.length sn [] = runU (byName us) ns.length ns acc) ∧ ns.length ≤ 24 ∧ acc.length + ns.length ≤ 24 ∧ Hid (∀ j, t.ownBlock = some j → j < bt)) (fun t _ _ => lenOf t)
                case atStart => exact ⟨sn, [], [], F, hos5, World.ownsRow_nil _ _ _ _, UFlat.nil _ _, by rw [HONLY.out]; exact hE5, by rw [HONLY.out]; exact hF5, hb5', hz5, HSD.out, HSS.out, by unfold Hid; rw [HLEN.out], hsl, by simp; exact hsl, HLT⟩
                case round =>
                  obtain ⟨ns, acc, xs, F', hns, hown, hflat, hE6, hF6, hb6, hz6, hnd6, hin6, hrun6, hnl6, hal6, hlw6⟩ := hrel
                  have HND6 := Lib.hid hnd6
                  have HIN6 := Lib.hid hin6
                  clear hnd6 hin6
                  obtain ⟨ma, mcap, rfl⟩ := hns.shape
                  cases ns with
                  | nil =>
                    have hrr := hrun6.out
                    rw [runU_nil] at hrr
                    have HR7 := Lib.hid hrr
                    clear hrr
                    go_wp2_with fail
                    go_ret3
                    rw [hres.out, orderB_none HT.out, HRR.out, HR7.out]
                    refine ⟨_, rfl, ⟨xs, own_mono hown (by have := hb4.size; omega), hflat.mono fun b hbb => ⟨⟨by have := hb4.size; omega, hbb.1.2⟩, hbb.2⟩⟩, hb6⟩
                  | cons n0 rest =>
                    have hsl6 := hns.slp (by omega) (fun s hs => HIN2.out s (HIN6.out s hs))
                    have hpred : PredS 25 #[.pointer (some ⟨w.heap.size + 1, 0, none⟩), .pointer (some ⟨bt, 0, none⟩)] wr (n0 :: rest) (ready (only (byName us) (n0 :: rest))) := by
                      intro s hs W hbW
                      have hsn := HIN6.out s hs
                      have : (byName us s).isSome = true := by rw [byName_isSome]; simpa using hsn
                      obtain ⟨u, hu⟩ := Option.isSome_iff_exists.1 this
                      have hg : only (byName us) (n0 :: rest) s = some u := by rw [only_some hs]; exact hu
                      have := free_any (hE6.keeps hbW) (HIN2.out s hsn) hg
                      rw [show ready (only (byName us) (n0 :: rest)) s = free (only (byName us) (n0 :: rest)) u by unfold ready; rw [hg]]
                      exact this
                    have hix := Lib.hid (indexFunc_any enters3 hsl6 hpred)
                    clear hpred
                    rcases idxP_cases (ready (only (byName us) (n0 :: rest))) (n0 :: rest) with hidx | ⟨ix, s, hidx, hs, hlt6, hrd⟩
                    · have hrr := hrun6.out
                      rw [List.length_cons, runU_none hidx] at hrr
                      have HR7 := Lib.hid hrr
                      clear hrr
                      have HIDX := Lib.hid hidx
                      clear hidx
                      have hsl7 := hsl6
                      obtain ⟨_, _, hv, _, _, hcc⟩ := hsl7
                      obtain ⟨b, off, hna, hcell, hss, _⟩ := hcc 0 n0 rfl
                      simp only [Value.slice.injEq, true_and] at hv
                      obtain ⟨rfl, rfl⟩ := hv
                      subst hna
                      clear hcc
                      go_wp2_with fail
                      refine hix.out.mono ?_
                      rw [HIDX.out]
                      rintro e w7 ⟨rfl, hb7⟩
                      have hcell7 := cell_keeps hb7 hcell
                      simp only [Nat.add_zero] at hcell7
                      go_wp2_with fail
                      go_quiet (fail)
                      go_wp2_with fail
                      go_ret3
                      rw [hres.out, orderB_none HT.out, HRR.out, HR7.out]
                      exact Ans.none (below_drewN (hb6.trans (hb7.mono hb6.size)) _)
                    · have hsm := List.mem_of_getElem? hs
                      have hsn := HIN6.out s hsm
                      have hss := HIN2.out s hsn
                      have hbn : (byName us s).isSome = true := by rw [byName_isSome]; simpa using hsn
                      obtain ⟨u, hu⟩ := Option.isSome_iff_exists.1 hbn
                      have hg : only (byName us) (n0 :: rest) s = some u := by rw [only_some hsm]; exact hu
                      have hrr := hrun6.out
                      rw [List.length_cons, runU_some hidx hs hu] at hrr
                      have HR7 := Lib.hid hrr
                      have HIDX := Lib.hid hidx
                      obtain ⟨v', hv', huv⟩ := hF6.some hg
                      have huv0 := huv
                      obtain ⟨a', c', e', d', rfl, hr5, hf5⟩ := uv_shape huv
                      have HV := Lib.hid hv'
                      have HS := Lib.hid hs
                      have hsl7 := hsl6
                      obtain ⟨_, _, hv, _, _, hcc⟩ := hsl7
                      obtain ⟨b, off, hna, hcell, _, _⟩ := hcc ix s hs
                      simp only [Value.slice.injEq, true_and] at hv
                      obtain ⟨rfl, rfl⟩ := hv
                      subst hna
                      have hlt6 : (ix : Int) < ((rest.length : Int) + 1) := by simp at hlt6; omega
                      clear hcc hrr hidx hrd hbn hu hg hv' hs
                      go_wp2_with fail
                      refine hix.out.mono ?_
                      rw [HIDX.out]
                      rintro e w7 ⟨rfl, hb7⟩
                      have hcell7 := cell_keeps hb7 hcell
                      have hE7 := hE6.keeps hb7
                      have hb7d : Below wr.heap.size wr w7.drew := hb7.drew
                      have hl7 := hE7.env.cell
                      have hlook := (hE7.env.map.below (w' := w7.drew) (by (repeat' (first | (with_reducible exact Below.refl _ _) | (with_reducible assumption) | (with_reducible refine below_drewN ?_ _) | (with_reducible refine Below.drew ?_) | (with_reducible refine Below.alloc ?_ ?_ _) | (with_reducible refine Below.setCell ?_ ?_ _) | omega | (simp; done) | (simp; omega))))).look Try.underlying42 zeroU hss
                      rw [HV.out] at hlook
                      simp only [Option.getD_some] at hlook
                      go_wp2_with fail
                      go_region_law (first
                        | (refine step_append_unit rfl _ _ rfl w4.heap.size u15 acc.length xs rfl (own_below hown (hb8'.alloc (by omega) _)) w8.heap.size _ (.string u.name) (.string u.start) (.slice ra u.req.length rc) (.slice fa u.aft.length fc) rfl (block_cell (block_new _ _ rfl) rfl) (block_cell (block_new _ _ rfl) rfl) (block_cell (block_new _ _ rfl) rfl) (block_cell (block_new _ _ rfl) rfl) rfl rfl rfl rfl (by omega) (by simp; omega) ?_
                           intro v9 w9 hown9 hg9 hl9)
                        | (go_simp; go_at_call 26
                           refine (copiedU_any (UVP.keeps hb7d huv0)).mono ?_
                           rintro e w8 ⟨r8, f8, rfl, hor, hof, hb8⟩
                           obtain ⟨ra, rc, rfl⟩ := hor.shape
                           obtain ⟨fa, fc, rfl⟩ := hof.shape
                           have hb8' : Below wr.heap.size wr w8 := hb7d.trans (hb8.mono hb7d.size)
                           have hz8 := hb8'.size))
                      all_goals
                        have hlo9 := hown.lt
                        have hbb : r + 1 ≤ b ∧ b < bt := ⟨OS.lows hns b rfl, hlw6.out b rfl⟩
                        have hblt : bt < w4.heap.size := hbt.2
                        have hne1 : some b ≠ u15.ownBlock := fun e => by have := (hlo9 b e.symm).1; omega
                        have hne2 : some (w.heap.size + 1) ≠ u15.ownBlock := fun e => by have := (hlo9 _ e.symm).1; omega
                        have hne3 : some w.heap.size ≠ u15.ownBlock := fun e => by have := (hlo9 _ e.symm).1; omega
                        have hne4 : some bt ≠ u15.ownBlock := fun e => by have := (hlo9 _ e.symm).1; omega
                        have hE8 := (hE6.keeps hb8').keeps (W' := w8.alloc (Obj.cells #[.string u.name, .string u.start, .slice ra u.req.length rc, .slice fa u.aft.length fc] 32)) (by (repeat' (first | (with_reducible exact Below.refl _ _) | (with_reducible assumption) | (with_reducible refine below_drewN ?_ _) | (with_reducible refine Below.drew ?_) | (with_reducible refine Below.alloc ?_ ?_ _) | (with_reducible refine Below.setCell ?_ ?_ _) | omega | (simp; done) | (simp; omega))))
                        have c9 := hg9.cell (cell_keeps (w' := w8.alloc (Obj.cells #[.string u.name, .string u.start, .slice ra u.req.length rc, .slice fa u.aft.length fc] 32)) (by (repeat' (first | (with_reducible exact Below.refl _ _) | (with_reducible assumption) | (with_reducible refine below_drewN ?_ _) | (with_reducible refine Below.drew ?_) | (with_reducible refine Below.alloc ?_ ?_ _) | (with_reducible refine Below.setCell ?_ ?_ _) | omega | (simp; done) | (simp; omega)))) (cell_keeps hb8' hcell)) hne1
                        have l9 := hg9.cell hE8.env.cell hne2
                        have t9 := hg9.cell hE8.there hne4
                        have hM9 := hE8.env.map.kept hg9 hne3
                        have hns9 := World.ownsRow.kept (OS.below (w' := w8.alloc (Obj.cells #[.string u.name, .string u.start, .slice ra u.req.length rc, .slice fa u.aft.length fc] 32)) (OS.below hns hb8') (by (repeat' (first | (with_reducible exact Below.refl _ _) | (with_reducible assumption) | (with_reducible refine below_drewN ?_ _) | (with_reducible refine Below.drew ?_) | (with_reducible refine Below.alloc ?_ ?_ _) | (with_reducible refine Below.setCell ?_ ?_ _) | omega | (simp; done) | (simp; omega))))) hg9 (Or.inr hne1)
                        have hb9 : Below w.heap.size w w9 := Below.grown (w := w8.alloc _) ((hb6.trans (hb8'.mono hb6.size)).alloc (by omega) _) hg9 (by simp; omega) (fun j hj => by have := hlo9 j hj; omega)
                        have hz9 : w8.heap.size + 1 ≤ w9.heap.size := by have := hg9.size; simp at this; omega
                        go_wp2_with fail
                        go_still_tail 5, (by kernel_rfl)
                        change wpList _ _ _ _ _ w9.drew
                        go_wp2_with (at_delete
                                     refine at_drop _ rfl _ _ _ _ rfl Try.underlying42 w.heap.size k F' rfl (hM9.below (by (repeat' (first | (with_reducible exact Below.refl _ _) | (with_reducible assumption) | (with_reducible refine below_drewN ?_ _) | (with_reducible refine Below.drew ?_) | (with_reducible refine Below.alloc ?_ ?_ _) | (with_reducible refine Below.setCell ?_ ?_ _) | omega | (simp; done) | (simp; omega))))) s rfl hss ?_
                                     intro w10 hM10 hg10 hz10
                                     have HZ10 := Lib.hid hz10
                                     clear hz10)
                        have hns10 := World.ownsRow.kept (w := w9.drew) hns9 hg10 (Or.inr (by simp [obS]; omega))
                        have hlt10 : ix < (n0 :: rest).length := by simp; omega
                        refine (delete_own hns10 hlt10).mono ?_
                        rintro e w11 ⟨v11, rfl, hos11, hg11, hob11⟩
                        obtain ⟨da, dcap, rfl⟩ := hos11.shape
                        have HOB := Lib.hid hob11
                        have hel : ((n0 :: rest).eraseIdx ix).length = rest.length := by rw [List.length_eraseIdx, if_pos hlt10]; simp
                        have HEL := Lib.hid hel
                        clear hob11 hel
                        go_wp2_with fail
                        go_roundw
                        case rel =>
                          have hz10 : w10.heap.size = w9.heap.size := HZ10.out
                          have hz11 := hg11.size
                          have hb10 : Below w.heap.size w w10 := Below.grown (w := w9.drew) hb9.drew hg10 (by show _ ≤ w9.heap.size; omega) (by intro j hj; simp at hj; omega)
                          have hb11 : Below w.heap.size w w11 := Below.grown hb10 hg11 (by omega) (liesS (by omega))
                          have hzz : w4.heap.size ≤ w8.heap.size := by omega
                          have hown11 := World.ownsRow.kept (World.ownsRow.kept (w := w9.drew) hown9 hg10 (by
                            rcases hl9 with h | h
                            · rw [h]; exact Or.inr (fun e => hne3 e.symm)
                            · rw [h]; exact Or.inr (by simp; omega))) hg11 (by
                            rcases hl9 with h | h
                            · rw [h]; exact Or.inr (fun e => hne1 e.symm)
                            · rw [h]; exact Or.inr (by simp [obS]; omega))
                          have hkp : Kept (fun j => w4.heap.size ≤ j ∧ u15.ownBlock ≠ some j) w8 w11 := by
                            intro j hj hjl
                            have e1 : w9.heap[j]? = (w8.alloc (Obj.cells #[.string u.name, .string u.start, .slice ra u.req.length rc, .slice fa u.aft.length fc] 32)).heap[j]? := hg9.block j (by simp; omega) (fun e => hj.2 e.symm)
                            have e2 : w10.heap[j]? = w9.drew.heap[j]? := hg10.block j (by show _ < w9.heap.size; omega) (by simp; omega)
                            have e3 : w11.heap[j]? = w10.heap[j]? := hg11.block j (by omega) (by simp [obS]; omega)
                            rw [e3, e2]
                            show w9.heap[j]? = _
                            rw [e1, Below.heap_alloc _ _ _ hjl]
                          have hnot : ∀ j, j < w8.heap.size → u15.ownBlock ≠ some j → v9.ownBlock ≠ some j := by
                            intro j hj hne e
                            rcases hl9 with h | h
                            · rw [h] at e; exact hne e
                            · rw [h] at e; simp at e; omega
                          have hfl : UFlat (fun j => (w4.heap.size ≤ j ∧ v9.ownBlock ≠ some j) ∧ Fz w11 j) w11 xs acc := by
                            refine (((hflat.kept (w' := w8) (Kept.of_below _ hb8')).there.kept (Kept.mono hkp fun j hj => hj.1.1)).mono fun j hj => ⟨⟨hj.1.1.1, hnot j hj.2 hj.1.1.2⟩, (hj.1.2.below hb8').eq (hkp j hj.1.1 hj.2)⟩)
                          have hz7 : wr.heap.size ≤ w7.heap.size := hb7.size
                          have hin : ∀ j, w7.drew.heap.size ≤ j → w4.heap.size ≤ j ∧ u15.ownBlock ≠ some j := fun j hj => ⟨by have h : w7.heap.size ≤ j := hj; omega, fun e => by have h : w7.heap.size ≤ j := hj; have := (hlo9 j e).2; omega⟩
                          have hsr := ((hor.slpF hr5.len hr5.size).there.kept (w' := w11) (Kept.mono hkp fun j hj => hin j hj.1.1)).mono (p' := fun j => (w4.heap.size ≤ j ∧ v9.ownBlock ≠ some j) ∧ Fz w11 j) fun j hj => ⟨⟨(hin j hj.1.1).1, hnot j hj.2 (hin j hj.1.1).2⟩, hj.1.2.eq (hkp j (hin j hj.1.1) hj.2)⟩
                          have hsf := ((hof.slpF hf5.len hf5.size).there.kept (w' := w11) (Kept.mono hkp fun j hj => hin j hj.1.1)).mono (p' := fun j => (w4.heap.size ≤ j ∧ v9.ownBlock ≠ some j) ∧ Fz w11 j) fun j hj => ⟨⟨(hin j hj.1.1).1, hnot j hj.2 (hin j hj.1.1).2⟩, hj.1.2.eq (hkp j (hin j hj.1.1) hj.2)⟩
                          obtain ⟨_, _, _, hun, hus, _, _⟩ := huv0
                          have hFU : FU (fun b => b < w.heap.size) w11 (updF F' s none) (only (byName us) ((n0 :: rest).eraseIdx ix)) := by
                            rw [only_erase HS.out HND6.out]
                            exact (hF6.kept (Kept.two hb6 hb11)).del s
                          refine ⟨(n0 :: rest).eraseIdx ix, acc ++ [u], _, updF F' s none, hos11, by simpa using hown11, UFlat.snoc hfl hun hus hsr hsf, ⟨⟨?_, ?_, hFU.mono fun _ _ => trivial⟩, ?_⟩, hFU, hb11, by omega, ?_, ?_, ?_, by rw [HEL.out]; simp at hnl6; omega, by rw [HEL.out]; simp at hal6 ⊢; omega, ?_⟩
                          · exact hg11.cell (hg10.cell (w := w9.drew) l9 (by simp)) (by simp [obS]; omega)
                          · exact hM10.kept hg11 (by simp [obS]; omega)
                          · exact hg11.cell (hg10.cell (w := w9.drew) t9 (by simp; omega)) (by simp [obS]; omega)
                          · exact HND6.out.eraseIdx ix
                          · exact fun x hx => HIN6.out x (List.mem_of_mem_eraseIdx hx)
                          · unfold Hid; rw [HEL.out]; exact HR7.out
                          · unfold Hid; rw [HOB.out]; exact hlw6.out
                        case measure => simp [lenOf, HEL.out]
          · intro s v w3 cnt3 hss hls hFs hMR3 hlt3 hg3 hz3 hen
            have HZ3 := Lib.hid hz3
            have HLS := Lib.hid hls
            have hz3' : wr.heap.size ≤ w3.heap.size := by omega
            clear hz3 hls hFs
            go_wp2_with (at_builtin
                         refine append_str rfl _ _ rfl (r + 1) u10 ns.length _ rfl (World.ownsRow.alloc (OS.keptG hns hg3 (by intro j hj; cases hj; omega)) _) w3.heap.size _ s rfl (block_cell (block_new _ _ rfl) rfl) (by omega) (by simp; omega) ?_
                         intro v4 w4 hown4 hg4 hl4)
            go_roundw
            case rel =>
              have hlow := OS.lows hns
              have hz3 := HZ3.out
              have hg4' := hg4
              have hb4 : Below w.heap.size w w4 := Below.grown (w := w3.alloc _) ((hb2.grown hg3 (by omega) (by intro j hj; cases hj; omega)).alloc (by omega) _) hg4 (by simp; omega) (fun j hj => by have := hlow j hj; omega)
              have hne1 : some w.heap.size ≠ u10.ownBlock := OS.low hns (by omega)
              have hne2 : some r ≠ u10.ownBlock := OS.low hns (by omega)
              have hne3 : some (w.heap.size + 1) ≠ u10.ownBlock := OS.low hns (by omega)
              have hmem : (byName us s).isSome = true ∧ s ∉ ns := by have := HLE.out s; rw [HLS.out] at this; simpa using this.symm
              refine ⟨ns ++ [s], _, cnt3, OS.snoc hown4, ((hMR3.kept (World.grownBy_alloc _ (Obj.cells #[Value.string s] 9) none) (by simp) (by simp)).kept hg4 hne1 hne2), ?_, hb4, hF2.kept (Kept.two hb2 hb4), ?_, ?_, ?_, ?_⟩
              · exact block_grown (block_alloc (block_grown HB2.out hg3 (by simp; omega)) _) hg4 hne3
              · have := hg4.size; simp at this; omega
              · rw [List.nodup_append]
                exact ⟨HNS.out, by simp, fun a ha b hb' e => by simp at hb'; subst hb'; subst e; exact hmem.2 ha⟩
              · intro x
                rw [HLE.out x]
                by_cases hx : x = s <;> simp [hx]
              · intro x hx
                rcases List.mem_append.1 hx with hx | hx
                · exact HIN.out x hx
                · simp at hx
                  subst hx
                  have := hmem.1
                  rw [byName_isSome] at this
                  exact ⟨by simpa using this, hss⟩
            case measure =>
              have hne1 : some w.heap.size ≠ u10.ownBlock := OS.low hns (by omega)
              have hne2 : some r ≠ u10.ownBlock := OS.low hns (by omega)
              rw [((hMR3.kept (World.grownBy_alloc _ (Obj.cells #[Value.string s] 9) none) (by simp) (by simp)).kept hg4 hne1 hne2).left_eq, hMR.left_eq]
              exact hlt3
end Go.Proofs.Ytlhlbckmifgeeaa
