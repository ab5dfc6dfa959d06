/- ParseBrackets: the walk. -/
import Derived.Test.YtppljgallbmgcaaGreatDoorCutW
import Derived.Test.YtppljgallbmgcaaGreatDoorRefSameT
import Derived.Test.YtppljgallbmgcaaGreatDoorFitP
namespace Go.Proofs.YtppljgallbmgcaaGreatDoor
open Go.RowKit Go.Shelf
theorem fldF (a b : Value) (w : World) : (Instr.field 37 (.agg #[a, b]) 1).run Tryz.prog w = .ok b w := by kernel_rfl
theorem fit_of {pf : ByteArray → Nat} {s : ByteArray} {l : List Nd} {ls : List NV} (h : parseP pf s = .ok l) (hm : ls.map NV.nd = l) : ∀ x ∈ ls, NFit 4096 x.nd := fun x hx => parse_fit h _ (by rw [← hm]; exact List.mem_map.2 ⟨x, hx, rfl⟩)
def mvL (d k : Nat) (ls : List NV) : List NV := (ls.take k).map (fun x => x.at (x.nd.place + d)) ++ ls.drop k
theorem mvL_zero (d : Nat) (ls : List NV) : mvL d 0 ls = ls := rfl
theorem mvL_get {d k : Nat} {ls : List NV} {x : NV} (h : ls[k]? = some x) : (mvL d k ls)[k]? = some x := by
  have hlt : k < ls.length := (List.getElem?_eq_some_iff.1 h).1
  unfold mvL
  rw [List.getElem?_append_right (by simp; omega)]
  simp only [List.length_map, List.length_take, List.getElem?_drop]
  rw [show k + (k - min k ls.length) = k by omega]
  exact h
theorem mvL_set {d k : Nat} {ls : List NV} {x : NV} (h : ls[k]? = some x) : (mvL d k ls).set k (x.at (x.nd.place + d)) = mvL d (k + 1) ls := by
  obtain ⟨hlt, hx⟩ := List.getElem?_eq_some_iff.1 h
  unfold mvL
  rw [List.set_append_right _ _ (by simp; omega)]
  simp only [List.length_map, List.length_take]
  rw [show k - min k ls.length = 0 by omega, List.drop_eq_getElem_cons hlt, hx, List.take_succ_eq_append_getElem hlt, hx]
  simp
theorem mvL_all {d : Nat} {ls : List NV} : mvL d ls.length ls = ls.map (fun x => x.at (x.nd.place + d)) := by
  unfold mvL
  simp
theorem mvL_len (d k : Nat) (ls : List NV) : (mvL d k ls).length = ls.length := by
  unfold mvL
  simp
  omega
theorem Keeps.mono' {p q : Nat → Prop} {w w' : World} (h : Keeps q w w') (hpq : ∀ k, p k → q k) : Keeps p w w' := fun k hk hl => h k (hpq k hk) hl
theorem NRd.mono {pn pn' : Nat → Prop} {pk pk' : Nat → Nat → Prop} {w : World} {g o : Nat} {ls : List NV} (h : NRd pn pk w g o ls) (h1 : ∀ k, pn k → k < w.heap.size → pn' k) (h2 : ∀ i k, pk i k → k < w.heap.size → pk' i k) : NRd pn' pk' w g o ls :=
  ⟨h.blk, fun i x hi => (h.nam i x hi).mono h1, fun i x hi => (h.kid i x hi).mono (h2 i)⟩
/-- Nodes that were made behind a world: all of their rows lie behind it. -/
theorem ND.rd_from {q : Nat → Prop} {A B Z : Nat} {w : World} {g n c : Nat} {ls : List NV} (h : ND q A B w (.slice (some ⟨g, 0, none⟩) n c) ls) (hZ : Z ≤ A) (hAB : A ≤ B) : NRd (fun k => Z ≤ k) (fun _ k => Z ≤ k) w g 0 ls := by
  have h1 := h.rd
  exact ⟨h1.blk, fun i x hi => (h.nam i x hi).mono fun k hk _ => by show Z ≤ k; omega, fun i x hi => RowR.own (h.kid i x hi) rfl fun b hb _ => by show Z ≤ b; omega⟩
set_option maxHeartbeats 4000000 in
set_option maxRecDepth 100000 in
theorem brackets_law {NG : Nat} {w : World} (hG : GP NG w) (hE : HndG w) (s : ByteArray) (hs : s.size ≤ 9223372036854775807) :
    Calls Tryz.prog 4 #[.string s] w fun e w' => e = .returned (.bool true) ∧ Below w.heap.size w w' := by
  have HSH := Lib.hid (shown_any hG)
  have HGW := Lib.hid (fun (w' : World) (hb : Below w.heap.size w w') t => Parse_any (hG.below hb) t)
  have HEW := Lib.hid (fun (w' : World) (hb : Below w.heap.size w w') => hE.keeps hb)
  obtain ⟨RES, hRES⟩ : ∃ R, parseP pfA s = R := ⟨_, rfl⟩
  have HRES := Lib.hid hRES
  clear hG hE hRES
  have hrm := fun W => room_any s 10 (by omega) W
  go_enter Tryz.func4, Tryz.ntmps4
  go_wp2_with fail
  refine HSH.out.mono ?_
  rintro e w2 ⟨rfl, hb2⟩
  have HP := HGW.out w2 hb2 s
  rw [HRES.out] at HP
  have HP := Lib.hid HP
  cases RES with
  | error er =>
    obtain ⟨p, er⟩ := er
    go_wp2_with fail
    refine HP.out.mono ?_
    rintro e w3 ⟨⟨v, rfl, hft⟩, hb3⟩
    have hB3 := hb2.trans (hb3.mono hb2.size)
    clear hft
    go_wp2_with fail
    refine (hrm w3).mono ?_
    rintro e w4 ⟨rfl, rfl⟩
    go_wp2_with fail
    go_ret
    exact ⟨rfl, hB3⟩
  | ok l =>
    go_wp2_with fail
    refine HP.out.mono ?_
    rintro e w3 ⟨⟨out, ls, A, B, rfl, hnd, hmap, hA, hAB⟩, hb3⟩
    have hB3 := hb2.trans (hb3.mono hb2.size)
    have hz2 := hb2.size
    have HND := Lib.hid hnd
    have HMAP := Lib.hid hmap
    obtain ⟨a, cap, rfl⟩ := own_shape hnd.own
    clear hnd hmap hb3 HP
    go_wp2_with fail
    refine (hrm w3).mono ?_
    rintro e w4 ⟨rfl, rfl⟩
    clear hrm
    by_cases hz : s.size ≤ 4086
    · have hzI : (s.size : Int) ≤ 4086 := by omega
      have e1 : (⟨#[40, 32]⟩ ++ s ++ ⟨#[10, 41]⟩ : ByteArray).data.toList = 40 :: 32 :: (s.data.toList ++ [10, 41]) := by
        rw [nw_app, nw_app]
        rfl
      have H1 := Lib.hid (brackets HRES.out e1 hz)
      obtain ⟨R1, hR1⟩ : ∃ R, parseP pfA (⟨#[40, 32]⟩ ++ s ++ ⟨#[10, 41]⟩) = R := ⟨_, rfl⟩
      rw [hR1] at H1
      have HP1 := HGW.out w4 hB3 (⟨#[40, 32]⟩ ++ s ++ ⟨#[10, 41]⟩)
      rw [hR1] at HP1
      have HP1 := Lib.hid HP1
      have HNE : Hid (0 < ls.length) := Lib.hid (by
        obtain ⟨_, t, _, _, _, _, _, _, hl, _⟩ := taken HRES.out
        have h1 := congrArg List.length HMAP.out
        rw [List.length_map, hl, nodes_len] at h1
        have := cnt_pos t
        omega)
      have HFIT := Lib.hid (fit_of HRES.out HMAP.out)
      clear e1 hR1 HGW HRES HSH
      rcases H1.out with h | ⟨p1, h⟩
      · subst h
        clear H1
        go_wp2_with fail
        refine HP1.out.mono ?_
        rintro e w5 ⟨⟨out2, ms, A2, B2, rfl, hnd2, hmap2, hA2, hAB2⟩, hb5⟩
        have hz4 := hB3.size
        have hB5 := hB3.trans (hb5.mono hz4)
        have hlen : ms.length = ls.length := by
          have h1 := congrArg List.length hmap2
          rw [List.length_map, List.length_map, ← HMAP.out, List.length_map] at h1
          exact h1
        have hne := HNE.out
        obtain ⟨x0, h0⟩ := get_lt ls hne
        obtain ⟨y0, k0⟩ := get_lt ms (k := 0) (by omega)
        obtain ⟨gf, n1, c1, hv1, hn1, hgB⟩ := HND.out.at_ne h0
        obtain ⟨gg, n2, c2, hv2, hn2, hgB2⟩ := hnd2.at_ne k0
        cases hv1
        subst hv2
        obtain ⟨z1, z2, _⟩ := HND.out.apart
        have hrf := HND.out.rd.below hb5
        have hrg := hnd2.rd_from hA2 hAB2
        have hgl := HND.out.rd.lt
        have hgg := hrg.lt
        have HRF := Lib.hid hrf
        have HRG := Lib.hid hrg
        have HZ1 := Lib.hid z1
        have HBD := Lib.hid HND.out.bound
        have hnn : ls.length ≤ 9223372036854775807 := by
          obtain ⟨_, h1 | ⟨_, _, _, _, _, _, hle, hm, _⟩⟩ := HND.out.own
          · cases h1.1
          · unfold maxLen at hm; omega
        have HM2 := Lib.hid hmap2
        have HLEN := Lib.hid hlen
        subst hn2
        rw [hlen]
        clear hlen hrf hrg hnd2 HND h0 k0 z1 z2 hmap2 hn1 HP1 HNE
        go_wp2_with fail
        go_loopw [9] (fun i wr => ∃ k : Nat, k ≤ ls.length ∧ i = .int .i64 (k : Int) ∧ NRd (fun k => k < B) (kidAt ls) wr gf 0 (mvL 2 k ls) ∧ But gf w5.heap.size w5 wr) (fun i _ => ls.length - (intOf i).toNat)
        case atStart => exact ⟨0, Nat.zero_le _, rfl, HRF.out, But.refl _ _ _⟩
        case round =>
          obtain ⟨k, hk, rfl, hr, hbt⟩ := hrel
          by_cases hlt : k < ls.length
          · obtain ⟨x, hx⟩ := get_lt ls hlt
            have hkI : (k : Int) < (ls.length : Int) := by omega
            have c6 := hr.cell (mvL_get hx) 6 _ rfl
            have f6 := hr.free (0 + k * 7 + 6)
            simp only [Nat.zero_add] at c6 f6
            have hpl := (HFIT.out x (List.mem_of_getElem? hx)).2
            have HR := Lib.hid hr
            have HX := Lib.hid hx
            clear hr hx
            have hgl := HR.out.lt
            go_wp2_with fail
            go_roundw
            case rel =>
              refine ⟨k + 1, by omega, by go_num, ?_, hbt.setCell (Or.inl rfl) _⟩
              have h9 := HR.out.place (fun k hk => by have := hgB; omega) (fun i k hk => (HZ1.out i k hk).1) (mvL_get HX.out) (x.nd.place + 2)
              rw [mvL_set HX.out, Nat.zero_add] at h9
              exact h9
            case measure => simp [intOf]; omega
          · obtain rfl : k = ls.length := by omega
            have hbd : ∀ x ∈ mvL 2 ls.length ls, x.nd.names.length ≤ 9223372036854775807 ∧ x.nd.kids.length ≤ 9223372036854775807 := by
              rw [mvL_all]
              intro x hx
              obtain ⟨y, hy, rfl⟩ := List.mem_map.1 hx
              have h1 := HBD.out y hy
              have h2 := (HFIT.out y hy).1
              exact ⟨Nat.le_trans h2 h1, h1⟩
            have hsame : ∀ (i : Nat) (x y : NV), (mvL 2 ls.length ls)[i]? = some x → ms[i]? = some y → SameN true x.nd y.nd := by
              rw [mvL_all]
              intro i x y hx hy
              rw [List.getElem?_map] at hx
              cases hz : ls[i]? with
              | none => rw [hz] at hx; cases hx
              | some z =>
                rw [hz] at hx
                cases hx
                have h1 : (ms.map NV.nd)[i]? = some y.nd := by rw [List.getElem?_map, hy]; rfl
                rw [HM2.out, ← HMAP.out, List.getElem?_map, List.getElem?_map, hz] at h1
                have h2 : y.nd = Nd.mv 2 z.nd := (Option.some.inj h1).symm
                rw [h2]
                exact ⟨rfl, rfl, rfl, rfl, rfl, rfl, fun _ => rfl⟩
            have hrg := HRG.out.keep (hbt.block gg hgg (by omega)) (hbt.keeps (Nat.le_refl _) (fun k hk => by have : w4.heap.size ≤ k := hk; omega)) (fun _ => hbt.keeps (Nat.le_refl _) (fun k hk => by have : w4.heap.size ≤ k := hk; omega))
            have HS := Lib.hid (same_true (c := cap) (c' := c2) hnn (mvL_len 2 ls.length ls) HLEN.out hr hrg hbd hsame)
            have hbw : Below w.heap.size w _ := hB5.trans (hbt.below hB5.size (by omega))
            clear hr hrg hbd hsame
            go_wp2_with fail
            refine HS.out.mono ?_
            rintro e w7 ⟨rfl, hb7⟩
            go_wp2_with fail
            go_ret
            exact ⟨rfl, hbw.trans (hb7.mono hbw.size)⟩
      · subst h
        clear H1
        go_wp2_with fail
        refine HP1.out.mono ?_
        rintro e w5 ⟨⟨v, rfl, f1, ty, rfl, g1⟩, hb5⟩
        have hB5 := hB3.trans (hb5.mono hB3.size)
        have HF1 := Lib.hid (fault_says (HEW.out w5 hB5) g1)
        clear HP1 g1
        go_wp2_with fail
        refine HF1.out.mono ?_
        rintro e w6 ⟨rfl, hb6⟩
        have hff := fldF
        go_wp2_with fail
        go_ret
        exact ⟨rfl, hB5.trans (hb6.mono hB5.size)⟩
    · have hd1 : decide ((s.size : Int) ≤ 4086) = false := decide_eq_false (by omega)
      have hnI : 4086 < (s.size : Int) := by omega
      go_wp2_with fail
      go_ret
      exact ⟨rfl, hB3⟩
end Go.Proofs.YtppljgallbmgcaaGreatDoor
