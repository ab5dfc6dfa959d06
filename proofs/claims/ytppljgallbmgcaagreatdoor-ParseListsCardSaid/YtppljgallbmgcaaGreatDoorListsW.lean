/- ParseLists: the walk. -/
import Derived.Test.YtppljgallbmgcaaGreatDoorListsP
import Derived.Test.YtppljgallbmgcaaGreatDoorParNR
import Derived.Test.YtppljgallbmgcaaGreatDoorStrAid
namespace Go.Proofs.YtppljgallbmgcaaGreatDoor
open Go.RowKit Go.Shelf
/-- Texts that came in. -/
def SZ (w : World) (v : Value) (len : Nat) (ss : Nat → ByteArray) : Prop := (v = .slice none 0 0 ∧ len = 0) ∨ ∃ a cap, v = .slice (some a) len cap ∧ len ≤ 9223372036854775807 ∧ ∀ j, j < len → w.cell? (a.add j) = some (.string (ss j)) ∧ (ss j).size ≤ 9223372036854775807
theorem fldL (a b : Value) (w : World) : (Instr.field 37 (.agg #[a, b]) 1).run Tryz.prog w = .ok b w := by kernel_rfl
def TK (its : List ByteArray) (cs : List Nat) : Prop := ∀ (i : Nat) (t : ByteArray), its[i]? = some t → ∃ l, parseP pfA t = .ok l ∧ cs[i]? = some l.length
theorem TK.snoc {its : List ByteArray} {cs : List Nat} (h : TK its cs) (hl : its.length = cs.length) {t : ByteArray} {l : List Nd} (ht : parseP pfA t = .ok l) : TK (its ++ [t]) (cs ++ [l.length]) := by
  intro i x hx
  by_cases hi : i < its.length
  · rw [List.getElem?_append_left hi] at hx
    obtain ⟨l', h1, h2⟩ := h i x hx
    exact ⟨l', h1, by rw [List.getElem?_append_left (by omega)]; exact h2⟩
  · rw [List.getElem?_append_right (by omega)] at hx
    have hi0 : i - its.length = 0 := by
      rcases Nat.eq_zero_or_pos (i - its.length) with h0 | h0
      · exact h0
      · rw [List.getElem?_eq_none (by simp; omega)] at hx; cases hx
    rw [hi0] at hx
    simp at hx
    subst hx
    exact ⟨l, ht, by rw [List.getElem?_append_right (by omega), show i - cs.length = 0 by omega]; rfl⟩
theorem sumL_len (b : Nat) (cs : List Nat) : (sumL b cs).length = cs.length := by
  induction cs generalizing b with
  | nil => rfl
  | cons a cs ih => simp [sumL, ih]
theorem item_step (its : List ByteArray) (t : ByteArray) : baL (91 :: itL its) ++ ⟨#[32, 40]⟩ ++ t ++ ⟨#[10, 41]⟩ = baL (91 :: itL (its ++ [t])) := by
  rw [baL_app, baL_app, baL_app, itL_app]
  simp
set_option maxHeartbeats 8000000 in
set_option maxRecDepth 100000 in
theorem lists_law {NG : Nat} {w : World} (hG : GP NG w) (hE : HndG w) {v : Value} {len : Nat} {ss : Nat → ByteArray} (hss : SZ w v len ss) :
    Calls Tryz.prog 7 #[v] w fun e w' => e = .returned (.bool true) ∧ Below w.heap.size w w' := by
  have HSH := Lib.hid (shown_any hG)
  have HGW := Lib.hid (fun (w' : World) (hb : Below w.heap.size w w') t => Parse_any (hG.below hb) t)
  have HEW := Lib.hid (fun (w' : World) (hb : Below w.heap.size w w') => hE.keeps hb)
  obtain ⟨va, vc, hv, hlen⟩ : ∃ va vc, v = .slice va len vc ∧ len ≤ 9223372036854775807 := by
    rcases hss with ⟨h1, h2⟩ | ⟨a, cap, h1, h2, _⟩
    · exact ⟨none, 0, by rw [h1, h2], by omega⟩
    · exact ⟨some a, cap, h1, h2⟩
  subst hv
  have HSS := Lib.hid (show ∀ j, j < len → ∃ a, va = some a ∧ w.cell? (a.add j) = some (.string (ss j)) ∧ (ss j).size ≤ 9223372036854775807 by
    intro j hj
    rcases hss with ⟨_, h2⟩ | ⟨a, cap, h1, h2, h3⟩
    · omega
    · cases h1
      exact ⟨a, rfl, h3 j hj⟩)
  clear hG hE hss
  go_enter Tryz.func7, Tryz.ntmps7
  go_wp2_with fail
  refine HSH.out.mono ?_
  rintro e w2 ⟨rfl, hb2⟩
  have HB2 := Lib.hid hb2
  clear hb2
  go_upto_region 6 with fail
  go_loopw [4, 5, 6, 7] (fun o nd ln i wr => ∃ (j : Nat) (its : List ByteArray) (cs : List Nat), j ≤ len ∧ j ≤ 12 ∧ its.length ≤ j ∧ o = .string (baL (91 :: itL its)) ∧ (91 :: itL its).length ≤ 4080 ∧ nd = .int .i64 (cs.sum : Nat) ∧ cs.sum ≤ 998 ∧ i = .int .i64 (j : Int) ∧ Hid (TK its cs) ∧ its.length = cs.length ∧
    wr.ownsRow w.heap.size 3 1 ln cs.length ((sumL 0 cs).map num) ∧ Below w.heap.size w wr) (fun _ _ _ i _ => 12 - (intOf i).toNat)
  case atStart => exact ⟨0, [], [], Nat.zero_le _, Nat.zero_le _, Nat.le_refl _, rfl, by simp [itL], rfl, Nat.zero_le _, rfl, Lib.hid (fun i t h => by cases h), rfl, World.ownsRow_nil _ _ _ _, HB2.out⟩
  case round =>
    obtain ⟨j, its, cs, hj, hj12, hij, rfl, hoz, rfl, hcs, rfl, htk, hic, hown, hb⟩ := hrel
    have hoz' : (baL (91 :: itL its)).size ≤ 4080 := hoz
    have hI3 : ((cs.sum : Nat) : Int) ≤ 998 := by omega
    obtain ⟨la, lc, rfl⟩ := own_shape hown
    by_cases hlt : j < len ∧ j < 12
    · obtain ⟨hlt, hlt12⟩ := hlt
      obtain ⟨ad, rfl, hcell, htz⟩ := HSS.out j hlt
      have hcell := cell_keeps hb hcell
      have hI1 : (j : Int) < (len : Int) := by omega
      have hI2 : (j : Int) < 12 := by omega
      obtain ⟨t, ht⟩ : ∃ t, ss j = t := ⟨_, rfl⟩
      rw [ht] at hcell htz
      clear ht
      obtain ⟨RES, hRES⟩ : ∃ R, parseP pfA t = R := ⟨_, rfl⟩
      have HRES := Lib.hid hRES
      have HP := HGW.out _ hb t
      rw [hRES] at HP
      have HP := Lib.hid HP
      have HOWN := Lib.hid hown
      have HB := Lib.hid hb
      have HCL := Lib.hid hcell
      have hlwr := hb.size
      clear hRES hown
      cases RES with
      | error er =>
        obtain ⟨p, er⟩ := er
        go_wp2_with fail
        refine HP.out.mono ?_
        rintro e w3 ⟨⟨v, rfl, hft⟩, hb3⟩
        clear hft
        have hcell := cell_keeps hb3 HCL.out
        go_wp2_with fail
        go_roundw
        case rel => exact ⟨j + 1, its, cs, by omega, by omega, by omega, rfl, hoz, rfl, hcs, by go_num, htk, hic, own_below HOWN.out hb3, hb.trans (hb3.mono hlwr)⟩
        case measure => simp [intOf]; omega
      | ok l =>
        go_wp2_with fail
        refine HP.out.mono ?_
        rintro e w3 ⟨⟨out, ls, A, B, rfl, hnd, hmap, hA, hAB⟩, hb3⟩
        obtain ⟨a, cap, rfl⟩ := own_shape hnd.own
        have hll : ls.length = l.length := by rw [← hmap, List.length_map]
        obtain ⟨hlb, htz2⟩ : l.length ≤ 1000 ∧ t.size ≤ 4096 := by
          obtain ⟨_, x, _, _, hz, _, _, _, hl, hc⟩ := taken HRES.out
          rw [hl, nodes_len]
          exact ⟨hc, hz⟩
        have hcell := cell_keeps hb3 HCL.out
        have hB3 := hb.trans (hb3.mono hlwr)
        have HOWN3 := Lib.hid (own_below HOWN.out hb3)
        rw [hll]
        clear hnd hmap hA hAB hb3 HP hll HOWN HCL
        by_cases hskip : 4076 < (baL (91 :: itL its)).size + t.size ∨ 998 < cs.sum + l.length
        · obtain ⟨O, hO⟩ : ∃ O, baL (91 :: itL its) = O := ⟨_, rfl⟩
          rw [hO] at hskip hoz' ⊢
          have HO := Lib.hid hO
          clear hO
          by_cases hs1 : 4076 < O.size + t.size
          · have hs1I : 4076 < (O.size : Int) + (t.size : Int) := by omega
            go_wp2_with fail
            go_roundw
            case rel => exact ⟨j + 1, its, cs, by omega, by omega, by omega, by rw [HO.out], hoz, rfl, hcs, by go_num, htk, hic, HOWN3.out, hB3⟩
            case measure => simp [intOf]; omega
          · have hs1I : (O.size : Int) + (t.size : Int) ≤ 4076 := by omega
            have hs2I : 998 < ((cs.sum : Nat) : Int) + (l.length : Int) := by omega
            go_wp2_with fail
            go_roundw
            case rel => exact ⟨j + 1, its, cs, by omega, by omega, by omega, by rw [HO.out], hoz, rfl, hcs, by go_num, htk, hic, HOWN3.out, hB3⟩
            case measure => simp [intOf]; omega
        · have hs1 : (baL (91 :: itL its)).size + t.size ≤ 4076 := by omega
          have hs2 : cs.sum + l.length ≤ 998 := by omega
          have hl0 : 0 < l.length := by
            obtain ⟨_, x, _, _, _, _, _, _, hl, _⟩ := taken HRES.out
            rw [hl, nodes_len]
            exact cnt_pos x
          have HIS := Lib.hid (item_step its t)
          have HOZ : Hid ((91 :: itL (its ++ [t])).length ≤ 4080) := Lib.hid (by
            have h1 : (baL (91 :: itL its)).size = (91 :: itL its).length := rfl
            rw [itL_app]
            simp only [List.length_cons, List.length_append, list_len, List.length_nil] at h1 ⊢
            omega)
          have HTK := Lib.hid (htk.out.snoc hic HRES.out)
          have HOS : Hid ((sumL 0 cs).map num ++ [.int .i64 (((cs.sum : Nat) : Int) + (l.length : Int) - 1)] = (sumL 0 (cs ++ [l.length])).map num) := Lib.hid (by
            rw [sumL_app, List.map_append]
            simp only [List.map_cons, List.map_nil, num, Nat.zero_add]
            rw [show ((cs.sum + l.length - 1 : Nat) : Int) = ((cs.sum : Nat) : Int) + (l.length : Int) - 1 by omega])
          obtain ⟨O, hO⟩ : ∃ O, baL (91 :: itL its) = O := ⟨_, rfl⟩
          rw [hO] at hs1 HIS hoz' ⊢
          have hs1I : (O.size : Int) + (t.size : Int) ≤ 4076 := by omega
          have hs2I : ((cs.sum : Nat) : Int) + (l.length : Int) ≤ 998 := by omega
          have hz3 := hB3.size
          clear hO hskip
          go_wp2_with (at_builtin
                       refine append_num rfl _ _ rfl w.heap.size (.slice la cs.length lc) cs.length ((sumL 0 cs).map num) (by rfl) (own_below HOWN3.out ((Below.refl _ _).alloc (Nat.le_refl _) _)) _ _ (((cs.sum : Nat) : Int) + (l.length : Int) - 1) (by rfl) (block_new _ _ (by rfl)) (by omega) (by simp; omega) ?_
                       intro v' w' hown' hg' hv')
          go_roundw
          case rel =>
            refine ⟨j + 1, its ++ [t], cs ++ [l.length], by omega, by omega, by simp; omega, by rw [HIS.out], HOZ.out, by simp, by simp; omega, by go_num, HTK, by simp [hic], ?_, Below.grown (hB3.alloc hz3 _) hg' (by simp; omega) (fun k hk => (HOWN3.out.lt k hk).1)⟩
            rw [HOS.out] at hown'
            simpa using hown'
          case measure => simp [intOf]; omega
    · have HTX : Hid ((baL (91 :: itL its) ++ ⟨#[93]⟩ : ByteArray).data.toList = 91 :: (itL its ++ [93])) := Lib.hid (by rw [baL_app]; simp [baL])
      have HTZ : Hid ((baL (91 :: itL its) ++ ⟨#[93]⟩ : ByteArray).size ≤ 4096) := Lib.hid (by
        rw [ba_size]
        have : (⟨#[93]⟩ : ByteArray).size = 1 := rfl
        omega)
      have HLS := Lib.hid (lists htk.out hic HTX.out HTZ.out (by omega))
      obtain ⟨RES, hRES⟩ : ∃ R, parseP pfA (baL (91 :: itL its) ++ ⟨#[93]⟩) = R := ⟨_, rfl⟩
      have HP := HGW.out _ hb (baL (91 :: itL its) ++ ⟨#[93]⟩)
      rw [hRES] at HP HLS
      have HP := Lib.hid HP
      have HOWN := Lib.hid hown
      have HB := Lib.hid hb
      have hlwr := hb.size
      obtain ⟨O, hO⟩ : ∃ O, baL (91 :: itL its) = O := ⟨_, rfl⟩
      rw [hO] at HP hoz' ⊢
      clear hRES hown hO HTX HTZ htk
      rcases HLS.out with ⟨r, h1, h2, h3⟩ | ⟨p, h1⟩
      · subst h1
        have H2 := Lib.hid h2
        have H3 := Lib.hid h3
        clear HLS h2 h3
        by_cases hx1 : j < len
        · have hxI : (j : Int) < (len : Int) := by omega
          have hxJ : ¬ (j : Int) < 12 := by omega
          go_wp2_with fail
          refine HP.out.mono ?_
          rintro e w3 ⟨⟨out, hs, A, B, rfl, hnd, hmap, hA, hAB⟩, hb3⟩
          have hB3 := HB.out.trans (hb3.mono hlwr)
          have hhl : hs.length = cs.sum + 1 := by rw [← H2.out, ← hmap, List.length_map]
          obtain ⟨z, hz, hzn⟩ : ∃ z : NV, hs[cs.sum]? = some z ∧ z.nd = ⟨5, ⟨#[]⟩, 0, 0, [], sumL 0 cs, 0⟩ := by
            have h3 := H3.out
            rw [← hmap, List.getElem?_map] at h3
            cases hz : hs[cs.sum]? with
            | none => rw [hz] at h3; cases h3
            | some z => rw [hz] at h3; exact ⟨z, rfl, Option.some.inj h3⟩
          obtain ⟨gh, n', c, rfl, hn', _⟩ := hnd.at_ne hz
          rw [hhl] at hn'
          subst hn'
          obtain ⟨a1, c1, a2, c2, _, _, p0, p1, p2, p3, p4, p5, p6, pk, _⟩ := hnd.rd.seven hz
          rw [hzn] at p0 p5 p6 pk
          simp only [sumL_len, Nat.zero_add] at p0 p5 p6 pk
          have HPK := Lib.hid pk
          have HOWN3 := Lib.hid (own_below HOWN.out hb3)
          have hcI : ((cs.sum + 1 : Nat) : Int) = ((cs.sum : Nat) : Int) + 1 := by omega
          have hcL : cs.length ≤ 100 := by omega
          clear hnd hmap hA hAB hb3 HP pk p1 p2 p3 p4 hz hzn
          go_wp2_with fail
          go_loopw [12] (fun i wq => ∃ k z : Nat, k ≤ cs.length ∧ i = .int .i64 (k : Int) ∧ wq = w3.drewN z) (fun i _ => cs.length - (intOf i).toNat)
          case atStart => exact ⟨0, 0, Nat.zero_le _, rfl, rfl⟩
          case round =>
            obtain ⟨k, z, hk, rfl, rfl⟩ := hrel
            by_cases hlk : k < cs.length
            · obtain ⟨m, hm⟩ : ∃ m, (sumL 0 cs)[k]? = some m := ⟨_, List.getElem?_eq_getElem (by rw [sumL_len]; exact hlk)⟩
              obtain ⟨b1, e1, r1⟩ := HPK.out k m hm
              obtain ⟨b2, e2, _, _, r2⟩ := own_cell HOWN3.out rfl (j := k) (x := num m) (by rw [List.getElem?_map, hm]; rfl)
              unfold num at r2
              subst e1 e2
              have hkI : (k : Int) < (cs.length : Int) := by omega
              clear hm
              go_wp2_with fail
              go_quiet (fail)
              go_wp2_with fail
              go_roundw
              case rel => exact ⟨k + 1, _, by omega, by go_num, rfl⟩
              case measure => simp [intOf]; omega
            · obtain rfl : k = cs.length := by omega
              go_wp2_with fail
              go_ret
              exact ⟨rfl, below_drewN hB3 _⟩
        · have hxI : (len : Int) ≤ (j : Int) := by omega
          go_wp2_with fail
          refine HP.out.mono ?_
          rintro e w3 ⟨⟨out, hs, A, B, rfl, hnd, hmap, hA, hAB⟩, hb3⟩
          have hB3 := HB.out.trans (hb3.mono hlwr)
          have hhl : hs.length = cs.sum + 1 := by rw [← H2.out, ← hmap, List.length_map]
          obtain ⟨z, hz, hzn⟩ : ∃ z : NV, hs[cs.sum]? = some z ∧ z.nd = ⟨5, ⟨#[]⟩, 0, 0, [], sumL 0 cs, 0⟩ := by
            have h3 := H3.out
            rw [← hmap, List.getElem?_map] at h3
            cases hz : hs[cs.sum]? with
            | none => rw [hz] at h3; cases h3
            | some z => rw [hz] at h3; exact ⟨z, rfl, Option.some.inj h3⟩
          obtain ⟨gh, n', c, rfl, hn', _⟩ := hnd.at_ne hz
          rw [hhl] at hn'
          subst hn'
          obtain ⟨a1, c1, a2, c2, _, _, p0, p1, p2, p3, p4, p5, p6, pk, _⟩ := hnd.rd.seven hz
          rw [hzn] at p0 p5 p6 pk
          simp only [sumL_len, Nat.zero_add] at p0 p5 p6 pk
          have HPK := Lib.hid pk
          have HOWN3 := Lib.hid (own_below HOWN.out hb3)
          have hcI : ((cs.sum + 1 : Nat) : Int) = ((cs.sum : Nat) : Int) + 1 := by omega
          have hcL : cs.length ≤ 100 := by omega
          clear hnd hmap hA hAB hb3 HP pk p1 p2 p3 p4 hz hzn
          go_wp2_with fail
          go_loopw [12] (fun i wq => ∃ k z : Nat, k ≤ cs.length ∧ i = .int .i64 (k : Int) ∧ wq = w3.drewN z) (fun i _ => cs.length - (intOf i).toNat)
          case atStart => exact ⟨0, 0, Nat.zero_le _, rfl, rfl⟩
          case round =>
            obtain ⟨k, z, hk, rfl, rfl⟩ := hrel
            by_cases hlk : k < cs.length
            · obtain ⟨m, hm⟩ : ∃ m, (sumL 0 cs)[k]? = some m := ⟨_, List.getElem?_eq_getElem (by rw [sumL_len]; exact hlk)⟩
              obtain ⟨b1, e1, r1⟩ := HPK.out k m hm
              obtain ⟨b2, e2, _, _, r2⟩ := own_cell HOWN3.out rfl (j := k) (x := num m) (by rw [List.getElem?_map, hm]; rfl)
              unfold num at r2
              subst e1 e2
              have hkI : (k : Int) < (cs.length : Int) := by omega
              clear hm
              go_wp2_with fail
              go_quiet (fail)
              go_wp2_with fail
              go_roundw
              case rel => exact ⟨k + 1, _, by omega, by go_num, rfl⟩
              case measure => simp [intOf]; omega
            · obtain rfl : k = cs.length := by omega
              go_wp2_with fail
              go_ret
              exact ⟨rfl, below_drewN hB3 _⟩
      · subst h1
        clear HLS
        have hff := fldL
        by_cases hx1 : j < len
        · have hxI : (j : Int) < (len : Int) := by omega
          have hxJ : ¬ (j : Int) < 12 := by omega
          go_wp2_with fail
          refine HP.out.mono ?_
          rintro e w3 ⟨⟨v, rfl, f1, ty, rfl, g1⟩, hb3⟩
          have hB3 := HB.out.trans (hb3.mono hlwr)
          have HF1 := Lib.hid (fault_says (HEW.out w3 hB3) g1)
          clear g1
          go_wp2_with fail
          refine HF1.out.mono ?_
          rintro e w4 ⟨rfl, hb4⟩
          go_wp2_with fail
          go_ret
          exact ⟨rfl, hB3.trans (hb4.mono hB3.size)⟩
        · have hxI : (len : Int) ≤ (j : Int) := by omega
          go_wp2_with fail
          refine HP.out.mono ?_
          rintro e w3 ⟨⟨v, rfl, f1, ty, rfl, g1⟩, hb3⟩
          have hB3 := HB.out.trans (hb3.mono hlwr)
          have HF1 := Lib.hid (fault_says (HEW.out w3 hB3) g1)
          clear g1
          go_wp2_with fail
          refine HF1.out.mono ?_
          rintro e w4 ⟨rfl, hb4⟩
          go_wp2_with fail
          go_ret
          exact ⟨rfl, hB3.trans (hb4.mono hB3.size)⟩
end Go.Proofs.YtppljgallbmgcaaGreatDoor
