/- ParseCut: the walk. -/
import Derived.Test.YtppljgallbmgcaaGreatDoorGv
import Derived.Test.YtppljgallbmgcaaGreatDoorGs
namespace Go.Proofs.YtppljgallbmgcaaGreatDoor
open Go.RowKit Go.Shelf
theorem room_any (s : ByteArray) (k : Nat) (hk : k ≤ 4096) (w : World) : Calls Tryz.prog 13 #[.string s, .int .i64 (k : Int)] w fun e w' => e = .returned (.bool (decide ((s.size : Int) ≤ 4096 - (k : Int)))) ∧ w' = w := by
  have hw : IntKind.i64.wrap (4096 - (k : Int)) = 4096 - (k : Int) := IntWalk.i64_in _ (by omega)
  go_enter Tryz.func13, Tryz.ntmps13
  go_wp2_with fail
  go_ret
  exact ⟨rfl, rfl⟩
theorem app_two (a : ByteArray) (l : List UInt8) : (a ++ ⟨l.toArray⟩ : ByteArray).data.toList = a.data.toList ++ l := by
  rw [nw_app]
set_option maxHeartbeats 4000000 in
set_option maxRecDepth 100000 in
theorem cut_law {NG : Nat} {w : World} (hG : GP NG w) (hE : HndG w) (s : ByteArray) (hs : s.size ≤ 9223372036854775807) :
    Calls Tryz.prog 5 #[.string s] w fun e w' => e = .returned (.bool true) ∧ Below w.heap.size w w' := by
  have HSH := Lib.hid (shown_any hG)
  have HGW := Lib.hid (fun (w' : World) (hb : Below w.heap.size w w') t => Parse_any (hG.below hb) t)
  have HEW := Lib.hid (fun (w' : World) (hb : Below w.heap.size w w') => hE.keeps hb)
  obtain ⟨RES, hRES⟩ : ∃ R, parseP pfA s = R := ⟨_, rfl⟩
  have HRES := Lib.hid hRES
  clear hG hE hRES
  have hrm := fun W => room_any s 10 (by omega) W
  go_enter Tryz.func5, Tryz.ntmps5
  go_wp2_with fail
  refine HSH.out.mono ?_
  rintro e w2 ⟨rfl, hb2⟩
  have HP := HGW.out w2 hb2 s
  rw [HRES.out] at HP
  have HP := Lib.hid HP
  cases RES with
  | error er =>
    obtain ⟨p, er⟩ := er
    go_wp2_with fail
    refine HP.out.mono ?_
    rintro e w3 ⟨⟨v, rfl, hft⟩, hb3⟩
    have hB3 := hb2.trans (hb3.mono hb2.size)
    clear hft
    go_wp2_with fail
    refine (hrm w3).mono ?_
    rintro e w4 ⟨rfl, rfl⟩
    go_wp2_with fail
    go_ret
    exact ⟨rfl, hB3⟩
  | ok l =>
    go_wp2_with fail
    refine HP.out.mono ?_
    rintro e w3 ⟨⟨out, ls, A, B, rfl, hnd, hmap, hA, hAB⟩, hb3⟩
    obtain ⟨a, cap, rfl⟩ := own_shape hnd.own
    have hB3 := hb2.trans (hb3.mono hb2.size)
    clear hnd hmap hA hAB hb3 HP
    go_wp2_with fail
    refine (hrm w3).mono ?_
    rintro e w4 ⟨rfl, rfl⟩
    clear hrm
    by_cases hz : s.size ≤ 4086
    · have hzI : (s.size : Int) ≤ 4086 := by omega
      have e1 : (⟨#[40]⟩ ++ s ++ ⟨#[10]⟩ : ByteArray).data.toList = 40 :: (s.data.toList ++ [10]) := by
        rw [nw_app, nw_app]
        rfl
      have e2 : (s ++ ⟨#[10, 41]⟩ : ByteArray).data.toList = s.data.toList ++ [10, 41] := by rw [nw_app]
      have e3 : (s ++ ⟨#[10, 59]⟩ : ByteArray).data.toList = s.data.toList ++ [10, 59] := by rw [nw_app]
      have H1 := Lib.hid (cut_open HRES.out e1 hz)
      have H2 := Lib.hid (cut_more HRES.out (Or.inl rfl) e2 hz)
      have H3 := Lib.hid (cut_more HRES.out (Or.inr rfl) e3 hz)
      obtain ⟨R1, hR1⟩ : ∃ R, parseP pfA (⟨#[40]⟩ ++ s ++ ⟨#[10]⟩) = R := ⟨_, rfl⟩
      rw [hR1] at H1
      have HP1 := HGW.out w4 hB3 (⟨#[40]⟩ ++ s ++ ⟨#[10]⟩)
      rw [hR1] at HP1
      have HP1 := Lib.hid HP1
      have HP2 := Lib.hid (fun (w' : World) (hb : Below w.heap.size w w') => (H2.out ▸ HGW.out w' hb _ : Calls Tryz.prog 12 #[.string (s ++ ⟨#[10, 41]⟩)] w' fun e w'' => ParsePost w' (.error (s.size + 1, 6)) e w''))
      have HP3 := Lib.hid (fun (w' : World) (hb : Below w.heap.size w w') => (H3.out ▸ HGW.out w' hb _ : Calls Tryz.prog 12 #[.string (s ++ ⟨#[10, 59]⟩)] w' fun e w'' => ParsePost w' (.error (s.size + 1, 6)) e w''))
      clear e1 e2 e3 hR1 H2 H3 HGW HRES HSH
      obtain ⟨p1, q1, hRE, hq⟩ : ∃ (p1 : Nat) (q1 : Int), R1 = .error (p1, q1) ∧ ((p1 = s.size + 2 ∧ q1 = 7) ∨ q1 = 9) := by
        rcases H1.out with h | ⟨p, h⟩
        · exact ⟨_, _, h, Or.inl ⟨rfl, rfl⟩⟩
        · exact ⟨_, _, h, Or.inr rfl⟩
      subst hRE
      clear H1
      go_wp2_with fail
      refine HP1.out.mono ?_
      rintro e w5 ⟨⟨v1, rfl, hft1⟩, hb5⟩
      have hB5 := hB3.trans (hb5.mono hB3.size)
      clear HP1
      go_wp2_with fail
      refine (HP2.out w5 hB5).mono ?_
      rintro e w6 ⟨⟨v2, rfl, hft2⟩, hb6⟩
      have hB6 := hB5.trans (hb6.mono hB5.size)
      clear HP2
      go_wp2_with fail
      refine (HP3.out w6 hB6).mono ?_
      rintro e w7 ⟨⟨v3, rfl, hft3⟩, hb7⟩
      have hB7 := hB6.trans (hb7.mono hB6.size)
      clear HP3
      obtain ⟨f1, ty1, rfl, g1⟩ := (hft1.below hb6).below hb7
      obtain ⟨f2, ty2, rfl, g2⟩ := hft2.below hb7
      obtain ⟨f3, ty3, rfl, g3⟩ := hft3
      have HF1 := Lib.hid (fault_says (HEW.out w7 hB7) g1)
      clear hft1 hft2 hb5 hb6 hb7 g1
      have G2 := Lib.hid g2
      have G3 := Lib.hid g3
      clear g2 g3
      go_wp2_with fail
      refine HF1.out.mono ?_
      rintro e w8 ⟨rfl, hb8⟩
      have hB8 := hB7.trans (hb8.mono hB7.size)
      have g2 := block_below G2.out hb8
      have g3 := block_below G3.out hb8
      clear HF1
      have HF2 := Lib.hid (fun (W : World) (hb : Below w8.heap.size w8 W) => fault_says (HEW.out W (hB8.trans (hb.mono hB8.size))) (block_below g2 hb))
      have HF3 := Lib.hid (fun (W : World) (hb : Below w8.heap.size w8 W) => fault_says (HEW.out W (hB8.trans (hb.mono hB8.size))) (block_below g3 hb))
      clear g2 g3 G2 G3 hb8
      have en : (((s.size + 1 : Nat) : Int)) = (s.size : Int) + 1 := by omega
      rw [en] at HF2 HF3
      have hfi2 := fault_in ((s.size : Int) + 1) 6 ((s.size : Int) + 1) 6
      simp only [decide_true, Bool.and_self] at hfi2
      rcases hq with ⟨rfl, rfl⟩ | rfl
      · have en2 : (((s.size + 2 : Nat) : Int)) = (s.size : Int) + 2 := by omega
        rw [en2]
        have hfi := fault_in ((s.size : Int) + 2) 7 ((s.size : Int) + 2) 7
        simp only [decide_true, Bool.and_self] at hfi
        go_wp2_with fail
        refine (HF2.out _ ((Below.refl _ _).alloc (Nat.le_refl _) _)).mono ?_
        rintro e w9 ⟨rfl, hb9⟩
        have hz8 := hB8.size
        have hb9' := ((Below.refl w8.heap.size w8).alloc (Nat.le_refl _) (.cells #[.int .i64 ((s.size : Int) + 2), .int .i64 7] 37)).trans (hb9.mono (by simp))
        go_wp2_with fail
        refine (HF3.out _ hb9').mono ?_
        rintro e w10 ⟨rfl, hb10⟩
        have hb10' := hb9'.trans (hb10.mono hb9'.size)
        go_wp2_with fail
        go_ret
        exact ⟨rfl, hB8.trans (hb10'.mono hz8)⟩
      · have hfi := fault_in (p1 : Int) 9 ((s.size : Int) + 2) 7
        simp only [show decide ((9 : Int) = 7) = false from rfl, Bool.and_false] at hfi
        go_wp2_with fail
        refine (HF2.out _ ((Below.refl _ _).alloc (Nat.le_refl _) _)).mono ?_
        rintro e w9 ⟨rfl, hb9⟩
        have hz8 := hB8.size
        have hb9' := ((Below.refl w8.heap.size w8).alloc (Nat.le_refl _) (.cells #[.int .i64 (p1 : Int), .int .i64 9] 37)).trans (hb9.mono (by simp))
        go_wp2_with fail
        refine (HF3.out _ hb9').mono ?_
        rintro e w10 ⟨rfl, hb10⟩
        have hb10' := hb9'.trans (hb10.mono hb9'.size)
        go_wp2_with fail
        go_ret
        exact ⟨rfl, hB8.trans (hb10'.mono hz8)⟩
    · have hd1 : decide ((s.size : Int) ≤ 4086) = false := decide_eq_false (by omega)
      have hnI : 4086 < (s.size : Int) := by omega
      go_wp2_with fail
      go_ret
      exact ⟨rfl, hB3⟩
end Go.Proofs.YtppljgallbmgcaaGreatDoor
