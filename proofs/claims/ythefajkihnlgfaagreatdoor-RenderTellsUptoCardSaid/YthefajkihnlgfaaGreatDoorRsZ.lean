/- bootjackref12.show and Show at any value: the walk. -/
import Derived.Test.YthefajkihnlgfaaGreatDoorRRightY
import Derived.Test.YthefajkihnlgfaaGreatDoorRsX
import Derived.Test.YthefajkihnlgfaaGreatDoorM34
namespace Go.Proofs.YthefajkihnlgfaaGreatDoor
open Go.RowKit Go.Shelf
set_option linter.unusedSimpArgs false
set_option linter.unusedVariables false
attribute [local go_sem] store_flt
theorem rshow_any : ∀ d, RShowAt d := by
  intro d
  induction d with
  | zero => intro B0 m v r f w _ h; exact h.elim
  | succ d ih =>
    intro B0 m v r f w hG h hN hr hlen
    obtain ⟨k, n, x, t, ns, is⟩ := v
    have hS : showP (d + 1) (.mk k n x t ns is) = if k = 4 then qB t else if k = 7 then [102, 117, 110, 99, 116, 105, 111, 110] else if k = 5 then 91 :: (shI (showP d) is is.length ++ [32, 93]) else if k = 6 then 123 :: (shS (showP d) (ns.zip is) is.length ++ [32, 125]) else textP (.mk k n x t ns is) := rfl
    by_cases h5 : k = 5
    · subst h5
      exact rshow_list ih B0 m n x t ns is r f w hG h hN hr hlen
    by_cases h6 : k = 6
    · subst h6
      exact rshow_set ih B0 m n x t ns is r f w hG h hN hr hlen
    by_cases h4 : k = 4
    · have ht := right_text (v := .mk k n x t ns is) h4 hr
      rw [if_pos h4] at hS
      rw [hS]
      exact rshow_text (.mk k n x t ns is) r f w h ht h4
    by_cases h7 : k = 7
    · rw [if_neg h4, if_pos h7] at hS
      rw [hS]
      exact rshow_fun (.mk k n x t ns is) r f w h h7
    · rw [if_neg h4, if_neg h7, if_neg h5, if_neg h6] at hS
      rw [hS]
      have hk := right_kind hr
      exact rshow_plain B0 m (.mk k n x t ns is) r f w hG h hN hr (by simp only [V.kind] at hk ⊢; omega)
set_option maxHeartbeats 4000000 in
set_option maxRecDepth 100000 in
theorem RShow_any {B0 d : Nat} {v : V} {r f : Value} {w : World} (hG : RG B0 w) (h : VI d w v r f) (hN : NumV d v) (hlen : (shT d v).length ≤ 100000000000) :
    Calls Tryz.prog 17 #[.agg #[.int .i64 v.kind, .int .i64 v.int, .float .f64 v.flt, .string v.text, r, f]] w fun e w' => e = .returned (.string ⟨(shT d v).toArray⟩) ∧ Below w.heap.size w w' := by
  have HR := Lib.hid (fun W (hW : Below w.heap.size w W) => RRight_any (h.keeps hW))
  cases hr : rightP d 32 v with
  | false =>
    have e : shT d v = [] := by unfold shT; rw [hr]; rfl
    rw [e]
    rw [hr] at HR
    obtain ⟨ra, rc, a, cap, rfl, rfl, hbd, hts⟩ := h.shape
    clear h hG hN hlen hr e
    generalize v.names.length = nn at *
    generalize v.items.length = ni at *
    go_enter Tryz.func17, Tryz.ntmps17
    go_wp2_with fail
    refine (HR.out _ ((Below.refl _ _).alloc (Nat.le_refl _) _)).mono ?_
    rintro e w1 ⟨rfl, hb1⟩
    go_wp2_with fail
    go_ret
    exact ⟨rfl, Below.next ((Below.refl _ _).alloc (Nat.le_refl _) _) hb1⟩
  | true =>
    have e : shT d v = showP d v := by unfold shT; rw [hr]; rfl
    rw [e] at hlen ⊢
    rw [hr] at HR
    have HS := Lib.hid (fun W (hW : Below w.heap.size w W) => rshow_any d B0 32 v r f W (hG.below hW) (h.keeps hW) hN hr hlen)
    obtain ⟨ra, rc, a, cap, rfl, rfl, hbd, hts⟩ := h.shape
    clear h hG hN hlen hr e
    generalize v.names.length = nn at *
    generalize v.items.length = ni at *
    generalize (⟨(showP d v).toArray⟩ : ByteArray) = R at *
    go_enter Tryz.func17, Tryz.ntmps17
    go_wp2_with fail
    refine (HR.out _ ((Below.refl _ _).alloc (Nat.le_refl _) _)).mono ?_
    rintro e w1 ⟨rfl, hb1⟩
    have hB1 : Below w.heap.size w w1 := Below.next ((Below.refl _ _).alloc (Nat.le_refl _) _) hb1
    have hx1 := block_below (hb := hb1) (h := block_new _ _ rfl)
    have q0 := block_cell (i := 0) hx1 rfl
    have q1 := block_cell (i := 1) hx1 rfl
    have q2 := block_cell (i := 2) hx1 rfl
    have q3 := block_cell (i := 3) hx1 rfl
    have q4 := block_cell (i := 4) hx1 rfl
    have q5 := block_cell (i := 5) hx1 rfl
    clear hx1 hb1
    go_wp2_with fail
    refine (HS.out _ hB1).mono ?_
    rintro e w2 ⟨rfl, hb2⟩
    go_wp2_with fail
    go_ret
    exact ⟨rfl, hB1.next hb2⟩
end Go.Proofs.YthefajkihnlgfaaGreatDoor

