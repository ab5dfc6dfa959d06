/- Small readers of a decimal's digits. -/
import Derived.Test.YtnhdedoobagbbaaGreatDoorFltT
import Derived.RegionTactic
namespace Go.Proofs.YtnhdedoobagbbaaGreatDoor
open Go.RowKit

theorem pfxB_nil (d : Nat → Nat) (nd i : Nat) : pfxB d nd i [] = false := rfl
theorem drop_at {s : ByteArray} {k : Nat} (h : k < s.size) : s.data.toList.drop k = s[k] :: s.data.toList.drop (k + 1) := by
  rw [List.drop_eq_getElem_cons (by simpa using h)]
  rfl
set_option maxRecDepth 100000 in
theorem prefix_any {w : World} {g : Nat} {D : Dc} (h : DB w g D) (hs : D.nd ≤ 800) (s : ByteArray) (hz : s.size ≤ 1000) :
    Calls Tryz.prog 101 #[.slice (some ⟨g, 0, none⟩) D.nd 800, .string s] w fun e w' => e = .returned (.bool (pfxB D.d D.nd 0 s.data.toList)) ∧ ∃ n, w' = w.drewN n := by
  obtain ⟨r, hr⟩ : ∃ r, pfxB D.d D.nd 0 s.data.toList = r := ⟨_, rfl⟩
  have HR := Lib.hid hr
  rw [hr]
  clear hr
  go_enter Tryz.func101, Tryz.ntmps101
  go_wp2_with fail
  go_loopw [5] (fun i wr => ∃ k : Nat, k ≤ s.size ∧ i = .int .i64 k ∧ pfxB D.d D.nd k (s.data.toList.drop k) = r ∧ ∃ n, wr = w.drewN n) (fun i _ => s.size - (intOf i).toNat)
  case atStart => exact ⟨0, by omega, rfl, HR.out, 0, rfl⟩
  case round =>
    obtain ⟨k, hk, rfl, hp, n, rfl⟩ := hrel
    have HP := Lib.hid hp
    clear hp
    by_cases hlt : k < s.size
    · have hd := drop_at hlt
      by_cases hn : D.nd ≤ k
      · have e : r = true := by
          have := HP.out
          rw [hd] at this
          simp only [pfxB, if_pos hn] at this
          exact this.symm
        subst e
        clear hd HR HP
        go_wp2_with fail
        go_ret
        exact ⟨rfl, _, rfl⟩
      · have c1 := h.cell_d (i := k) (by omega)
        have b1 : (k : Int) < (D.nd : Int) := by omega
        have b2 : (k : Int) < (s.size : Int) := by omega
        have b3 : (0 : Int) ≤ (k : Int) := by omega
        by_cases he : D.d k = s[k].toNat
        · have e : pfxB D.d D.nd (k + 1) (s.data.toList.drop (k + 1)) = r := by
            have := HP.out
            rw [hd] at this
            simp only [pfxB, if_neg hn] at this
            rw [if_neg (by omega)] at this
            exact this
          have HE := Lib.hid e
          rw [he] at c1
          clear hd HP HR e he
          go_wp2_with fail
          go_quiet (fail)
          go_wp2_with fail
          go_roundw
          case rel => exact ⟨k + 1, by omega, by go_num, HE.out, _, rfl⟩
          case measure => simp [intOf]; omega
        · have e : r = decide (D.d k < s[k].toNat) := by
            have := HP.out
            rw [hd] at this
            simp only [pfxB, if_neg hn] at this
            rw [if_pos he] at this
            exact this.symm
          have hb1 : ((D.d k : Int) == (s[k].toNat : Int)) = false := by simp; omega
          have hb2 : ((D.d k : Int) != (s[k].toNat : Int)) = true := by simp; omega
          have HE := Lib.hid e
          clear hd HP HR e he
          go_wp2_with fail
          go_quiet (fail)
          go_wp2_with fail
          go_quiet (fail)
          go_wp2_with fail
          go_ret
          refine ⟨?_, _, by rw [World.drewN_drewN, World.drewN_drewN]⟩
          rw [HE.out]
          simp
    · have e : r = false := by
        have := HP.out
        rw [List.drop_of_length_le (by simp; omega)] at this
        exact this.symm
      subst e
      clear HP HR
      go_wp2_with fail
      go_ret
      exact ⟨rfl, _, rfl⟩
set_option maxRecDepth 100000 in
theorem roundUp_any {w : World} {g : Nat} {D : Dc} (h : DB w g D) (hs : D.nd ≤ 800) (hg : Dig D.d D.nd) (nd : Int) (h1 : -1000000000000 ≤ nd) (h2 : nd ≤ 100000) :
    Calls Tryz.prog 97 #[.pointer (some ⟨g, 0, none⟩), .int .i64 nd] w fun e w' => e = .returned (.bool (ruB D nd)) ∧ ∃ n, w' = w.drewN n := by
  have c1 := h.cell_nd
  have c2 := h.cell_tr
  obtain ⟨r, hr⟩ : ∃ r, ruB D nd = r := ⟨_, rfl⟩
  have HR := Lib.hid hr
  rw [hr]
  clear hr
  by_cases ho : nd < 0 ∨ (D.nd : Int) ≤ nd
  · have e : r = false := by rw [← HR.out]; unfold ruB; rw [if_pos ho]
    subst e
    clear HR
    by_cases h0 : nd < 0
    · go_enter Tryz.func97, Tryz.ntmps97
      go_wp2_with fail
      go_ret
      exact ⟨rfl, 0, rfl⟩
    · go_enter Tryz.func97, Tryz.ntmps97
      go_wp2_with fail
      go_ret
      exact ⟨rfl, 0, rfl⟩
  · obtain ⟨m, rfl⟩ : ∃ m : Nat, nd = (m : Int) := ⟨nd.toNat, by omega⟩
    have hm : m < D.nd := by omega
    have c3 := h.cell_d (i := m) (by omega)
    have hdg := hg m hm
    have b1 : (m : Int) < 800 := by omega
    have b3 : (0 : Int) ≤ (m : Int) := by omega
    have b4 : (m : Int) < (D.nd : Int) := by omega
    have HO : Hid (¬ ((m : Int) < 0 ∨ (D.nd : Int) ≤ (m : Int))) := Lib.hid ho
    clear ho h1 h2
    by_cases h5 : D.d m = 53
    · by_cases h6 : m + 1 = D.nd
      · have e : r = (D.tr || (decide (0 < m) && decide ((D.d (m - 1) - 48) % 2 ≠ 0))) := by
          rw [← HR.out]
          unfold ruB
          rw [if_neg HO.out, if_pos ⟨by simpa using h5, by simpa using h6⟩]
          simp
        have HE := Lib.hid e
        have x6 : ((m : Int) + 1 == (D.nd : Int)) = true := by simp; omega
        rw [h5] at c3
        clear HR e h5
        obtain ⟨b, hb⟩ : ∃ b, D.tr = b := ⟨_, rfl⟩
        rw [hb] at HE c2
        clear hb
        cases b with
        | true =>
          go_enter Tryz.func97, Tryz.ntmps97
          go_wp2_with fail
          go_ret
          exact ⟨by rw [HE.out]; rfl, 0, rfl⟩
        | false =>
          cases m with
          | zero =>
            go_enter Tryz.func97, Tryz.ntmps97
            go_wp2_with fail
            go_ret
            exact ⟨by rw [HE.out]; rfl, 0, rfl⟩
          | succ m =>
            have c4 := h.cell_d (i := m) (by omega)
            have hd4 := hg m (by omega)
            have a4 : IntKind.u8.wrap ((D.d m : Int) - 48) = ((D.d m - 48 : Nat) : Int) := by
              rw [IntWalk.u8_in _ (by omega)]; omega
            have HE2 : Hid (r = decide ((D.d m - 48) % 2 ≠ 0)) := Lib.hid (HE.out.trans (by simp))
            clear HE
            generalize D.d m = q at *
            go_enter Tryz.func97, Tryz.ntmps97
            go_wp2_with fail
            go_ret
            refine ⟨?_, 0, rfl⟩
            exact ret_bool (a := (((q - 48 : Nat) : Int) % 2 != 0)) (by
              rw [HE2.out, Bool.eq_iff_iff]
              simp
              omega)
      · have x6 : ((m : Int) + 1 == (D.nd : Int)) = false := by simp; omega
        have e : r = true := by
          rw [← HR.out]
          unfold ruB
          rw [if_neg HO.out, if_neg (by intro hh; exact h6 (by simpa using hh.2))]
          simp [h5]
        subst e
        rw [h5] at c3
        clear HR
        go_enter Tryz.func97, Tryz.ntmps97
        go_wp2_with fail
        go_ret
        exact ⟨rfl, 0, rfl⟩
    · have e : r = decide (53 ≤ D.d m) := by
        rw [← HR.out]
        unfold ruB
        rw [if_neg HO.out, if_neg (by intro hh; exact h5 (by simpa using hh.1))]
        simp
      have x5 : ((D.d m : Int) == 53) = false := by simp; omega
      have HE := Lib.hid e
      clear HR e
      go_enter Tryz.func97, Tryz.ntmps97
      go_wp2_with fail
      go_ret
      refine ⟨?_, 0, rfl⟩
      rw [HE.out]
      simp
      omega
end Go.Proofs.YtnhdedoobagbbaaGreatDoor
