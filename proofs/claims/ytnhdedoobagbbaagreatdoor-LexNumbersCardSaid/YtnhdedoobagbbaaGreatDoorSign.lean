/- The lexer reads a sign: of two bytes, or of one. -/
import Derived.Test.YtnhdedoobagbbaaGreatDoorText
import Derived.IntWalk
namespace Go.Proofs.YtnhdedoobagbbaaGreatDoor
open Go.RowKit

/-- The signs of two bytes. -/
def sg : Nat → ByteArray
  | 0 => ⟨#[43, 43]⟩ | 1 => ⟨#[47, 47]⟩ | 2 => ⟨#[61, 61]⟩ | 3 => ⟨#[33, 61]⟩ | 4 => ⟨#[60, 61]⟩ | 5 => ⟨#[62, 61]⟩ | 6 => ⟨#[38, 38]⟩ | _ => ⟨#[124, 124]⟩
def signs1 : List UInt8 := [123, 125, 91, 93, 40, 41, 61, 59, 46, 58, 63, 33, 60, 62, 43, 45, 42, 47]
def isSg (l : List UInt8) (k : Nat) : Bool := Lib.hasPrefix l (sg k).data.toList
def signL (l : List UInt8) : Option ByteArray :=
  match (List.range 8).find? (isSg l) with
  | some k => some (sg k)
  | none => match l with
    | [] => none
    | c :: _ => if Lib.indexByte signs1 c < 0 then none else some ⟨#[c]⟩
def signP (s : ByteArray) (a0 : Nat) : Except (Nat × Int) (Tok × Nat) :=
  match signL (s.data.toList.drop a0) with
  | some b => .ok (⟨5, b, 0, 0, a0⟩, a0 + b.size)
  | none => .error (a0, 3)
theorem sg_size (k : Nat) : (sg k).size = 2 := by unfold sg; split <;> rfl
theorem signL_two {l : List UInt8} {k : Nat} (hk : k < 8) (h : isSg l k = true) (hb : ∀ j, j < k → isSg l j = false) : signL l = some (sg k) := by
  have : (List.range 8).find? (isSg l) = some k := by
    rw [List.find?_eq_some_iff_getElem]
    refine ⟨h, k, by simpa using hk, by simp, fun j hj => ?_⟩
    simp only [List.getElem_range]
    rw [hb j hj]; rfl
  unfold signL
  rw [this]
theorem signL_one {l r : List UInt8} {c : UInt8} (hl : l = c :: r) (hb : ∀ j, j < 8 → isSg l j = false) : signL l = if Lib.indexByte signs1 c < 0 then none else some ⟨#[c]⟩ := by
  have : (List.range 8).find? (isSg l) = none := by
    rw [List.find?_eq_none]
    intro j hj
    rw [hb j (by simpa using hj)]; simp
  unfold signL
  rw [this, hl]
theorem extract_drop (s : ByteArray) (a : Nat) : (s.extract a s.size).data.toList = s.data.toList.drop a := by
  rw [Lib.extract_data]
  have hl : s.data.toList.length = s.size := Array.length_toList
  exact List.take_of_length_le (by simp only [List.length_drop]; omega)
/-- The world under a name. -/
theorem with_world {c : Code} {Q : Exit → Act → World → Prop} {a : Act} {w : World} (h : ∀ W : World, W = w → c.wp Tryz.prog Q a W) : c.wp Tryz.prog Q a w := h w rfl
theorem ba_ext {a b : ByteArray} (h : a.data.toList = b.data.toList) : a = b := by
  cases a; cases b
  simp at h
  simp [h]
theorem extract_one {s : ByteArray} {a : Nat} (h : a < s.size) : s.extract a (a + 1) = ⟨#[s[a]]⟩ := by
  apply ba_ext
  rw [Lib.extract_data, drop_cons h]
  simp
theorem sign_index (k : Nat) (hk : k < 8) (W : World) : (Instr.index 63 (.agg #[.string ⟨#[43, 43]⟩, .string ⟨#[47, 47]⟩, .string ⟨#[61, 61]⟩, .string ⟨#[33, 61]⟩, .string ⟨#[60, 61]⟩, .string ⟨#[62, 61]⟩, .string ⟨#[38, 38]⟩, .string ⟨#[124, 124]⟩]) (.int .i64 (k : Int))).run Tryz.prog W = .ok (.string (sg k)) W := by
  rcases (by omega : k = 0 ∨ k = 1 ∨ k = 2 ∨ k = 3 ∨ k = 4 ∨ k = 5 ∨ k = 6 ∨ k = 7) with rfl | rfl | rfl | rfl | rfl | rfl | rfl | rfl <;> kernel_rfl

set_option maxHeartbeats 1000000 in
set_option maxRecDepth 100000 in
theorem sign_any {g a0 : Nat} {s : ByteArray} {out : Value} {ts : List Tok} {w : World} (hr : RD w g s a0 out) (hown : w.ownsRow (g + 1) 34 5 out ts.length (flatT ts)) (ha : a0 < s.size) (hs : s.size ≤ 4096) (hn : ts.length ≤ 5000) :
    Calls Tryz.prog 20 #[.pointer (some ⟨g, 0, none⟩)] w fun e w' => TokPost g s ts w (signP s a0) e w' := by
  have hlt := hr.lt
  have c0 := hr.c0
  have c1 := hr.c1
  have HRES := Lib.hid (show signP s a0 = (match signL (s.data.toList.drop a0) with | some b => .ok (⟨5, b, 0, 0, a0⟩, a0 + b.size) | none => .error (a0, 3)) from rfl)
  generalize signP s a0 = res at *
  have HRD := Lib.hid hr
  have HOWN := Lib.hid hown
  have ha0 : (a0 : Int) ≤ (s.size : Int) := by omega
  have ha1 : (0 : Int) ≤ (a0 : Int) := by omega
  have ha2 : (a0 : Int) < (s.size : Int) := by omega
  have ha3 : (a0 : Int) + 1 ≤ (s.size : Int) := by omega
  have ha4 : (a0 : Int) ≤ (a0 : Int) + 1 := by omega
  have ha5 : IntKind.i64.wrap ((a0 : Int) + 1) = (a0 : Int) + 1 := IntWalk.i64_in _ (by omega)
  have ha6 : ((a0 : Int) + 1).toNat = a0 + 1 := by omega
  clear hr hown
  go_enter Tryz.func20, Tryz.ntmps20
  go_wp2_with fail
  go_loopw [6] (fun iv wr => ∃ k nq : Nat, k ≤ 8 ∧ iv = .int .i64 k ∧ wr = w.drewN nq ∧ Hid (∀ j, j < k → isSg (s.data.toList.drop a0) j = false)) (fun iv _ => 8 - (intOf iv).toNat)
  case atStart => exact ⟨0, 0, by omega, rfl, rfl, fun _ hj => absurd hj (Nat.not_lt_zero _)⟩
  case round =>
    obtain ⟨k, nq, hk, rfl, rfl, hno⟩ := hrel
    by_cases hlt2 : k < 8
    · have hidx := sign_index k hlt2
      have hcall : ∀ W, Calls Tryz.prog 29 #[.string (s.extract a0 s.size), .string (sg k)] W fun e w' => e = .returned (.bool (isSg (s.data.toList.drop a0) k)) ∧ W = w' := fun W =>
        (Tryz.strings_HasPrefix _ _ W).mono fun e w' ⟨h1, h2⟩ => ⟨by rw [h1, extract_drop]; rfl, h2.symm⟩
      cases hb : isSg (s.data.toList.drop a0) k
      · rw [hb] at hcall
        have HC := Lib.hid hcall
        have HB := Lib.hid hb
        clear hcall hb
        go_wp2_with fail
        go_quiet ((go_at_call 29; exact quiet_al (HC.out _)))
        go_wp2_with fail
        go_roundw
        case rel => exact ⟨k + 1, _, by omega, by go_num, rfl, fun j hj => by
          by_cases e : j = k
          · subst e; exact HB.out
          · exact hno.out j (by omega)⟩
        case measure => simp [intOf]; omega
      · rw [hb] at hcall
        have HC := Lib.hid hcall
        have HRR := Lib.hid (signL_two hlt2 hb hno.out)
        have hsz := Lib.hid (sg_size k)
        clear hcall hb
        go_wp2_with fail
        go_quiet ((go_at_call 29; exact quiet_al (HC.out _)))
        go_wp2_with fail
        refine (put_at (z := a0 + 2) (⟨5, sg k, 0, 0, a0⟩ : Tok) _ (HRD.out.drewN _) (HOWN.out) (by omega) rfl (by omega)).mono ?_
        rintro e w3 ⟨rfl, out3, hrd3, hown3, hb3⟩
        go_wp2_with fail
        go_ret
        rw [HRES.out, HRR.out]
        simp only [hsz.out]
        exact ⟨rfl, ⟨_, hrd3, hown3⟩, (below_drewN (Below.refl _ _) _).trans hb3⟩
    · obtain rfl : k = 8 := by omega
      have hd := drop_cons ha
      have hone := signL_one hd hno.out
      obtain ⟨c, hc⟩ : ∃ c, s[a0] = c := ⟨_, rfl⟩
      rw [hc] at hone
      have hcall : ∀ W, Calls Tryz.prog 26 #[.string ⟨#[123, 125, 91, 93, 40, 41, 61, 59, 46, 58, 63, 33, 60, 62, 43, 45, 42, 47]⟩, .int .u8 c.toNat] W fun e w' => e = .returned (.int .i64 (Lib.indexByte signs1 c)) ∧ W = w' := fun W =>
        (Tryz.strings_IndexByte _ _ W).mono fun e w' ⟨h1, h2⟩ => ⟨by rw [h1, show ((c.toNat : Int).toNat.toUInt8) = c by simp]; rfl, h2.symm⟩
      generalize Lib.indexByte signs1 c = ix at *
      have HC := Lib.hid hcall
      clear hcall hd
      by_cases hix : ix < 0
      · rw [if_pos hix] at hone
        have HRR := Lib.hid hone
        clear hone
        go_wp2_with fail
        go_quiet ((go_at_call 26; exact quiet_al (HC.out _)))
        go_wp2_with fail
        refine (fault_any _ _ _).mono ?_
        rintro e w2 ⟨v, rfl, hft, hb2⟩
        go_wp2_with fail
        go_ret
        rw [HRES.out, HRR.out]
        exact ⟨⟨_, rfl, hft⟩, (below_drewN (Below.refl _ _) _).trans (hb2.mono (Nat.le_of_lt hlt))⟩
      · rw [if_neg hix] at hone
        have HRR := Lib.hid hone
        have HX := Lib.hid (extract_one ha)
        clear hone
        have hix2 : decide (ix < 0) = false := by simpa using hix
        go_wp2_with fail
        go_quiet ((go_at_call 26; exact quiet_al (HC.out _)))
        go_wp2_with fail
        refine with_world fun W hW => ?_
        have hrdW : RD W g s a0 out := by rw [hW]; exact HRD.out
        have hownW : W.ownsRow (g + 1) 34 5 out ts.length (flatT ts) := by rw [hW]; exact HOWN.out
        have hbW : Below w.heap.size w W := by rw [hW]; exact below_drewN (below_drewN (Below.refl _ _) _) _
        clear hW
        have e0 := hrdW.c0
        have e1 := hrdW.c1
        go_still_tail 21, (by kernel_rfl)
        change wpList _ _ _ _ _ W.drew
        go_wp2_with fail
        rw [HX.out, hc]
        refine (put_at (z := a0 + 1) (⟨5, ⟨#[c]⟩, 0, 0, a0⟩ : Tok) _ (w := W.drew) hrdW hownW (by omega) rfl (by omega)).mono ?_
        rintro e w3 ⟨rfl, out3, hrd3, hown3, hb3⟩
        go_wp2_with fail
        go_ret
        rw [HRES.out, HRR.out]
        exact ⟨rfl, ⟨_, hrd3, hown3⟩, ((hbW.mono (Nat.le_of_lt hlt)).drew).trans hb3⟩
end Go.Proofs.YtnhdedoobagbbaaGreatDoor
