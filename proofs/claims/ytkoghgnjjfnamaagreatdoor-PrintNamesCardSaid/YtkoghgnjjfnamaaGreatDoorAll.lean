/- All: what is used of them. -/
import Derived.Test.YtkoghgnjjfnamaaGreatDoorGp
namespace Go.Proofs.YtkoghgnjjfnamaaGreatDoor
set_option maxRecDepth 100000
set_option maxHeartbeats 2000000
open Go.RowKit
def atOf (w : World) (g : Nat) : Nat := match w.cell? ⟨g, 1, none⟩ with | some v => (intOf v).toNat | none => 0
theorem RD.atOf {w : World} {g at' : Nat} {s : ByteArray} {out : Value} (h : RD w g s at' out) : atOf w g = at' := by
 unfold Proofs.YtkoghgnjjfnamaaGreatDoor.atOf; rw [h.c1]; simp [intOf]
def AllPost (w : World) (res : Except (Nat × Int) (List Tok)) (e : Ending) (w' : World) : Prop :=
 match res with
 | .ok ts => (∃ out, e = .returned (.tuple #[out, .nilIface]) ∧ w'.ownsRow w.heap.size 54 5 out ts.length (flatT ts)) ∧ Below w.heap.size w w'
 | .error (p, er) => (∃ v, e = .returned (.tuple #[.slice none 0 0, .iface 47 v]) ∧ FT w' v p er) ∧ Below w.heap.size w w'
theorem lexFrom_end {pf : ByteArray → Nat} {s : ByteArray} {f p : Nat} {acc : List Tok} (h : s.size ≤ p) : lexFrom pf s (f + 1) p acc = .ok (acc ++ [⟨0, ⟨#[]⟩, 0, 0, p⟩]) := by
 rw [lexFrom, bt_none h]
theorem lexFrom_blank {pf : ByteArray → Nat} {s : ByteArray} {f p : Nat} {acc : List Tok} {c : UInt8} (h : bt s p = some c) (hb : blankB c = true) : lexFrom pf s (f + 1) p acc = lexFrom pf s f (p + 1) acc := by
 rw [lexFrom, h]; simp only; rw [if_pos hb]
theorem lexFrom_hash {pf : ByteArray → Nat} {s : ByteArray} {f p : Nat} {acc : List Tok} (h : bt s p = some 35) : lexFrom pf s (f + 1) p acc = lexFrom pf s f (runTo notNl s p) acc := by
 rw [lexFrom, h]; rfl
theorem lexFrom_name {pf : ByteArray → Nat} {s : ByteArray} {f p : Nat} {acc : List Tok} {c : UInt8} (h : bt s p = some c) (hb : blankB c = false) (h35 : (c == 35) = false) (hl : letterB c = true) :
 lexFrom pf s (f + 1) p acc = if 1024 < runTo moreB s p - p then .error (p, 5) else lexFrom pf s f (runTo moreB s p) (acc ++ [⟨1, s.extract p (runTo moreB s p), 0, 0, p⟩]) := by
 rw [lexFrom, h]; simp only; rw [if_neg (by simp [hb]), if_neg (by simp [h35]), if_pos hl]
def lexTok (pf : ByteArray → Nat) (s : ByteArray) (f : Nat) (acc : List Tok) : Except (Nat × Int) (Tok × Nat) → Except (Nat × Int) (List Tok)
 | .ok (t, j) => lexFrom pf s f j (acc ++ [t])
 | .error x => .error x
theorem lexFrom_num {pf : ByteArray → Nat} {s : ByteArray} {f p : Nat} {acc : List Tok} {c : UInt8} (h : bt s p = some c) (hb : blankB c = false) (h35 : (c == 35) = false) (hl : letterB c = false) (hd : digitB c = true) :
 lexFrom pf s (f + 1) p acc = lexTok pf s f acc (numP pf s p) := by
 rw [lexFrom, h]; simp only [hb, h35, hl, hd]; cases numP pf s p <;> rfl
theorem lexFrom_text {pf : ByteArray → Nat} {s : ByteArray} {f p : Nat} {acc : List Tok} (h : bt s p = some 34) : lexFrom pf s (f + 1) p acc = lexTok pf s f acc (textP s p) := by
 rw [lexFrom, h]; simp only [show blankB 34 = false from rfl, show ((34 : UInt8) == 35) = false from rfl, show letterB 34 = false from rfl, show digitB 34 = false from rfl, show ((34 : UInt8) == 34) = true from rfl]; cases textP s p <;> rfl
theorem lexFrom_sign {pf : ByteArray → Nat} {s : ByteArray} {f p : Nat} {acc : List Tok} {c : UInt8} (h : bt s p = some c) (hb : blankB c = false) (h35 : (c == 35) = false) (hl : letterB c = false) (hd : digitB c = false) (h34 : (c == 34) = false) :
 lexFrom pf s (f + 1) p acc = lexTok pf s f acc (signP s p) := by
 rw [lexFrom, h]; simp only [hb, h35, hl, hd, h34]; cases signP s p <;> rfl
theorem letter_is {c : UInt8} {b : Bool} (h : letterB c = b) (w : World) : Calls Tryz.prog 27 #[.int .u8 c.toNat] w fun e w' => e = .returned (.bool b) ∧ w = w' := h ▸ letter_any c w
theorem digit_is {c : UInt8} {b : Bool} (h : digitB c = b) (w : World) : Calls Tryz.prog 29 #[.int .u8 c.toNat] w fun e w' => e = .returned (.bool b) ∧ w = w' := h ▸ digit_any c w
theorem blank_cases {c : UInt8} (h : blankB c = true) : c = 32 ∨ c = 9 ∨ c = 10 ∨ c = 13 := by
 unfold blankB at h; simp only [Bool.or_eq_true, beq_iff_eq] at h; rcases h with ((h | h) | h) | h
 · exact Or.inl h
 · exact Or.inr (Or.inl h)
 · exact Or.inr (Or.inr (Or.inl h))
 · exact Or.inr (Or.inr (Or.inr h))
theorem blank_no {c : UInt8} (h : blankB c = false) : c ≠ 32 ∧ c ≠ 9 ∧ c ≠ 10 ∧ c ≠ 13 := by
 refine ⟨?_, ?_, ?_, ?_⟩ <;> (rintro rfl; cases h)
def askF (pf : ByteArray → Nat) (D : ByteArray → Prop) (s : ByteArray) : Nat → Nat → Prop
 | 0, _ => True
 | f + 1, p =>
   match bt s p with
   | none => True
   | some c =>
     if blankB c then askF pf D s f (p + 1) else if c == 35 then askF pf D s f (runTo notNl s p) else if letterB c then askF pf D s f (runTo moreB s p) else if digitB c then (dotB s (runTo digitB s p) = true → D (s.extract p (expEnd s (runTo digitB s (runTo digitB s p + 1))))) ∧ ∀ t j, numP pf s p = .ok (t, j) → askF pf D s f j else if c == 34 then ∀ t j, textP s p = .ok (t, j) → askF pf D s f j else ∀ t j, signP s p = .ok (t, j) → askF pf D s f j
section
variable {pf : ByteArray → Nat} {D : ByteArray → Prop} {s : ByteArray} {f p : Nat} {c : UInt8}
theorem askF_blank (h : bt s p = some c) (hb : blankB c = true) : askF pf D s (f + 1) p = askF pf D s f (p + 1) := by
 rw [askF, h]; simp only; rw [if_pos hb]
theorem askF_hash (h : bt s p = some 35) : askF pf D s (f + 1) p = askF pf D s f (runTo notNl s p) := by
 rw [askF, h]; rfl
theorem askF_name (h : bt s p = some c) (hb : blankB c = false) (h35 : (c == 35) = false) (hl : letterB c = true) : askF pf D s (f + 1) p = askF pf D s f (runTo moreB s p) := by
 rw [askF, h]; simp only; rw [if_neg (by simp [hb]), if_neg (by simp [h35]), if_pos hl]
theorem askF_num (h : bt s p = some c) (hb : blankB c = false) (h35 : (c == 35) = false) (hl : letterB c = false) (hd : digitB c = true) :
 askF pf D s (f + 1) p = ((dotB s (runTo digitB s p) = true → D (s.extract p (expEnd s (runTo digitB s (runTo digitB s p + 1))))) ∧ ∀ t j, numP pf s p = .ok (t, j) → askF pf D s f j) := by
 rw [askF, h]; simp only; rw [if_neg (by simp [hb]), if_neg (by simp [h35]), if_neg (by simp [hl]), if_pos hd]
theorem askF_text (h : bt s p = some 34) : askF pf D s (f + 1) p = ∀ t j, textP s p = .ok (t, j) → askF pf D s f j := by
 rw [askF, h]; rfl
theorem askF_sign (h : bt s p = some c) (hb : blankB c = false) (h35 : (c == 35) = false) (hl : letterB c = false) (hd : digitB c = false) (h34 : (c == 34) = false) :
 askF pf D s (f + 1) p = ∀ t j, signP s p = .ok (t, j) → askF pf D s f j := by
 rw [askF, h]; simp only; rw [if_neg (by simp [hb]), if_neg (by simp [h35]), if_neg (by simp [hl]), if_neg (by simp [hd]), if_neg (by simp [h34])]
end
def atDig (s : ByteArray) (p : Nat) : Bool := match bt s p with | some c => digitB c | none => false
theorem All_ask {NG : Nat} {G : World → Prop} {D : ByteArray → Prop} {pf : ByteArray → Nat} (E : Env NG G D pf) {s : ByteArray} {w : World} (hG : G w) (hNG : NG ≤ w.heap.size)
 (hD : askF pf D s (s.size + 1) 0) :
 Calls Tryz.prog 12 #[.string s] w fun e w' => AllPost w (lexP pf s) e w' := by
 have HRES := Lib.hid (show lexP pf s = (if 4096 < s.size then .error (4096, 2) else lexFrom pf s (s.size + 1) 0 []) from rfl); generalize lexP pf s = res at *; obtain ⟨R, hR⟩ : ∃ R, lexFrom pf s (s.size + 1) 0 [] = R := ⟨_, rfl⟩; rw [hR] at HRES; have HR0 := Lib.hid hR; clear hR; by_cases hbig : 4096 < s.size
 · rw [if_pos hbig] at HRES
   go_enter Tryz.func12, Tryz.ntmps12
   go_wp2_with fail; refine (fault_any _ _ _).mono ?_; rintro e w2 ⟨v, rfl, hft, hb2⟩
   go_wp2_with fail; go_ret2; rw [HRES.out]; exact ⟨⟨_, rfl, hft⟩, hb2⟩
 · rw [if_neg hbig] at HRES
   have hs : s.size ≤ 4096 := by omega
   have HASK0 := Lib.hid hD; clear hD; go_enter Tryz.func12, Tryz.ntmps12
   go_wp2_with fail; go_loopw [5] (fun _ wr => ∃ (f p : Nat) (acc : List Tok) (out : Value), RD wr w.heap.size s p out ∧ wr.ownsRow (w.heap.size + 1) 54 5 out acc.length (flatT acc) ∧ acc.length ≤ p ∧ p ≤ s.size ∧ s.size < p + f ∧ Below w.heap.size w wr ∧ Hid (lexFrom pf s f p acc = R) ∧ Hid (askF pf D s f p)) (fun _ wr => s.size - atOf wr w.heap.size)
   case atStart => exact ⟨s.size + 1, 0, [], _, block_new _ _ rfl, World.ownsRow_nil _ _ _ _, by simp, by omega, by omega, (by (repeat' first | (with_reducible first | exact Below.refl _ _ | assumption | refine below_drewN ?_ _ | refine Below.drew ?_ | refine Below.alloc ?_ ?_ _ | refine Below.setCell ?_ ?_ _) | omega | (simp; done) | (simp; omega))), HR0.out, HASK0.out⟩
   case round =>
    obtain ⟨f, p, acc, out, hrd, hown, hacc, hp, hf, hb, hres, hask⟩ := hrel; obtain ⟨f, rfl⟩ : ∃ f', f = f' + 1 := ⟨f - 1, by omega⟩; have hlt := hrd.lt; have q0 := hrd.c0; have q1 := hrd.c1; have q3 := hrd.free 1; by_cases hlt2 : p < s.size
    · obtain ⟨c, hc⟩ : ∃ c, s[p] = c := ⟨_, rfl⟩
      have hbt : bt s p = some c := by rw [bt_some hlt2, hc]
      have HBT := Lib.hid hbt; clear hbt; cases hbl : blankB c
      · obtain ⟨n32, n9, n10, n13⟩ := blank_no hbl
        have i32 := ne_nat (n := 32) n32 rfl; have i9 := ne_nat (n := 9) n9 rfl; have i10 := ne_nat (n := 10) n10 rfl; have i13 := ne_nat (n := 13) n13 rfl; have HBL := Lib.hid hbl; clear hbl n32 n9 n10 n13; by_cases h35 : c = 35
        · subst h35
          have hge := runTo_gt (p := notNl) HBT.out rfl; have hle := runTo_le notNl s (Nat.le_of_lt hlt2); have hR : lexFrom pf s f (runTo notNl s p) acc = R := by rw [← hres.out, lexFrom_hash HBT.out]
          have HASK := Lib.hid (askF_hash (pf := pf) (D := D) HBT.out ▸ hask.out); have HRR := Lib.hid hR; clear hR i32 i9 i10 i13
          go_wp2_with fail; refine (run_at (p := notNl) (n := p) enters_notNl hrd hs (by omega) (fun c W => notNl_any c W) rfl).mono ?_; rintro e w2 ⟨rfl, rfl⟩
          go_wp2_with fail; refine ⟨⟨f, runTo notNl s p, acc, out, hrd.set1 _, ownsRow_setCell_below hown (a := ⟨w.heap.size, 1, none⟩) (Nat.lt_succ_self _) _, by omega, by omega, by omega, hb.setCell (Nat.le_refl _) _, HRR.out, HASK.out⟩, ?_⟩; rw [hrd.atOf, (hrd.set1 _).atOf]; omega
        · have i35 := ne_nat (n := 35) h35 rfl
          have H35 : Hid ((c == 35) = false) := Lib.hid (by simpa using h35); clear h35; cases hl : letterB c
          · have HL := Lib.hid hl
            cases hd : digitB c
            · have HD := Lib.hid hd
              by_cases h34 : c = 34
              · subst h34
                clear hl hd i32 i9 i10 i13 i35
                go_wp2_with fail; refine (letter_is HL.out _).mono ?_; rintro e w2 ⟨rfl, rfl⟩
                go_wp2_with fail; refine (digit_is HD.out _).mono ?_; rintro e w2 ⟨rfl, rfl⟩
                go_wp2_with fail; refine (text_any hrd hown hlt2 hs (by omega)).mono ?_; intro e w2 hpost; cases hn : textP s p with
                | error x =>
                  obtain ⟨pe, er⟩ := x; rw [hn] at hpost; obtain ⟨⟨v, rfl, hft⟩, hb2⟩ := hpost; have hR : R = .error (pe, er) := by rw [← hres.out, lexFrom_text HBT.out, hn]; rfl
                  have HRR := Lib.hid hR; clear hR hn; obtain ⟨fb, rfl, hfb⟩ := hft
                  go_wp2_with fail; go_ret2; rw [HRES.out, HRR.out]; exact ⟨⟨_, rfl, fb, rfl, hfb⟩, hb.trans hb2⟩
                | ok x =>
                  obtain ⟨t, j⟩ := x; have hle := textP_le hlt2 hn; rw [hn] at hpost; obtain ⟨rfl, ⟨out2, hrd2, hown2⟩, hb2⟩ := hpost; have hR : lexFrom pf s f j (acc ++ [t]) = R := by rw [← hres.out, lexFrom_text HBT.out, hn]; rfl
                  have HRR := Lib.hid hR; have HASK := Lib.hid ((askF_text (pf := pf) (D := D) (f := f) HBT.out ▸ hask.out) t j hn); clear hR hn
                  go_wp2_with fail; refine ⟨⟨f, j, acc ++ [t], out2, hrd2, hown2, by simp; omega, by omega, by omega, hb.trans hb2, HRR.out, HASK.out⟩, ?_⟩; rw [hrd.atOf, hrd2.atOf]; omega
              · have i34 := ne_nat (n := 34) h34 rfl
                have H34 : Hid ((c == 34) = false) := Lib.hid (by simpa using h34); clear h34 hl hd
                go_wp2_with fail; refine (letter_is HL.out _).mono ?_; rintro e w2 ⟨rfl, rfl⟩
                go_wp2_with fail; refine (digit_is HD.out _).mono ?_; rintro e w2 ⟨rfl, rfl⟩
                go_wp2_with fail; refine (sign_any hrd hown hlt2 hs (by omega)).mono ?_; intro e w2 hpost; cases hn : signP s p with
                | error x =>
                  obtain ⟨pe, er⟩ := x; rw [hn] at hpost; obtain ⟨⟨v, rfl, hft⟩, hb2⟩ := hpost; have hR : R = .error (pe, er) := by rw [← hres.out, lexFrom_sign HBT.out HBL.out H35.out HL.out HD.out H34.out, hn]; rfl
                  have HRR := Lib.hid hR; clear hR hn; obtain ⟨fb, rfl, hfb⟩ := hft
                  go_wp2_with fail; go_ret2; rw [HRES.out, HRR.out]; exact ⟨⟨_, rfl, fb, rfl, hfb⟩, hb.trans hb2⟩
                | ok x =>
                  obtain ⟨t, j⟩ := x; have hle := signP_le hlt2 hn; rw [hn] at hpost; obtain ⟨rfl, ⟨out2, hrd2, hown2⟩, hb2⟩ := hpost; have hR : lexFrom pf s f j (acc ++ [t]) = R := by rw [← hres.out, lexFrom_sign HBT.out HBL.out H35.out HL.out HD.out H34.out, hn]; rfl
                  have HRR := Lib.hid hR; have HASK := Lib.hid ((askF_sign (pf := pf) (D := D) (f := f) HBT.out HBL.out H35.out HL.out HD.out H34.out ▸ hask.out) t j hn); clear hR hn
                  go_wp2_with fail; refine ⟨⟨f, j, acc ++ [t], out2, hrd2, hown2, by simp; omega, by omega, by omega, hb.trans hb2, HRR.out, HASK.out⟩, ?_⟩; rw [hrd.atOf, hrd2.atOf]; omega
            · have HD := Lib.hid hd
              clear hl hd
              go_wp2_with fail; refine (letter_is HL.out _).mono ?_; rintro e w2 ⟨rfl, rfl⟩
              go_wp2_with fail; refine (digit_is HD.out _).mono ?_; rintro e w2 ⟨rfl, rfl⟩
              go_wp2_with fail; have HASKN := Lib.hid (askF_num (pf := pf) (D := D) (f := f) HBT.out HBL.out H35.out HL.out HD.out ▸ hask.out); refine (number_any E (E.keeps _ _ _ hNG hb hG) hNG hrd hown hlt2 hs (by omega) HASKN.out.1).mono ?_; intro e w2 hpost; cases hn : numP pf s p with
              | error x =>
                obtain ⟨pe, er⟩ := x; rw [hn] at hpost; obtain ⟨⟨v, rfl, hft⟩, hb2⟩ := hpost; have hR : R = .error (pe, er) := by rw [← hres.out, lexFrom_num HBT.out HBL.out H35.out HL.out HD.out, hn]; rfl
                have HRR := Lib.hid hR; clear hR hn; obtain ⟨fb, rfl, hfb⟩ := hft
                go_wp2_with fail; go_ret2; rw [HRES.out, HRR.out]; exact ⟨⟨_, rfl, fb, rfl, hfb⟩, hb.trans hb2⟩
              | ok x =>
                obtain ⟨t, j⟩ := x; have hle := numP_le HBT.out HD.out hn; rw [hn] at hpost; obtain ⟨rfl, ⟨out2, hrd2, hown2⟩, hb2⟩ := hpost; have hR : lexFrom pf s f j (acc ++ [t]) = R := by rw [← hres.out, lexFrom_num HBT.out HBL.out H35.out HL.out HD.out, hn]; rfl
                have HRR := Lib.hid hR; have HASK := Lib.hid (HASKN.out.2 t j hn); clear hR hn HASKN
                go_wp2_with fail; refine ⟨⟨f, j, acc ++ [t], out2, hrd2, hown2, by simp; omega, by omega, by omega, hb.trans hb2, HRR.out, HASK.out⟩, ?_⟩; rw [hrd.atOf, hrd2.atOf]; omega
          · have HL := Lib.hid hl
            have hge : p < runTo moreB s p := runTo_gt HBT.out (by unfold moreB; rw [hl]; rfl); have hle := runTo_le moreB s (Nat.le_of_lt hlt2); have hres2 := hres.out; rw [lexFrom_name HBT.out HBL.out H35.out hl] at hres2; have hask2 := askF_name (pf := pf) (D := D) (f := f) HBT.out HBL.out H35.out hl ▸ hask.out; clear hl; have HRUN := Lib.hid (run_at (p := moreB) (n := p) enters_more hrd hs (by omega) (fun c W => more_any c W) rfl); generalize runTo moreB s p = en at *
            go_wp2_with fail; refine (letter_is HL.out _).mono ?_; rintro e w2 ⟨rfl, rfl⟩
            go_wp2_with fail; refine HRUN.out.mono ?_; rintro e w2 ⟨rfl, rfl⟩; by_cases hlong : 1024 < en - p
            · rw [if_pos hlong] at hres2
              have HRR := Lib.hid hres2; clear hres2 hask2
              go_wp2_with fail; refine (fault_any _ _ _).mono ?_; rintro e w2 ⟨v, rfl, hft, hb2⟩; obtain ⟨fb, rfl, hfb⟩ := hft
              go_wp2_with fail; go_ret2; rw [HRES.out, ← HRR.out]; exact ⟨⟨_, rfl, fb, rfl, hfb⟩, hb.trans (hb2.mono (Nat.le_of_lt hlt))⟩
            · rw [if_neg hlong] at hres2
              have HRR := Lib.hid hres2; have HASK := Lib.hid hask2; clear hres2 hask2
              go_wp2_with fail; refine (put_at (z := en) (⟨1, s.extract p en, 0, 0, p⟩ : Tok) _ hrd hown (by omega) rfl rfl).mono ?_; rintro e w2 ⟨rfl, out2, hrd2, hown2, hb2⟩
              go_wp2_with fail; refine ⟨⟨f, en, acc ++ [_], out2, hrd2, hown2, by simp; omega, by omega, by omega, hb.trans hb2, HRR.out, HASK.out⟩, ?_⟩; rw [hrd.atOf, hrd2.atOf]; omega
      · have hR : lexFrom pf s f (p + 1) acc = R := by rw [← hres.out, lexFrom_blank HBT.out hbl]
        have HRR := Lib.hid hR; have HASK := Lib.hid (askF_blank (pf := pf) (D := D) (f := f) HBT.out hbl ▸ hask.out); clear hR; rcases blank_cases hbl with rfl | rfl | rfl | rfl
        all_goals
         clear hbl
         go_wp2_with fail; refine ⟨⟨f, p + 1, acc, out, hrd.set1 _, ownsRow_setCell_below hown (a := ⟨w.heap.size, 1, none⟩) (Nat.lt_succ_self _) _, by omega, by omega, by omega, hb.setCell (Nat.le_refl _) _, HRR.out, HASK.out⟩, ?_⟩; rw [hrd.atOf, (show RD (wr.setCell ⟨w.heap.size, 1, none⟩ (.int .i64 ((p : Int) + 1))) w.heap.size s (p + 1) out from hrd.set1 (p + 1)).atOf]; omega
    · have hps : p = s.size := by omega
      have hR : R = .ok (acc ++ [⟨0, ⟨#[]⟩, 0, 0, p⟩]) := by rw [← hres.out, lexFrom_end (by omega)]
      have HRR := Lib.hid hR; clear hR hps
      go_wp2_with fail; refine (put_at (z := p) (⟨0, ⟨#[]⟩, 0, 0, p⟩ : Tok) _ hrd hown (by omega) rfl rfl).mono ?_; rintro e w2 ⟨rfl, out2, hrd2, hown2, hb2⟩; have q2 := hrd2.c2
      go_wp2_with fail; go_ret2; rw [HRES.out, HRR.out]; exact ⟨⟨_, rfl, own_mono hown2 (by omega)⟩, hb.trans hb2⟩
theorem ask_any {pf : ByteArray → Nat} {D : ByteArray → Prop} {s : ByteArray} (hD : ∀ p, p < s.size → atDig s p = true → dotB s (runTo digitB s p) = true → D (s.extract p (expEnd s (runTo digitB s (runTo digitB s p + 1))))) : ∀ f p, askF pf D s f p := by
 intro f; induction f with
 | zero => intro p; exact True.intro
 | succ f ih =>
   intro p; cases hb : bt s p with
   | none => rw [askF, hb]; exact True.intro
   | some c =>
     have hlt : p < s.size := by
      rcases Nat.lt_or_ge p s.size with h | h
      · exact h
      · rw [bt_none h] at hb; cases hb
     rw [askF, hb]; simp only
     split
     · exact ih _
     · split
       · exact ih _
       · split
         · exact ih _
         · split
           · rename_i hd
             exact ⟨hD p hlt (by unfold atDig; rw [hb]; exact hd), fun _ j _ => ih j⟩
           · split <;> exact fun _ j _ => ih j
theorem All_any {NG : Nat} {G : World → Prop} {D : ByteArray → Prop} {pf : ByteArray → Nat} (E : Env NG G D pf) {s : ByteArray} {w : World} (hG : G w) (hNG : NG ≤ w.heap.size)
 (hD : ∀ p, p < s.size → atDig s p = true → dotB s (runTo digitB s p) = true → D (s.extract p (expEnd s (runTo digitB s (runTo digitB s p + 1))))) :
 Calls Tryz.prog 12 #[.string s] w fun e w' => AllPost w (lexP pf s) e w' := All_ask E hG hNG (ask_any hD _ _)
end Go.Proofs.YtkoghgnjjfnamaaGreatDoor
