/- The lexer reads a string: what it stands for, or where it is wrong. -/
import Derived.Test.YtnhdedoobagbbaaGreatDoorPut
import Derived.Test.YtnhdedoobagbbaaGreatDoorBuildW
namespace Go.Proofs.YtnhdedoobagbbaaGreatDoor
open Go.RowKit

/-- What stands behind a backslash. -/
def escB (d : UInt8) : Option UInt8 := if d == 110 then some 10 else if d == 116 then some 9 else if d == 34 then some 34 else if d == 92 then some 92 else none
def ctlB (c : UInt8) : Bool := (c < 32 && c != 9 && c != 10) || c == 127
/-- From a place in a string on, with the bytes that it stands for up to there: the rest of its bytes; a0: where the string began. -/
def textL (a0 : Nat) : List UInt8 → Nat → List UInt8 → Except (Nat × Int) (List UInt8 × Nat)
  | [], _, _ => .error (a0, 5)
  | [c], i, l => if c == 34 then .ok (l, i + 1) else if ctlB c then .error (i, 3) else if c == 92 then .error (i, 3) else .error (a0, 5)
  | c :: d :: r, i, l =>
    if c == 34 then .ok (l, i + 1) else if ctlB c then .error (i, 3) else if c == 92 then
      match escB d with
      | none => .error (i, 3)
      | some x => if l.length == 1024 then .error (a0, 5) else textL a0 r (i + 2) (l ++ [x])
    else if l.length == 1024 then .error (a0, 5) else textL a0 (d :: r) (i + 1) (l ++ [c])
theorem textL_end (a0 i : Nat) (l : List UInt8) : textL a0 [] i l = .error (a0, 5) := rfl
theorem textL_quote (a0 i : Nat) (r l : List UInt8) : textL a0 (34 :: r) i l = .ok (l, i + 1) := by cases r <;> rfl
theorem textL_ctl {a0 i : Nat} {c : UInt8} {r l : List UInt8} (h1 : (c == 34) = false) (h2 : ctlB c = true) : textL a0 (c :: r) i l = .error (i, 3) := by cases r <;> simp [textL, h1, h2]
theorem textL_esc_end {a0 i : Nat} {l : List UInt8} : textL a0 [92] i l = .error (i, 3) := rfl
theorem textL_esc_none {a0 i : Nat} {d : UInt8} {r l : List UInt8} (h : escB d = none) : textL a0 (92 :: d :: r) i l = .error (i, 3) := by
  rw [textL]; simp [h, ctlB]
theorem textL_esc_full {a0 i : Nat} {d x : UInt8} {r l : List UInt8} (h : escB d = some x) (hl : l.length = 1024) : textL a0 (92 :: d :: r) i l = .error (a0, 5) := by
  rw [textL]; simp [h, ctlB, hl]
theorem textL_esc {a0 i : Nat} {d x : UInt8} {r l : List UInt8} (h : escB d = some x) (hl : l.length ≠ 1024) : textL a0 (92 :: d :: r) i l = textL a0 r (i + 2) (l ++ [x]) := by
  rw [textL]; simp [h, ctlB, hl]
theorem textL_full {a0 i : Nat} {c : UInt8} {r l : List UInt8} (h1 : (c == 34) = false) (h2 : ctlB c = false) (h3 : (c == 92) = false) (hl : l.length = 1024) : textL a0 (c :: r) i l = .error (a0, 5) := by
  cases r <;> simp [textL, h1, h2, h3, hl]
theorem textL_byte {a0 i : Nat} {c : UInt8} {r l : List UInt8} (h1 : (c == 34) = false) (h2 : ctlB c = false) (h3 : (c == 92) = false) (hl : l.length ≠ 1024) : textL a0 (c :: r) i l = textL a0 r (i + 1) (l ++ [c]) := by
  cases r <;> simp [textL, h1, h2, h3, hl]
theorem drop_cons {s : ByteArray} {i : Nat} (h : i < s.size) : s.data.toList.drop i = s[i] :: s.data.toList.drop (i + 1) := by
  have hl : s.data.toList.length = s.size := Array.length_toList
  rw [List.drop_eq_getElem_cons (by omega)]
  rfl
theorem drop_end {s : ByteArray} {i : Nat} (h : s.size ≤ i) : s.data.toList.drop i = [] := by
  have hl : s.data.toList.length = s.size := Array.length_toList
  exact List.drop_eq_nil_of_le (by omega)

/-- What a method of the reader that reads one token comes to. -/
def TokPost (g : Nat) (s : ByteArray) (ts : List Tok) (w : World) (res : Except (Nat × Int) (Tok × Nat)) (e : Ending) (w' : World) : Prop :=
  match res with
  | .ok (t, j) => e = .returned (.pointer none) ∧ (∃ out', RD w' g s j out' ∧ w'.ownsRow (g + 1) 34 5 out' (ts ++ [t]).length (flatT (ts ++ [t]))) ∧ Below g w w'
  | .error (p, er) => (∃ v, e = .returned v ∧ FT w' v p er) ∧ Below g w w'
def textP (s : ByteArray) (a0 : Nat) : Except (Nat × Int) (Tok × Nat) :=
  match textL a0 (s.data.toList.drop (a0 + 1)) (a0 + 1) [] with
  | .ok (l, j) => .ok (⟨4, ⟨l.toArray⟩, 0, 0, a0⟩, j)
  | .error x => .error x
/-- What a byte says to the tests on it. -/
theorem bytes_snoc (l : List UInt8) (c : UInt8) : Lib.byteCells l ++ [Value.int .u8 c.toNat] = Lib.byteCells (l ++ [c]) := by rw [Lib.byteCells_append]; rfl

theorem ne_nat {c : UInt8} {d : UInt8} {n : Int} (h : c ≠ d) (hd : (d.toNat : Int) = n) : ((c.toNat : Int) == n) = false := by
  rw [← hd, beq_eq_false_iff_ne]
  intro e
  exact h (UInt8.toNat_inj.1 (by omega))
theorem ne_nat' {c : UInt8} {d : UInt8} {n : Int} (h : c ≠ d) (hd : (d.toNat : Int) = n) : ((c.toNat : Int) != n) = true := by
  rw [bne, ne_nat h hd]; rfl
theorem put_at {g at' z : Nat} {s : ByteArray} {out : Value} {ts : List Tok} {w : World} {zi : Int} (t : Tok) (p : Int) (hr : RD w g s at' out) (hown : w.ownsRow (g + 1) 34 5 out ts.length (flatT ts)) (hn : ts.length ≤ 100000) (hp : t.place = at') (hz : (z : Int) = zi) :
    Calls Tryz.prog 17 #[.pointer (some ⟨g, 0, none⟩), .int .i64 zi, .agg #[.int .i64 t.kind, .string t.text, .int .i64 t.num, .float .f64 t.bits, .int .i64 p]] w fun e w' =>
      e = .returned (.tuple #[]) ∧ ∃ out', RD w' g s z out' ∧ w'.ownsRow (g + 1) 34 5 out' (ts ++ [t]).length (flatT (ts ++ [t])) ∧ Below g w w' := by
  subst hz
  exact put_any z t p hr hown hn hp

set_option maxHeartbeats 1000000 in
set_option maxRecDepth 100000 in
theorem text_any {g a0 : Nat} {s : ByteArray} {out : Value} {ts : List Tok} {w : World} (hr : RD w g s a0 out) (hown : w.ownsRow (g + 1) 34 5 out ts.length (flatT ts)) (ha : a0 < s.size) (hs : s.size ≤ 4096) (hn : ts.length ≤ 5000) :
    Calls Tryz.prog 19 #[.pointer (some ⟨g, 0, none⟩)] w fun e w' => TokPost g s ts w (textP s a0) e w' := by
  have hlt := hr.lt
  have c1 := hr.c1
  have HRES := Lib.hid (show textP s a0 = (match textL a0 (s.data.toList.drop (a0 + 1)) (a0 + 1) [] with | .ok (l, j) => .ok (⟨4, ⟨l.toArray⟩, 0, 0, a0⟩, j) | .error x => .error x) from rfl)
  generalize textP s a0 = res at *
  obtain ⟨R, hR⟩ : ∃ R, textL a0 (s.data.toList.drop (a0 + 1)) (a0 + 1) [] = R := ⟨_, rfl⟩
  rw [hR] at HRES
  have HR0 := Lib.hid hR
  clear hR
  have HRD := Lib.hid hr
  have HOWN := Lib.hid hown
  clear hr hown
  go_enter Tryz.func19, Tryz.ntmps19
  go_wp2_with fail
  go_loopw [4] (fun iv wr => ∃ (i : Nat) (l : List UInt8), a0 < i ∧ i ≤ s.size ∧ iv = .int .i64 i ∧ Lib.IsBuilder 58 5 w.heap.size w.heap.size (Lib.byteCells l) wr ∧ Below w.heap.size w wr ∧ l.length ≤ 1024 ∧ Hid (textL a0 (s.data.toList.drop i) i l = R)) (fun iv _ => s.size - (intOf iv).toNat)
  case atStart => exact ⟨a0 + 1, [], by omega, by omega, by go_num, Or.inl ⟨Nat.le_refl _, _, block_new _ _ rfl, World.ownsRow_nil _ _ _ _, by simp [Value.ownBlock]⟩, (by (repeat' (first | (with_reducible exact Below.refl _ _) | (with_reducible assumption) | (with_reducible refine below_drewN ?_ _) | (with_reducible refine Below.drew ?_) | (with_reducible refine Below.alloc ?_ ?_ _) | (with_reducible refine Below.setCell ?_ ?_ _) | omega | (simp; done) | (simp; omega)))), by simp, HR0.out⟩
  case round =>
    obtain ⟨i, l, hi1, hi2, rfl, hbld, hb, hll, hres⟩ := hrel
    have hrd := HRD.out.below' hb hlt
    have q0 := hrd.c0
    have q1 := hrd.c1
    have hownr := own_below HOWN.out hb
    by_cases hlt2 : i < s.size
    · obtain ⟨c, hc⟩ : ∃ c, s[i] = c := ⟨_, rfl⟩
      have hzb := hb.size
      by_cases h34 : c = 34
      · subst h34
        have hR : R = .ok (l, i + 1) := by rw [← hres.out, drop_cons hlt2, hc, textL_quote]
        have HRR := Lib.hid hR
        clear hR
        go_wp2_with fail
        refine (Tryz.Builder_String_any _ _ _ _ hbld hb.size).mono ?_
        rintro e w2 ⟨rfl, hb2⟩
        have hrd2 := hrd.below' hb2 hlt
        have hown2 := own_below HOWN.out (hb.trans hb2)
        go_wp2_with fail
        refine (put_at (z := i + 1) (⟨4, ⟨l.toArray⟩, 0, 0, a0⟩ : Tok) _ hrd2 hown2 (by omega) rfl (by omega)).mono ?_
        rintro e w3 ⟨rfl, out3, hrd3, hown3, hb3⟩
        go_wp2_with fail
        go_ret
        rw [HRES.out, HRR.out]
        exact ⟨rfl, ⟨_, hrd3, hown3⟩, ((hb.trans hb2).mono (Nat.le_of_lt hlt)).trans hb3⟩
      · have H34 : (c == 34) = false := by simpa using h34
        by_cases h127 : c = 127
        · subst h127
          have hR : R = .error (i, 3) := by rw [← hres.out, drop_cons hlt2, hc]; exact textL_ctl H34 rfl
          have HRR := Lib.hid hR
          clear hR
          go_wp2_with fail
          refine (fault_any _ _ _).mono ?_
          rintro e w2 ⟨v, rfl, hft, hb2⟩
          go_wp2_with fail
          go_ret
          rw [HRES.out, HRR.out]
          exact ⟨⟨_, rfl, hft⟩, (hb.mono (Nat.le_of_lt hlt)).trans (hb2.mono (by have := hb.size; omega))⟩
        · by_cases h9 : c = 9
          · subst h9
            by_cases hfull : l.length = 1024
            · have hR : R = .error (a0, 5) := by rw [← hres.out, drop_cons hlt2, hc]; exact textL_full H34 rfl rfl hfull
              have HRR := Lib.hid hR
              have hfl : ((l.length : Int) == 1024) = true := by rw [beq_iff_eq]; omega
              clear hR hfull
              go_wp2_with fail
              refine (Tryz.Builder_Len _ _ _ _ hbld).mono ?_
              rw [Lib.byteCells_length]
              rintro e w1 ⟨rfl, rfl⟩
              have q1 := hrd.c1
              go_wp2_with fail
              refine (fault_any _ _ _).mono ?_
              rintro e w2 ⟨v, rfl, hft, hb2⟩
              go_wp2_with fail
              go_ret
              rw [HRES.out, HRR.out]
              exact ⟨⟨_, rfl, hft⟩, (hb.mono (Nat.le_of_lt hlt)).trans (hb2.mono (by have := hb.size; omega))⟩
            · have hstep : textL a0 (s.data.toList.drop (i + 1)) (i + 1) (l ++ [9]) = R := by rw [← hres.out, drop_cons hlt2, hc]; exact (textL_byte H34 rfl rfl hfull).symm
              have HST := Lib.hid hstep
              have hfl : ((l.length : Int) == 1024) = false := by rw [beq_eq_false_iff_ne]; omega
              have hll2 : l.length + 1 ≤ 1024 := by omega
              clear hstep hfull
              go_wp2_with fail
              refine (Tryz.Builder_Len _ _ _ _ hbld).mono ?_
              rw [Lib.byteCells_length]
              rintro e w1 ⟨rfl, rfl⟩
              go_wp2_with fail
              refine (writeByte_any _ _ _ _ _ hbld (by rw [Lib.byteCells_length]; omega) hb.size).mono ?_
              rintro e w2 ⟨rfl, hbld2, hb2⟩
              go_wp2_with fail
              go_roundw
              case rel => exact ⟨(i + 1), l ++ [9], by omega, by omega, by go_num, Or.inr (by rw [← bytes_snoc]; exact hbld2), hb.trans hb2, by simp; omega, HST.out⟩
              case measure => simp [intOf]; omega
          · by_cases h10 : c = 10
            · subst h10
              by_cases hfull : l.length = 1024
              · have hR : R = .error (a0, 5) := by rw [← hres.out, drop_cons hlt2, hc]; exact textL_full H34 rfl rfl hfull
                have HRR := Lib.hid hR
                have hfl : ((l.length : Int) == 1024) = true := by rw [beq_iff_eq]; omega
                clear hR hfull
                go_wp2_with fail
                refine (Tryz.Builder_Len _ _ _ _ hbld).mono ?_
                rw [Lib.byteCells_length]
                rintro e w1 ⟨rfl, rfl⟩
                have q1 := hrd.c1
                go_wp2_with fail
                refine (fault_any _ _ _).mono ?_
                rintro e w2 ⟨v, rfl, hft, hb2⟩
                go_wp2_with fail
                go_ret
                rw [HRES.out, HRR.out]
                exact ⟨⟨_, rfl, hft⟩, (hb.mono (Nat.le_of_lt hlt)).trans (hb2.mono (by have := hb.size; omega))⟩
              · have hstep : textL a0 (s.data.toList.drop (i + 1)) (i + 1) (l ++ [10]) = R := by rw [← hres.out, drop_cons hlt2, hc]; exact (textL_byte H34 rfl rfl hfull).symm
                have HST := Lib.hid hstep
                have hfl : ((l.length : Int) == 1024) = false := by rw [beq_eq_false_iff_ne]; omega
                have hll2 : l.length + 1 ≤ 1024 := by omega
                clear hstep hfull
                go_wp2_with fail
                refine (Tryz.Builder_Len _ _ _ _ hbld).mono ?_
                rw [Lib.byteCells_length]
                rintro e w1 ⟨rfl, rfl⟩
                go_wp2_with fail
                refine (writeByte_any _ _ _ _ _ hbld (by rw [Lib.byteCells_length]; omega) hb.size).mono ?_
                rintro e w2 ⟨rfl, hbld2, hb2⟩
                go_wp2_with fail
                go_roundw
                case rel => exact ⟨(i + 1), l ++ [10], by omega, by omega, by go_num, Or.inr (by rw [← bytes_snoc]; exact hbld2), hb.trans hb2, by simp; omega, HST.out⟩
                case measure => simp [intOf]; omega
            · by_cases h92 : c = 92
              · subst h92
                by_cases hi3 : i + 1 < s.size
                · obtain ⟨d, hd⟩ : ∃ d, s[i + 1] = d := ⟨_, rfl⟩
                  have hdr : s.data.toList.drop (i + 1) = d :: s.data.toList.drop (i + 2) := by rw [drop_cons hi3, hd]
                  have HDR := Lib.hid hdr
                  clear hdr
                  by_cases d110 : d = 110
                  · subst d110
                    by_cases hfull : l.length = 1024
                    · have hR : R = .error (a0, 5) := by rw [← hres.out, drop_cons hlt2, hc, HDR.out]; exact textL_esc_full rfl hfull
                      have HRR := Lib.hid hR
                      have hfl : ((l.length : Int) == 1024) = true := by rw [beq_iff_eq]; omega
                      clear hR hfull
                      go_wp2_with fail
                      refine (Tryz.strings_IndexByte _ _ _).mono ?_
                      rw [show Lib.indexByte _ _ = (0 : Int) from by decide +kernel]
                      rintro e w1 ⟨rfl, rfl⟩
                      go_wp2_with fail
                      refine (Tryz.Builder_Len _ _ _ _ hbld).mono ?_
                      rw [Lib.byteCells_length]
                      rintro e w1 ⟨rfl, rfl⟩
                      have q1 := hrd.c1
                      go_wp2_with fail
                      refine (fault_any _ _ _).mono ?_
                      rintro e w2 ⟨v, rfl, hft, hb2⟩
                      go_wp2_with fail
                      go_ret
                      rw [HRES.out, HRR.out]
                      exact ⟨⟨_, rfl, hft⟩, (hb.mono (Nat.le_of_lt hlt)).trans (hb2.mono (by have := hb.size; omega))⟩
                    · have hstep : textL a0 (s.data.toList.drop (i + 2)) (i + 2) (l ++ [10]) = R := by rw [← hres.out, drop_cons hlt2, hc, HDR.out]; exact (textL_esc rfl hfull).symm
                      have HST := Lib.hid hstep
                      have hfl : ((l.length : Int) == 1024) = false := by rw [beq_eq_false_iff_ne]; omega
                      have hll2 : l.length + 1 ≤ 1024 := by omega
                      clear hstep hfull
                      go_wp2_with fail
                      refine (Tryz.strings_IndexByte _ _ _).mono ?_
                      rw [show Lib.indexByte _ _ = (0 : Int) from by decide +kernel]
                      rintro e w1 ⟨rfl, rfl⟩
                      go_wp2_with fail
                      refine (Tryz.Builder_Len _ _ _ _ hbld).mono ?_
                      rw [Lib.byteCells_length]
                      rintro e w1 ⟨rfl, rfl⟩
                      go_wp2_with fail
                      refine (writeByte_any _ _ _ _ _ hbld (by rw [Lib.byteCells_length]; omega) hb.size).mono ?_
                      rintro e w2 ⟨rfl, hbld2, hb2⟩
                      go_wp2_with fail
                      go_roundw
                      case rel => exact ⟨i + 2, l ++ [10], by omega, by omega, by go_num, Or.inr (by rw [← bytes_snoc]; exact hbld2), hb.trans hb2, by simp; omega, HST.out⟩
                      case measure => simp [intOf]; omega
                  · by_cases d116 : d = 116
                    · subst d116
                      by_cases hfull : l.length = 1024
                      · have hR : R = .error (a0, 5) := by rw [← hres.out, drop_cons hlt2, hc, HDR.out]; exact textL_esc_full rfl hfull
                        have HRR := Lib.hid hR
                        have hfl : ((l.length : Int) == 1024) = true := by rw [beq_iff_eq]; omega
                        clear hR hfull
                        go_wp2_with fail
                        refine (Tryz.strings_IndexByte _ _ _).mono ?_
                        rw [show Lib.indexByte _ _ = (1 : Int) from by decide +kernel]
                        rintro e w1 ⟨rfl, rfl⟩
                        go_wp2_with fail
                        refine (Tryz.Builder_Len _ _ _ _ hbld).mono ?_
                        rw [Lib.byteCells_length]
                        rintro e w1 ⟨rfl, rfl⟩
                        have q1 := hrd.c1
                        go_wp2_with fail
                        refine (fault_any _ _ _).mono ?_
                        rintro e w2 ⟨v, rfl, hft, hb2⟩
                        go_wp2_with fail
                        go_ret
                        rw [HRES.out, HRR.out]
                        exact ⟨⟨_, rfl, hft⟩, (hb.mono (Nat.le_of_lt hlt)).trans (hb2.mono (by have := hb.size; omega))⟩
                      · have hstep : textL a0 (s.data.toList.drop (i + 2)) (i + 2) (l ++ [9]) = R := by rw [← hres.out, drop_cons hlt2, hc, HDR.out]; exact (textL_esc rfl hfull).symm
                        have HST := Lib.hid hstep
                        have hfl : ((l.length : Int) == 1024) = false := by rw [beq_eq_false_iff_ne]; omega
                        have hll2 : l.length + 1 ≤ 1024 := by omega
                        clear hstep hfull
                        go_wp2_with fail
                        refine (Tryz.strings_IndexByte _ _ _).mono ?_
                        rw [show Lib.indexByte _ _ = (1 : Int) from by decide +kernel]
                        rintro e w1 ⟨rfl, rfl⟩
                        go_wp2_with fail
                        refine (Tryz.Builder_Len _ _ _ _ hbld).mono ?_
                        rw [Lib.byteCells_length]
                        rintro e w1 ⟨rfl, rfl⟩
                        go_wp2_with fail
                        refine (writeByte_any _ _ _ _ _ hbld (by rw [Lib.byteCells_length]; omega) hb.size).mono ?_
                        rintro e w2 ⟨rfl, hbld2, hb2⟩
                        go_wp2_with fail
                        go_roundw
                        case rel => exact ⟨i + 2, l ++ [9], by omega, by omega, by go_num, Or.inr (by rw [← bytes_snoc]; exact hbld2), hb.trans hb2, by simp; omega, HST.out⟩
                        case measure => simp [intOf]; omega
                    · by_cases d34 : d = 34
                      · subst d34
                        by_cases hfull : l.length = 1024
                        · have hR : R = .error (a0, 5) := by rw [← hres.out, drop_cons hlt2, hc, HDR.out]; exact textL_esc_full rfl hfull
                          have HRR := Lib.hid hR
                          have hfl : ((l.length : Int) == 1024) = true := by rw [beq_iff_eq]; omega
                          clear hR hfull
                          go_wp2_with fail
                          refine (Tryz.strings_IndexByte _ _ _).mono ?_
                          rw [show Lib.indexByte _ _ = (2 : Int) from by decide +kernel]
                          rintro e w1 ⟨rfl, rfl⟩
                          go_wp2_with fail
                          refine (Tryz.Builder_Len _ _ _ _ hbld).mono ?_
                          rw [Lib.byteCells_length]
                          rintro e w1 ⟨rfl, rfl⟩
                          have q1 := hrd.c1
                          go_wp2_with fail
                          refine (fault_any _ _ _).mono ?_
                          rintro e w2 ⟨v, rfl, hft, hb2⟩
                          go_wp2_with fail
                          go_ret
                          rw [HRES.out, HRR.out]
                          exact ⟨⟨_, rfl, hft⟩, (hb.mono (Nat.le_of_lt hlt)).trans (hb2.mono (by have := hb.size; omega))⟩
                        · have hstep : textL a0 (s.data.toList.drop (i + 2)) (i + 2) (l ++ [34]) = R := by rw [← hres.out, drop_cons hlt2, hc, HDR.out]; exact (textL_esc rfl hfull).symm
                          have HST := Lib.hid hstep
                          have hfl : ((l.length : Int) == 1024) = false := by rw [beq_eq_false_iff_ne]; omega
                          have hll2 : l.length + 1 ≤ 1024 := by omega
                          clear hstep hfull
                          go_wp2_with fail
                          refine (Tryz.strings_IndexByte _ _ _).mono ?_
                          rw [show Lib.indexByte _ _ = (2 : Int) from by decide +kernel]
                          rintro e w1 ⟨rfl, rfl⟩
                          go_wp2_with fail
                          refine (Tryz.Builder_Len _ _ _ _ hbld).mono ?_
                          rw [Lib.byteCells_length]
                          rintro e w1 ⟨rfl, rfl⟩
                          go_wp2_with fail
                          refine (writeByte_any _ _ _ _ _ hbld (by rw [Lib.byteCells_length]; omega) hb.size).mono ?_
                          rintro e w2 ⟨rfl, hbld2, hb2⟩
                          go_wp2_with fail
                          go_roundw
                          case rel => exact ⟨i + 2, l ++ [34], by omega, by omega, by go_num, Or.inr (by rw [← bytes_snoc]; exact hbld2), hb.trans hb2, by simp; omega, HST.out⟩
                          case measure => simp [intOf]; omega
                      · by_cases d92 : d = 92
                        · subst d92
                          by_cases hfull : l.length = 1024
                          · have hR : R = .error (a0, 5) := by rw [← hres.out, drop_cons hlt2, hc, HDR.out]; exact textL_esc_full rfl hfull
                            have HRR := Lib.hid hR
                            have hfl : ((l.length : Int) == 1024) = true := by rw [beq_iff_eq]; omega
                            clear hR hfull
                            go_wp2_with fail
                            refine (Tryz.strings_IndexByte _ _ _).mono ?_
                            rw [show Lib.indexByte _ _ = (3 : Int) from by decide +kernel]
                            rintro e w1 ⟨rfl, rfl⟩
                            go_wp2_with fail
                            refine (Tryz.Builder_Len _ _ _ _ hbld).mono ?_
                            rw [Lib.byteCells_length]
                            rintro e w1 ⟨rfl, rfl⟩
                            have q1 := hrd.c1
                            go_wp2_with fail
                            refine (fault_any _ _ _).mono ?_
                            rintro e w2 ⟨v, rfl, hft, hb2⟩
                            go_wp2_with fail
                            go_ret
                            rw [HRES.out, HRR.out]
                            exact ⟨⟨_, rfl, hft⟩, (hb.mono (Nat.le_of_lt hlt)).trans (hb2.mono (by have := hb.size; omega))⟩
                          · have hstep : textL a0 (s.data.toList.drop (i + 2)) (i + 2) (l ++ [92]) = R := by rw [← hres.out, drop_cons hlt2, hc, HDR.out]; exact (textL_esc rfl hfull).symm
                            have HST := Lib.hid hstep
                            have hfl : ((l.length : Int) == 1024) = false := by rw [beq_eq_false_iff_ne]; omega
                            have hll2 : l.length + 1 ≤ 1024 := by omega
                            clear hstep hfull
                            go_wp2_with fail
                            refine (Tryz.strings_IndexByte _ _ _).mono ?_
                            rw [show Lib.indexByte _ _ = (3 : Int) from by decide +kernel]
                            rintro e w1 ⟨rfl, rfl⟩
                            go_wp2_with fail
                            refine (Tryz.Builder_Len _ _ _ _ hbld).mono ?_
                            rw [Lib.byteCells_length]
                            rintro e w1 ⟨rfl, rfl⟩
                            go_wp2_with fail
                            refine (writeByte_any _ _ _ _ _ hbld (by rw [Lib.byteCells_length]; omega) hb.size).mono ?_
                            rintro e w2 ⟨rfl, hbld2, hb2⟩
                            go_wp2_with fail
                            go_roundw
                            case rel => exact ⟨i + 2, l ++ [92], by omega, by omega, by go_num, Or.inr (by rw [← bytes_snoc]; exact hbld2), hb.trans hb2, by simp; omega, HST.out⟩
                            case measure => simp [intOf]; omega
                        · have hE : escB d = none := by simp [escB, d110, d116, d34, d92]
                          have hix : Lib.indexByte (⟨#[110, 116, 34, 92]⟩ : ByteArray).data.toList d = -1 := by simp [Lib.indexByte, Ne.symm d110, Ne.symm d116, Ne.symm d34, Ne.symm d92]
                          have hR : R = .error (i, 3) := by rw [← hres.out, drop_cons hlt2, hc, HDR.out]; exact textL_esc_none hE
                          have HRR := Lib.hid hR
                          have HIX := Lib.hid hix
                          clear hR hE hix d110 d116 d34 d92
                          go_wp2_with fail
                          refine (Tryz.strings_IndexByte _ _ _).mono ?_
                          rw [show ((d.toNat : Int).toNat.toUInt8) = d by simp, HIX.out]
                          rintro e w1 ⟨rfl, rfl⟩
                          go_wp2_with fail
                          refine (fault_any _ _ _).mono ?_
                          rintro e w2 ⟨v, rfl, hft, hb2⟩
                          go_wp2_with fail
                          go_ret
                          rw [HRES.out, HRR.out]
                          exact ⟨⟨_, rfl, hft⟩, (hb.mono (Nat.le_of_lt hlt)).trans (hb2.mono (by have := hb.size; omega))⟩
                · have hR : R = .error (i, 3) := by rw [← hres.out, drop_cons hlt2, hc, drop_end (by omega)]; exact textL_esc_end
                  have HRR := Lib.hid hR
                  clear hR
                  go_wp2_with fail
                  refine (fault_any _ _ _).mono ?_
                  rintro e w2 ⟨v, rfl, hft, hb2⟩
                  go_wp2_with fail
                  go_ret
                  rw [HRES.out, HRR.out]
                  exact ⟨⟨_, rfl, hft⟩, (hb.mono (Nat.le_of_lt hlt)).trans (hb2.mono (by have := hb.size; omega))⟩
              · have n34 := ne_nat (n := 34) h34 (by decide)
                have n127 := ne_nat (n := 127) h127 (by decide)
                have n9 := ne_nat' (n := 9) h9 (by decide)
                have n10 := ne_nat' (n := 10) h10 (by decide)
                have n92 := ne_nat (n := 92) h92 (by decide)
                have H92 : (c == 92) = false := by simpa using h92
                by_cases h32 : c < 32
                · have hctl : ctlB c = true := by simp [ctlB, h32, h9, h10]
                  have n32 : decide ((c.toNat : Int) < 32) = true := by have := UInt8.lt_iff_toNat_lt.1 h32; simp at this ⊢; omega
                  have HCTL := Lib.hid hctl
                  clear h34 h127 h9 h10 h92 h32 hctl
                  have hR : R = .error (i, 3) := by rw [← hres.out, drop_cons hlt2, hc]; exact textL_ctl H34 HCTL.out
                  have HRR := Lib.hid hR
                  clear hR
                  go_wp2_with fail
                  refine (fault_any _ _ _).mono ?_
                  rintro e w2 ⟨v, rfl, hft, hb2⟩
                  go_wp2_with fail
                  go_ret
                  rw [HRES.out, HRR.out]
                  exact ⟨⟨_, rfl, hft⟩, (hb.mono (Nat.le_of_lt hlt)).trans (hb2.mono (by have := hb.size; omega))⟩
                · have hctl : ctlB c = false := by simp [ctlB, h32, h127]
                  have n32 : decide ((c.toNat : Int) < 32) = false := by have : ¬ c.toNat < (32 : UInt8).toNat := fun h => h32 (UInt8.lt_iff_toNat_lt.2 h); simp at this ⊢; omega
                  have HCTL := Lib.hid hctl
                  clear h34 h127 h9 h10 h92 h32 hctl
                  by_cases hfull : l.length = 1024
                  · have hR : R = .error (a0, 5) := by rw [← hres.out, drop_cons hlt2, hc]; exact textL_full H34 HCTL.out H92 hfull
                    have HRR := Lib.hid hR
                    have hfl : ((l.length : Int) == 1024) = true := by rw [beq_iff_eq]; omega
                    clear hR hfull
                    go_wp2_with fail
                    refine (Tryz.Builder_Len _ _ _ _ hbld).mono ?_
                    rw [Lib.byteCells_length]
                    rintro e w1 ⟨rfl, rfl⟩
                    have q1 := hrd.c1
                    go_wp2_with fail
                    refine (fault_any _ _ _).mono ?_
                    rintro e w2 ⟨v, rfl, hft, hb2⟩
                    go_wp2_with fail
                    go_ret
                    rw [HRES.out, HRR.out]
                    exact ⟨⟨_, rfl, hft⟩, (hb.mono (Nat.le_of_lt hlt)).trans (hb2.mono (by have := hb.size; omega))⟩
                  · have hstep : textL a0 (s.data.toList.drop (i + 1)) (i + 1) (l ++ [c]) = R := by rw [← hres.out, drop_cons hlt2, hc]; exact (textL_byte H34 HCTL.out H92 hfull).symm
                    have HST := Lib.hid hstep
                    have hfl : ((l.length : Int) == 1024) = false := by rw [beq_eq_false_iff_ne]; omega
                    have hll2 : l.length + 1 ≤ 1024 := by omega
                    clear hstep hfull
                    go_wp2_with fail
                    refine (Tryz.Builder_Len _ _ _ _ hbld).mono ?_
                    rw [Lib.byteCells_length]
                    rintro e w1 ⟨rfl, rfl⟩
                    go_wp2_with fail
                    refine (writeByte_any _ _ _ _ _ hbld (by rw [Lib.byteCells_length]; omega) hb.size).mono ?_
                    rintro e w2 ⟨rfl, hbld2, hb2⟩
                    go_wp2_with fail
                    go_roundw
                    case rel => exact ⟨(i + 1), l ++ [c], by omega, by omega, by go_num, Or.inr (by rw [← bytes_snoc]; exact hbld2), hb.trans hb2, by simp; omega, HST.out⟩
                    case measure => simp [intOf]; omega
    · obtain rfl : i = s.size := by omega
      have hR : R = .error (a0, 5) := by rw [← hres.out, drop_end (Nat.le_refl _), textL_end]
      have HRR := Lib.hid hR
      clear hR
      go_wp2_with fail
      refine (fault_any _ _ _).mono ?_
      rintro e w2 ⟨v, rfl, hft, hb2⟩
      go_wp2_with fail
      go_ret
      rw [HRES.out, HRR.out]
      exact ⟨⟨_, rfl, hft⟩, (hb.mono (Nat.le_of_lt hlt)).trans (hb2.mono (by have := hb.size; omega))⟩
end Go.Proofs.YtnhdedoobagbbaaGreatDoor
