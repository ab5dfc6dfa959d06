/- Gb: what is used of them. -/
import Derived.Test.YtkoghgnjjfnamaaGreatDoorGa
import Derived.Test.YtkoghgnjjfnamaaGreatDoorShelf
import Derived.Lib.Builder
import Derived.Lib.Walk
import Derived.IntWalk
import Derived.Laws.BitsAllLaws
namespace Go.Proofs.YtkoghgnjjfnamaaGreatDoor
set_option maxRecDepth 100000
set_option maxHeartbeats 2000000
open Go.RowKit Go.Shelf
theorem check_used (b : Nat) (w : World) (h0 : w.cell? ⟨b, 0, none⟩ = some (.pointer (some ⟨b, 0, none⟩))) :
 Calls Tryz.prog 77 #[.pointer (some ⟨b, 0, none⟩)] w fun e w' => e = .returned (.tuple #[]) ∧ w' = w := by
 obtain ⟨j, hj, _⟩ := Option.map_eq_some_iff.1 (show (Tryz.prog.info? 61).map (·.size) = some 2 by kernel_rfl); go_enter Tryz.func77, Tryz.ntmps77; go_wp2; rw [Lib.run_neq_ptr_same w _ Tryz.underlying58 hj]; go_wp2; go_end0; exact ⟨rfl, rfl⟩
theorem check_fresh (b : Nat) (w : World) (h0 : w.cell? ⟨b, 0, none⟩ = some (.pointer none)) (hsh : w.shape? b = some (61, 2)) (hfz : w.frozen? ⟨b, 0, none⟩ = false) :
 Calls Tryz.prog 77 #[.pointer (some ⟨b, 0, none⟩)] w fun e w' => e = .returned (.tuple #[]) ∧ w' = w.setCell ⟨b, 0, none⟩ (.pointer (some ⟨b, 0, none⟩)) := by
 obtain ⟨j, hj, hjs⟩ := Option.map_eq_some_iff.1 (show (Tryz.prog.info? 61).map (·.size) = some 2 by kernel_rfl); go_enter Tryz.func77, Tryz.ntmps77; go_wp2; rw [Lib.run_to_unsafe w ⟨b, 0, none⟩ Tryz.underlying58 Tryz.underlying151 hj (by rw [hjs]; decide) hsh (Nat.zero_lt_succ 1)]; simp only [Result.andThen]; rw [Oper.upon_value]; go_wp2; rw [run_callFunc_extern Tryz.func103 (by kernel_rfl) (by kernel_rfl) (by kernel_rfl) (e := Extern.AbiNoEscape.same) (by kernel_rfl)]; rw [Lib.run_noEscape]; simp only [Result.andThen]; rw [Oper.upon_value]; go_wp2; rw [Lib.run_from_unsafe w ⟨b, 0, none⟩ Tryz.underlying151 Tryz.underlying58 hj hsh (by kernel_rfl)]; simp only [Result.andThen]; rw [Oper.upon_value]; go_wp2; go_end0; exact ⟨rfl, rfl⟩
theorem check_any (B b : Nat) (bs : List Value) (w : World) (h : Lib.IsBuilder 61 5 B b bs w) :
 Calls Tryz.prog 77 #[.pointer (some ⟨b, 0, none⟩)] w fun e w' => e = .returned (.tuple #[]) ∧ (Lib.BuilderAt 61 5 B b (.pointer (some ⟨b, 0, none⟩)) bs w' ∧ Below B w w') := by
 rcases h with h | h
 · refine (check_fresh b w h.cell0 h.shape h.frozen0).mono ?_
   rintro e w' ⟨rfl, rfl⟩; exact ⟨rfl, h.used _, (Below.refl B w).setCell (p := ⟨b, 0, none⟩) h.1 _⟩
 · refine (check_used b w h.cell0).mono ?_
   rintro e w' ⟨rfl, rfl⟩; exact ⟨rfl, h, Below.refl B _⟩
theorem infoB1 : (Tryz.prog.info? 5).map (fun i => (i.zero, i.size, i.bytes)) = some (some (.int .u8 0), 1, 1) := by kernel_rfl
theorem writeByte_any (B b : Nat) (bs : List Value) (c : Int) (w : World) (h : Lib.IsBuilder 61 5 B b bs w) (hlen : bs.length + 1 ≤ 140737488355328) (hBw : B ≤ w.heap.size) :
 Calls Tryz.prog 56 #[.pointer (some ⟨b, 0, none⟩), .int .u8 c] w fun e w' => e = .returned .nilIface ∧ (Lib.BuilderAt 61 5 B b (.pointer (some ⟨b, 0, none⟩)) (bs ++ [.int .u8 c]) w' ∧ Below B w w') := by
 obtain ⟨i0, hi, hz0, hz1, hz2⟩ := info_parts infoB1; go_enter Tryz.func56, Tryz.ntmps56
 go_wp2_with fail; refine (check_any B b bs _ h).mono ?_; rintro e w1 ⟨rfl, h1, hb1⟩; obtain ⟨hB, v, hbk, hown, hne⟩ := h1; have c0 : w1.cell? ⟨b, 0, none⟩ = some (.pointer (some ⟨b, 0, none⟩)) := by rw [Lib.cell_of_heap hbk]; rfl
 have c1 : w1.cell? ⟨b, 1, none⟩ = some v := by rw [Lib.cell_of_heap hbk]; rfl
 have HBK := Lib.hid hbk; clear hbk
 go_wp2_with (at_builtin; refine wpList_append_own _ rfl _ _ 59 rfl B 5 i0 (.int .u8 0) 1 1 Tryz.underlying59 hi hz0 hz1 hz2 rfl (by decide) _ _ _ rfl (hown.alloc _) ⟨w1.heap.size, 0, none⟩ 1 1 [.int .u8 c] rfl rfl ?c1 ?c2 ?c3 ?c4 ?c5 ?_)
 case c1 =>
  intro j u hj; match j, hj with
  | 0, hj => simp at hj; subst hj; simp [Addr.add]
 case c2 => intro u hu; simp at hu; subst hu; rfl
 case c3 => unfold maxLen; omega
 case c4 => omega
 case c5 => have := hb1.size; simp; omega
 intro v' w2 hown' hgrow _; have hlt : b < w1.heap.size := block_lt HBK.out; have hb2 : w2.heap[b]? = some (.cells #[.pointer (some ⟨b, 0, none⟩), v] 61 (0, 0)) := by
  rw [hgrow.block b (by simp; omega) (fun e => hne e.symm), Lib.alloc_old w1 _ b hlt]; exact HBK.out
 have d0 : w2.cell? ⟨b, 0, none⟩ = some (.pointer (some ⟨b, 0, none⟩)) := by rw [Lib.cell_of_heap hb2]; rfl
 have d1 : w2.cell? ⟨b, 1, none⟩ = some v := by rw [Lib.cell_of_heap hb2]; rfl
 have f1 : w2.frozen? ⟨b, 1, none⟩ = false := Lib.frozen_of_heap hb2 1; obtain ⟨g, cap, rfl⟩ : ∃ g cap, v' = .slice (some ⟨g, 0, none⟩) (bs.length + 1) cap := by
  rcases hown'.2 with ⟨_, h0⟩ | ⟨g, cap, cur, hv, _⟩
  · omega
  · exact ⟨g, cap, hv⟩
 have HB2 := Lib.hid hb2; clear hb2; go_wp2; go_ret; refine ⟨rfl, ?_, ?_⟩
 · exact Lib.BuilderAt.put (T := 61) (e := 5) hB HB2.out (bs' := bs ++ [.int .u8 c]) (by simpa using hown') (by decide)
 · exact ((hb1.alloc (by have := hb1.size; omega) _).grown hgrow (by have := hb1.size; simp; omega) (fun k hk => (hown.lt k hk).1)).setCell (p := ⟨b, 1, none⟩) hB _
end Go.Proofs.YtkoghgnjjfnamaaGreatDoor
namespace Go.Proofs.YtkoghgnjjfnamaaGreatDoor
set_option maxRecDepth 100000
set_option maxHeartbeats 2000000
open Go.RowKit
def escB (d : UInt8) : Option UInt8 := if d == 110 then some 10 else if d == 116 then some 9 else if d == 34 then some 34 else if d == 92 then some 92 else none
def ctlB (c : UInt8) : Bool := (c < 32 && c != 9 && c != 10) || c == 127
def textL (a0 : Nat) : List UInt8 → Nat → List UInt8 → Except (Nat × Int) (List UInt8 × Nat)
 | [], _, _ => .error (a0, 5)
 | [c], i, l => if c == 34 then .ok (l, i + 1) else if ctlB c then .error (i, 3) else if c == 92 then .error (i, 3) else .error (a0, 5)
 | c :: d :: r, i, l =>
   if c == 34 then .ok (l, i + 1) else if ctlB c then .error (i, 3) else if c == 92 then
    match escB d with
    | none => .error (i, 3)
    | some x => if l.length == 1024 then .error (a0, 5) else textL a0 r (i + 2) (l ++ [x])
   else if l.length == 1024 then .error (a0, 5) else textL a0 (d :: r) (i + 1) (l ++ [c])
theorem textL_end (a0 i : Nat) (l : List UInt8) : textL a0 [] i l = .error (a0, 5) := rfl
theorem textL_quote (a0 i : Nat) (r l : List UInt8) : textL a0 (34 :: r) i l = .ok (l, i + 1) := by cases r <;> rfl
theorem textL_ctl {a0 i : Nat} {c : UInt8} {r l : List UInt8} (h1 : (c == 34) = false) (h2 : ctlB c = true) : textL a0 (c :: r) i l = .error (i, 3) := by cases r <;> simp [textL, h1, h2]
theorem textL_esc_end {a0 i : Nat} {l : List UInt8} : textL a0 [92] i l = .error (i, 3) := rfl
theorem textL_esc_none {a0 i : Nat} {d : UInt8} {r l : List UInt8} (h : escB d = none) : textL a0 (92 :: d :: r) i l = .error (i, 3) := by
 rw [textL]; simp [h, ctlB]
theorem textL_esc_full {a0 i : Nat} {d x : UInt8} {r l : List UInt8} (h : escB d = some x) (hl : l.length = 1024) : textL a0 (92 :: d :: r) i l = .error (a0, 5) := by
 rw [textL]; simp [h, ctlB, hl]
theorem textL_esc {a0 i : Nat} {d x : UInt8} {r l : List UInt8} (h : escB d = some x) (hl : l.length ≠ 1024) : textL a0 (92 :: d :: r) i l = textL a0 r (i + 2) (l ++ [x]) := by
 rw [textL]; simp [h, ctlB, hl]
theorem textL_full {a0 i : Nat} {c : UInt8} {r l : List UInt8} (h1 : (c == 34) = false) (h2 : ctlB c = false) (h3 : (c == 92) = false) (hl : l.length = 1024) : textL a0 (c :: r) i l = .error (a0, 5) := by
 cases r <;> simp [textL, h1, h2, h3, hl]
theorem textL_byte {a0 i : Nat} {c : UInt8} {r l : List UInt8} (h1 : (c == 34) = false) (h2 : ctlB c = false) (h3 : (c == 92) = false) (hl : l.length ≠ 1024) : textL a0 (c :: r) i l = textL a0 r (i + 1) (l ++ [c]) := by
 cases r <;> simp [textL, h1, h2, h3, hl]
theorem drop_cons {s : ByteArray} {i : Nat} (h : i < s.size) : s.data.toList.drop i = s[i] :: s.data.toList.drop (i + 1) := by
 have hl : s.data.toList.length = s.size := Array.length_toList; rw [List.drop_eq_getElem_cons (by omega)]; rfl
theorem drop_end {s : ByteArray} {i : Nat} (h : s.size ≤ i) : s.data.toList.drop i = [] := by
 have hl : s.data.toList.length = s.size := Array.length_toList; exact List.drop_eq_nil_of_le (by omega)
def TokPost (g : Nat) (s : ByteArray) (ts : List Tok) (w : World) (res : Except (Nat × Int) (Tok × Nat)) (e : Ending) (w' : World) : Prop :=
 match res with
 | .ok (t, j) => e = .returned (.pointer none) ∧ (∃ out', RD w' g s j out' ∧ w'.ownsRow (g + 1) 54 5 out' (ts ++ [t]).length (flatT (ts ++ [t]))) ∧ Below g w w'
 | .error (p, er) => (∃ v, e = .returned v ∧ FT w' v p er) ∧ Below g w w'
def textP (s : ByteArray) (a0 : Nat) : Except (Nat × Int) (Tok × Nat) :=
 match textL a0 (s.data.toList.drop (a0 + 1)) (a0 + 1) [] with
 | .ok (l, j) => .ok (⟨4, ⟨l.toArray⟩, 0, 0, a0⟩, j)
 | .error x => .error x
theorem bytes_snoc (l : List UInt8) (c : UInt8) : Lib.byteCells l ++ [Value.int .u8 c.toNat] = Lib.byteCells (l ++ [c]) := by rw [Lib.byteCells_append]; rfl
theorem ne_nat {c : UInt8} {d : UInt8} {n : Int} (h : c ≠ d) (hd : (d.toNat : Int) = n) : ((c.toNat : Int) == n) = false := by
 rw [← hd, beq_eq_false_iff_ne]; intro e; exact h (UInt8.toNat_inj.1 (by omega))
theorem ne_nat' {c : UInt8} {d : UInt8} {n : Int} (h : c ≠ d) (hd : (d.toNat : Int) = n) : ((c.toNat : Int) != n) = true := by
 rw [bne, ne_nat h hd]; rfl
theorem put_at {g at' z : Nat} {s : ByteArray} {out : Value} {ts : List Tok} {w : World} {zi : Int} (t : Tok) (p : Int) (hr : RD w g s at' out) (hown : w.ownsRow (g + 1) 54 5 out ts.length (flatT ts)) (hn : ts.length ≤ 100000) (hp : t.place = at') (hz : (z : Int) = zi) :
 Calls Tryz.prog 30 #[.pointer (some ⟨g, 0, none⟩), .int .i64 zi, .agg #[.int .i64 t.kind, .string t.text, .int .i64 t.num, .float .f64 t.bits, .int .i64 p]] w fun e w' =>
  e = .returned (.tuple #[]) ∧ ∃ out', RD w' g s z out' ∧ w'.ownsRow (g + 1) 54 5 out' (ts ++ [t]).length (flatT (ts ++ [t])) ∧ Below g w w' := by
 subst hz; exact put_any z t p hr hown hn hp
theorem text_any {g a0 : Nat} {s : ByteArray} {out : Value} {ts : List Tok} {w : World} (hr : RD w g s a0 out) (hown : w.ownsRow (g + 1) 54 5 out ts.length (flatT ts)) (ha : a0 < s.size) (hs : s.size ≤ 4096) (hn : ts.length ≤ 5000) :
 Calls Tryz.prog 32 #[.pointer (some ⟨g, 0, none⟩)] w fun e w' => TokPost g s ts w (textP s a0) e w' := by
 have hlt := hr.lt; have c1 := hr.c1; have HRES := Lib.hid (show textP s a0 = (match textL a0 (s.data.toList.drop (a0 + 1)) (a0 + 1) [] with | .ok (l, j) => .ok (⟨4, ⟨l.toArray⟩, 0, 0, a0⟩, j) | .error x => .error x) from rfl); generalize textP s a0 = res at *; obtain ⟨R, hR⟩ : ∃ R, textL a0 (s.data.toList.drop (a0 + 1)) (a0 + 1) [] = R := ⟨_, rfl⟩; rw [hR] at HRES; have HR0 := Lib.hid hR; clear hR; have HRD := Lib.hid hr; have HOWN := Lib.hid hown; clear hr hown; go_enter Tryz.func32, Tryz.ntmps32
 go_wp2_with fail; go_loopw [4] (fun iv wr => ∃ (i : Nat) (l : List UInt8), a0 < i ∧ i ≤ s.size ∧ iv = .int .i64 i ∧ Lib.IsBuilder 61 5 w.heap.size w.heap.size (Lib.byteCells l) wr ∧ Below w.heap.size w wr ∧ l.length ≤ 1024 ∧ Hid (textL a0 (s.data.toList.drop i) i l = R)) (fun iv _ => s.size - (intOf iv).toNat)
 case atStart => exact ⟨a0 + 1, [], by omega, by omega, by go_num, Or.inl ⟨Nat.le_refl _, _, block_new _ _ rfl, World.ownsRow_nil _ _ _ _, by simp [Value.ownBlock]⟩, (by (repeat' first | (with_reducible first | exact Below.refl _ _ | assumption | refine below_drewN ?_ _ | refine Below.drew ?_ | refine Below.alloc ?_ ?_ _ | refine Below.setCell ?_ ?_ _) | omega | (simp; done) | (simp; omega))), by simp, HR0.out⟩
 case round =>
  obtain ⟨i, l, hi1, hi2, rfl, hbld, hb, hll, hres⟩ := hrel; have hrd := HRD.out.below' hb hlt; have q0 := hrd.c0; have q1 := hrd.c1; have hownr := own_below HOWN.out hb; by_cases hlt2 : i < s.size
  · obtain ⟨c, hc⟩ : ∃ c, s[i] = c := ⟨_, rfl⟩
    have hzb := hb.size; by_cases h34 : c = 34
    · subst h34
      have hR : R = .ok (l, i + 1) := by rw [← hres.out, drop_cons hlt2, hc, textL_quote]
      have HRR := Lib.hid hR; clear hR
      go_wp2_with fail; refine (Tryz.Builder_String_any _ _ _ _ hbld hb.size).mono ?_; rintro e w2 ⟨rfl, hb2⟩; have hrd2 := hrd.below' hb2 hlt; have hown2 := own_below HOWN.out (hb.trans hb2)
      go_wp2_with fail; refine (put_at (z := i + 1) (⟨4, ⟨l.toArray⟩, 0, 0, a0⟩ : Tok) _ hrd2 hown2 (by omega) rfl (by omega)).mono ?_; rintro e w3 ⟨rfl, out3, hrd3, hown3, hb3⟩
      go_wp2_with fail; go_ret; rw [HRES.out, HRR.out]; exact ⟨rfl, ⟨_, hrd3, hown3⟩, ((hb.trans hb2).mono (Nat.le_of_lt hlt)).trans hb3⟩
    · have H34 : (c == 34) = false := by simpa using h34
      by_cases h127 : c = 127
      · subst h127
        have hR : R = .error (i, 3) := by rw [← hres.out, drop_cons hlt2, hc]; exact textL_ctl H34 rfl
        have HRR := Lib.hid hR; clear hR
        go_wp2_with fail; refine (fault_any _ _ _).mono ?_; rintro e w2 ⟨v, rfl, hft, hb2⟩
        go_wp2_with fail; go_ret; rw [HRES.out, HRR.out]; exact ⟨⟨_, rfl, hft⟩, (hb.mono (Nat.le_of_lt hlt)).trans (hb2.mono (by have := hb.size; omega))⟩
      · by_cases h9 : c = 9
        · subst h9
          by_cases hfull : l.length = 1024
          · have hR : R = .error (a0, 5) := by rw [← hres.out, drop_cons hlt2, hc]; exact textL_full H34 rfl rfl hfull
            have HRR := Lib.hid hR; have hfl : ((l.length : Int) == 1024) = true := by rw [beq_iff_eq]; omega
            clear hR hfull
            go_wp2_with fail; refine (Tryz.Builder_Len _ _ _ _ hbld).mono ?_; rw [Lib.byteCells_length]; rintro e w1 ⟨rfl, rfl⟩; have q1 := hrd.c1
            go_wp2_with fail; refine (fault_any _ _ _).mono ?_; rintro e w2 ⟨v, rfl, hft, hb2⟩
            go_wp2_with fail; go_ret; rw [HRES.out, HRR.out]; exact ⟨⟨_, rfl, hft⟩, (hb.mono (Nat.le_of_lt hlt)).trans (hb2.mono (by have := hb.size; omega))⟩
          · have hstep : textL a0 (s.data.toList.drop (i + 1)) (i + 1) (l ++ [9]) = R := by rw [← hres.out, drop_cons hlt2, hc]; exact (textL_byte H34 rfl rfl hfull).symm
            have HST := Lib.hid hstep; have hfl : ((l.length : Int) == 1024) = false := by rw [beq_eq_false_iff_ne]; omega
            have hll2 : l.length + 1 ≤ 1024 := by omega
            clear hstep hfull
            go_wp2_with fail; refine (Tryz.Builder_Len _ _ _ _ hbld).mono ?_; rw [Lib.byteCells_length]; rintro e w1 ⟨rfl, rfl⟩
            go_wp2_with fail; refine (writeByte_any _ _ _ _ _ hbld (by rw [Lib.byteCells_length]; omega) hb.size).mono ?_; rintro e w2 ⟨rfl, hbld2, hb2⟩
            go_wp2_with fail; go_roundw
            case rel => exact ⟨(i + 1), l ++ [9], by omega, by omega, by go_num, Or.inr (by rw [← bytes_snoc]; exact hbld2), hb.trans hb2, by simp; omega, HST.out⟩
            case measure => simp [intOf]; omega
        · by_cases h10 : c = 10
          · subst h10
            by_cases hfull : l.length = 1024
            · have hR : R = .error (a0, 5) := by rw [← hres.out, drop_cons hlt2, hc]; exact textL_full H34 rfl rfl hfull
              have HRR := Lib.hid hR; have hfl : ((l.length : Int) == 1024) = true := by rw [beq_iff_eq]; omega
              clear hR hfull
              go_wp2_with fail; refine (Tryz.Builder_Len _ _ _ _ hbld).mono ?_; rw [Lib.byteCells_length]; rintro e w1 ⟨rfl, rfl⟩; have q1 := hrd.c1
              go_wp2_with fail; refine (fault_any _ _ _).mono ?_; rintro e w2 ⟨v, rfl, hft, hb2⟩
              go_wp2_with fail; go_ret; rw [HRES.out, HRR.out]; exact ⟨⟨_, rfl, hft⟩, (hb.mono (Nat.le_of_lt hlt)).trans (hb2.mono (by have := hb.size; omega))⟩
            · have hstep : textL a0 (s.data.toList.drop (i + 1)) (i + 1) (l ++ [10]) = R := by rw [← hres.out, drop_cons hlt2, hc]; exact (textL_byte H34 rfl rfl hfull).symm
              have HST := Lib.hid hstep; have hfl : ((l.length : Int) == 1024) = false := by rw [beq_eq_false_iff_ne]; omega
              have hll2 : l.length + 1 ≤ 1024 := by omega
              clear hstep hfull
              go_wp2_with fail; refine (Tryz.Builder_Len _ _ _ _ hbld).mono ?_; rw [Lib.byteCells_length]; rintro e w1 ⟨rfl, rfl⟩
              go_wp2_with fail; refine (writeByte_any _ _ _ _ _ hbld (by rw [Lib.byteCells_length]; omega) hb.size).mono ?_; rintro e w2 ⟨rfl, hbld2, hb2⟩
              go_wp2_with fail; go_roundw
              case rel => exact ⟨(i + 1), l ++ [10], by omega, by omega, by go_num, Or.inr (by rw [← bytes_snoc]; exact hbld2), hb.trans hb2, by simp; omega, HST.out⟩
              case measure => simp [intOf]; omega
          · by_cases h92 : c = 92
            · subst h92
              by_cases hi3 : i + 1 < s.size
              · obtain ⟨d, hd⟩ : ∃ d, s[i + 1] = d := ⟨_, rfl⟩
                have hdr : s.data.toList.drop (i + 1) = d :: s.data.toList.drop (i + 2) := by rw [drop_cons hi3, hd]
                have HDR := Lib.hid hdr; clear hdr; by_cases d110 : d = 110
                · subst d110
                  by_cases hfull : l.length = 1024
                  · have hR : R = .error (a0, 5) := by rw [← hres.out, drop_cons hlt2, hc, HDR.out]; exact textL_esc_full rfl hfull
                    have HRR := Lib.hid hR; have hfl : ((l.length : Int) == 1024) = true := by rw [beq_iff_eq]; omega
                    clear hR hfull
                    go_wp2_with fail; refine (Tryz.strings_IndexByte _ _ _).mono ?_; rw [show Lib.indexByte _ _ = (0 : Int) from by decide +kernel]; rintro e w1 ⟨rfl, rfl⟩
                    go_wp2_with fail; refine (Tryz.Builder_Len _ _ _ _ hbld).mono ?_; rw [Lib.byteCells_length]; rintro e w1 ⟨rfl, rfl⟩; have q1 := hrd.c1
                    go_wp2_with fail; refine (fault_any _ _ _).mono ?_; rintro e w2 ⟨v, rfl, hft, hb2⟩
                    go_wp2_with fail; go_ret; rw [HRES.out, HRR.out]; exact ⟨⟨_, rfl, hft⟩, (hb.mono (Nat.le_of_lt hlt)).trans (hb2.mono (by have := hb.size; omega))⟩
                  · have hstep : textL a0 (s.data.toList.drop (i + 2)) (i + 2) (l ++ [10]) = R := by rw [← hres.out, drop_cons hlt2, hc, HDR.out]; exact (textL_esc rfl hfull).symm
                    have HST := Lib.hid hstep; have hfl : ((l.length : Int) == 1024) = false := by rw [beq_eq_false_iff_ne]; omega
                    have hll2 : l.length + 1 ≤ 1024 := by omega
                    clear hstep hfull
                    go_wp2_with fail; refine (Tryz.strings_IndexByte _ _ _).mono ?_; rw [show Lib.indexByte _ _ = (0 : Int) from by decide +kernel]; rintro e w1 ⟨rfl, rfl⟩
                    go_wp2_with fail; refine (Tryz.Builder_Len _ _ _ _ hbld).mono ?_; rw [Lib.byteCells_length]; rintro e w1 ⟨rfl, rfl⟩
                    go_wp2_with fail; refine (writeByte_any _ _ _ _ _ hbld (by rw [Lib.byteCells_length]; omega) hb.size).mono ?_; rintro e w2 ⟨rfl, hbld2, hb2⟩
                    go_wp2_with fail; go_roundw
                    case rel => exact ⟨i + 2, l ++ [10], by omega, by omega, by go_num, Or.inr (by rw [← bytes_snoc]; exact hbld2), hb.trans hb2, by simp; omega, HST.out⟩
                    case measure => simp [intOf]; omega
                · by_cases d116 : d = 116
                  · subst d116
                    by_cases hfull : l.length = 1024
                    · have hR : R = .error (a0, 5) := by rw [← hres.out, drop_cons hlt2, hc, HDR.out]; exact textL_esc_full rfl hfull
                      have HRR := Lib.hid hR; have hfl : ((l.length : Int) == 1024) = true := by rw [beq_iff_eq]; omega
                      clear hR hfull
                      go_wp2_with fail; refine (Tryz.strings_IndexByte _ _ _).mono ?_; rw [show Lib.indexByte _ _ = (1 : Int) from by decide +kernel]; rintro e w1 ⟨rfl, rfl⟩
                      go_wp2_with fail; refine (Tryz.Builder_Len _ _ _ _ hbld).mono ?_; rw [Lib.byteCells_length]; rintro e w1 ⟨rfl, rfl⟩; have q1 := hrd.c1
                      go_wp2_with fail; refine (fault_any _ _ _).mono ?_; rintro e w2 ⟨v, rfl, hft, hb2⟩
                      go_wp2_with fail; go_ret; rw [HRES.out, HRR.out]; exact ⟨⟨_, rfl, hft⟩, (hb.mono (Nat.le_of_lt hlt)).trans (hb2.mono (by have := hb.size; omega))⟩
                    · have hstep : textL a0 (s.data.toList.drop (i + 2)) (i + 2) (l ++ [9]) = R := by rw [← hres.out, drop_cons hlt2, hc, HDR.out]; exact (textL_esc rfl hfull).symm
                      have HST := Lib.hid hstep; have hfl : ((l.length : Int) == 1024) = false := by rw [beq_eq_false_iff_ne]; omega
                      have hll2 : l.length + 1 ≤ 1024 := by omega
                      clear hstep hfull
                      go_wp2_with fail; refine (Tryz.strings_IndexByte _ _ _).mono ?_; rw [show Lib.indexByte _ _ = (1 : Int) from by decide +kernel]; rintro e w1 ⟨rfl, rfl⟩
                      go_wp2_with fail; refine (Tryz.Builder_Len _ _ _ _ hbld).mono ?_; rw [Lib.byteCells_length]; rintro e w1 ⟨rfl, rfl⟩
                      go_wp2_with fail; refine (writeByte_any _ _ _ _ _ hbld (by rw [Lib.byteCells_length]; omega) hb.size).mono ?_; rintro e w2 ⟨rfl, hbld2, hb2⟩
                      go_wp2_with fail; go_roundw
                      case rel => exact ⟨i + 2, l ++ [9], by omega, by omega, by go_num, Or.inr (by rw [← bytes_snoc]; exact hbld2), hb.trans hb2, by simp; omega, HST.out⟩
                      case measure => simp [intOf]; omega
                  · by_cases d34 : d = 34
                    · subst d34
                      by_cases hfull : l.length = 1024
                      · have hR : R = .error (a0, 5) := by rw [← hres.out, drop_cons hlt2, hc, HDR.out]; exact textL_esc_full rfl hfull
                        have HRR := Lib.hid hR; have hfl : ((l.length : Int) == 1024) = true := by rw [beq_iff_eq]; omega
                        clear hR hfull
                        go_wp2_with fail; refine (Tryz.strings_IndexByte _ _ _).mono ?_; rw [show Lib.indexByte _ _ = (2 : Int) from by decide +kernel]; rintro e w1 ⟨rfl, rfl⟩
                        go_wp2_with fail; refine (Tryz.Builder_Len _ _ _ _ hbld).mono ?_; rw [Lib.byteCells_length]; rintro e w1 ⟨rfl, rfl⟩; have q1 := hrd.c1
                        go_wp2_with fail; refine (fault_any _ _ _).mono ?_; rintro e w2 ⟨v, rfl, hft, hb2⟩
                        go_wp2_with fail; go_ret; rw [HRES.out, HRR.out]; exact ⟨⟨_, rfl, hft⟩, (hb.mono (Nat.le_of_lt hlt)).trans (hb2.mono (by have := hb.size; omega))⟩
                      · have hstep : textL a0 (s.data.toList.drop (i + 2)) (i + 2) (l ++ [34]) = R := by rw [← hres.out, drop_cons hlt2, hc, HDR.out]; exact (textL_esc rfl hfull).symm
                        have HST := Lib.hid hstep; have hfl : ((l.length : Int) == 1024) = false := by rw [beq_eq_false_iff_ne]; omega
                        have hll2 : l.length + 1 ≤ 1024 := by omega
                        clear hstep hfull
                        go_wp2_with fail; refine (Tryz.strings_IndexByte _ _ _).mono ?_; rw [show Lib.indexByte _ _ = (2 : Int) from by decide +kernel]; rintro e w1 ⟨rfl, rfl⟩
                        go_wp2_with fail; refine (Tryz.Builder_Len _ _ _ _ hbld).mono ?_; rw [Lib.byteCells_length]; rintro e w1 ⟨rfl, rfl⟩
                        go_wp2_with fail; refine (writeByte_any _ _ _ _ _ hbld (by rw [Lib.byteCells_length]; omega) hb.size).mono ?_; rintro e w2 ⟨rfl, hbld2, hb2⟩
                        go_wp2_with fail; go_roundw
                        case rel => exact ⟨i + 2, l ++ [34], by omega, by omega, by go_num, Or.inr (by rw [← bytes_snoc]; exact hbld2), hb.trans hb2, by simp; omega, HST.out⟩
                        case measure => simp [intOf]; omega
                    · by_cases d92 : d = 92
                      · subst d92
                        by_cases hfull : l.length = 1024
                        · have hR : R = .error (a0, 5) := by rw [← hres.out, drop_cons hlt2, hc, HDR.out]; exact textL_esc_full rfl hfull
                          have HRR := Lib.hid hR; have hfl : ((l.length : Int) == 1024) = true := by rw [beq_iff_eq]; omega
                          clear hR hfull
                          go_wp2_with fail; refine (Tryz.strings_IndexByte _ _ _).mono ?_; rw [show Lib.indexByte _ _ = (3 : Int) from by decide +kernel]; rintro e w1 ⟨rfl, rfl⟩
                          go_wp2_with fail; refine (Tryz.Builder_Len _ _ _ _ hbld).mono ?_; rw [Lib.byteCells_length]; rintro e w1 ⟨rfl, rfl⟩; have q1 := hrd.c1
                          go_wp2_with fail; refine (fault_any _ _ _).mono ?_; rintro e w2 ⟨v, rfl, hft, hb2⟩
                          go_wp2_with fail; go_ret; rw [HRES.out, HRR.out]; exact ⟨⟨_, rfl, hft⟩, (hb.mono (Nat.le_of_lt hlt)).trans (hb2.mono (by have := hb.size; omega))⟩
                        · have hstep : textL a0 (s.data.toList.drop (i + 2)) (i + 2) (l ++ [92]) = R := by rw [← hres.out, drop_cons hlt2, hc, HDR.out]; exact (textL_esc rfl hfull).symm
                          have HST := Lib.hid hstep; have hfl : ((l.length : Int) == 1024) = false := by rw [beq_eq_false_iff_ne]; omega
                          have hll2 : l.length + 1 ≤ 1024 := by omega
                          clear hstep hfull
                          go_wp2_with fail; refine (Tryz.strings_IndexByte _ _ _).mono ?_; rw [show Lib.indexByte _ _ = (3 : Int) from by decide +kernel]; rintro e w1 ⟨rfl, rfl⟩
                          go_wp2_with fail; refine (Tryz.Builder_Len _ _ _ _ hbld).mono ?_; rw [Lib.byteCells_length]; rintro e w1 ⟨rfl, rfl⟩
                          go_wp2_with fail; refine (writeByte_any _ _ _ _ _ hbld (by rw [Lib.byteCells_length]; omega) hb.size).mono ?_; rintro e w2 ⟨rfl, hbld2, hb2⟩
                          go_wp2_with fail; go_roundw
                          case rel => exact ⟨i + 2, l ++ [92], by omega, by omega, by go_num, Or.inr (by rw [← bytes_snoc]; exact hbld2), hb.trans hb2, by simp; omega, HST.out⟩
                          case measure => simp [intOf]; omega
                      · have hE : escB d = none := by simp [escB, d110, d116, d34, d92]
                        have hix : Lib.indexByte (⟨#[110, 116, 34, 92]⟩ : ByteArray).data.toList d = -1 := by simp [Lib.indexByte, Ne.symm d110, Ne.symm d116, Ne.symm d34, Ne.symm d92]
                        have hR : R = .error (i, 3) := by rw [← hres.out, drop_cons hlt2, hc, HDR.out]; exact textL_esc_none hE
                        have HRR := Lib.hid hR; have HIX := Lib.hid hix; clear hR hE hix d110 d116 d34 d92
                        go_wp2_with fail; refine (Tryz.strings_IndexByte _ _ _).mono ?_; rw [show ((d.toNat : Int).toNat.toUInt8) = d by simp, HIX.out]; rintro e w1 ⟨rfl, rfl⟩
                        go_wp2_with fail; refine (fault_any _ _ _).mono ?_; rintro e w2 ⟨v, rfl, hft, hb2⟩
                        go_wp2_with fail; go_ret; rw [HRES.out, HRR.out]; exact ⟨⟨_, rfl, hft⟩, (hb.mono (Nat.le_of_lt hlt)).trans (hb2.mono (by have := hb.size; omega))⟩
              · have hR : R = .error (i, 3) := by rw [← hres.out, drop_cons hlt2, hc, drop_end (by omega)]; exact textL_esc_end
                have HRR := Lib.hid hR; clear hR
                go_wp2_with fail; refine (fault_any _ _ _).mono ?_; rintro e w2 ⟨v, rfl, hft, hb2⟩
                go_wp2_with fail; go_ret; rw [HRES.out, HRR.out]; exact ⟨⟨_, rfl, hft⟩, (hb.mono (Nat.le_of_lt hlt)).trans (hb2.mono (by have := hb.size; omega))⟩
            · have n34 := ne_nat (n := 34) h34 (by decide)
              have n127 := ne_nat (n := 127) h127 (by decide); have n9 := ne_nat' (n := 9) h9 (by decide); have n10 := ne_nat' (n := 10) h10 (by decide); have n92 := ne_nat (n := 92) h92 (by decide); have H92 : (c == 92) = false := by simpa using h92
              by_cases h32 : c < 32
              · have hctl : ctlB c = true := by simp [ctlB, h32, h9, h10]
                have n32 : decide ((c.toNat : Int) < 32) = true := by have := UInt8.lt_iff_toNat_lt.1 h32; simp at this ⊢; omega
                have HCTL := Lib.hid hctl; clear h34 h127 h9 h10 h92 h32 hctl; have hR : R = .error (i, 3) := by rw [← hres.out, drop_cons hlt2, hc]; exact textL_ctl H34 HCTL.out
                have HRR := Lib.hid hR; clear hR
                go_wp2_with fail; refine (fault_any _ _ _).mono ?_; rintro e w2 ⟨v, rfl, hft, hb2⟩
                go_wp2_with fail; go_ret; rw [HRES.out, HRR.out]; exact ⟨⟨_, rfl, hft⟩, (hb.mono (Nat.le_of_lt hlt)).trans (hb2.mono (by have := hb.size; omega))⟩
              · have hctl : ctlB c = false := by simp [ctlB, h32, h127]
                have n32 : decide ((c.toNat : Int) < 32) = false := by have : ¬ c.toNat < (32 : UInt8).toNat := fun h => h32 (UInt8.lt_iff_toNat_lt.2 h); simp at this ⊢; omega
                have HCTL := Lib.hid hctl; clear h34 h127 h9 h10 h92 h32 hctl; by_cases hfull : l.length = 1024
                · have hR : R = .error (a0, 5) := by rw [← hres.out, drop_cons hlt2, hc]; exact textL_full H34 HCTL.out H92 hfull
                  have HRR := Lib.hid hR; have hfl : ((l.length : Int) == 1024) = true := by rw [beq_iff_eq]; omega
                  clear hR hfull
                  go_wp2_with fail; refine (Tryz.Builder_Len _ _ _ _ hbld).mono ?_; rw [Lib.byteCells_length]; rintro e w1 ⟨rfl, rfl⟩; have q1 := hrd.c1
                  go_wp2_with fail; refine (fault_any _ _ _).mono ?_; rintro e w2 ⟨v, rfl, hft, hb2⟩
                  go_wp2_with fail; go_ret; rw [HRES.out, HRR.out]; exact ⟨⟨_, rfl, hft⟩, (hb.mono (Nat.le_of_lt hlt)).trans (hb2.mono (by have := hb.size; omega))⟩
                · have hstep : textL a0 (s.data.toList.drop (i + 1)) (i + 1) (l ++ [c]) = R := by rw [← hres.out, drop_cons hlt2, hc]; exact (textL_byte H34 HCTL.out H92 hfull).symm
                  have HST := Lib.hid hstep; have hfl : ((l.length : Int) == 1024) = false := by rw [beq_eq_false_iff_ne]; omega
                  have hll2 : l.length + 1 ≤ 1024 := by omega
                  clear hstep hfull
                  go_wp2_with fail; refine (Tryz.Builder_Len _ _ _ _ hbld).mono ?_; rw [Lib.byteCells_length]; rintro e w1 ⟨rfl, rfl⟩
                  go_wp2_with fail; refine (writeByte_any _ _ _ _ _ hbld (by rw [Lib.byteCells_length]; omega) hb.size).mono ?_; rintro e w2 ⟨rfl, hbld2, hb2⟩
                  go_wp2_with fail; go_roundw
                  case rel => exact ⟨(i + 1), l ++ [c], by omega, by omega, by go_num, Or.inr (by rw [← bytes_snoc]; exact hbld2), hb.trans hb2, by simp; omega, HST.out⟩
                  case measure => simp [intOf]; omega
  · obtain rfl : i = s.size := by omega
    have hR : R = .error (a0, 5) := by rw [← hres.out, drop_end (Nat.le_refl _), textL_end]
    have HRR := Lib.hid hR; clear hR
    go_wp2_with fail; refine (fault_any _ _ _).mono ?_; rintro e w2 ⟨v, rfl, hft, hb2⟩
    go_wp2_with fail; go_ret; rw [HRES.out, HRR.out]; exact ⟨⟨_, rfl, hft⟩, (hb.mono (Nat.le_of_lt hlt)).trans (hb2.mono (by have := hb.size; omega))⟩
end Go.Proofs.YtkoghgnjjfnamaaGreatDoor
namespace Go.Proofs.YtkoghgnjjfnamaaGreatDoor
set_option maxRecDepth 100000
set_option maxHeartbeats 2000000
open Go.RowKit
def sg : Nat → ByteArray
 | 0 => ⟨#[43, 43]⟩ | 1 => ⟨#[47, 47]⟩ | 2 => ⟨#[61, 61]⟩ | 3 => ⟨#[33, 61]⟩ | 4 => ⟨#[60, 61]⟩ | 5 => ⟨#[62, 61]⟩ | 6 => ⟨#[38, 38]⟩ | _ => ⟨#[124, 124]⟩
def signs1 : List UInt8 := [123, 125, 91, 93, 40, 41, 61, 59, 46, 58, 63, 33, 60, 62, 43, 45, 42, 47]
def isSg (l : List UInt8) (k : Nat) : Bool := Lib.hasPrefix l (sg k).data.toList
def signL (l : List UInt8) : Option ByteArray :=
 match (List.range 8).find? (isSg l) with
 | some k => some (sg k)
 | none => match l with
   | [] => none
   | c :: _ => if Lib.indexByte signs1 c < 0 then none else some ⟨#[c]⟩
def signP (s : ByteArray) (a0 : Nat) : Except (Nat × Int) (Tok × Nat) :=
 match signL (s.data.toList.drop a0) with
 | some b => .ok (⟨5, b, 0, 0, a0⟩, a0 + b.size)
 | none => .error (a0, 3)
theorem sg_size (k : Nat) : (sg k).size = 2 := by unfold sg; split <;> rfl
theorem signL_two {l : List UInt8} {k : Nat} (hk : k < 8) (h : isSg l k = true) (hb : ∀ j, j < k → isSg l j = false) : signL l = some (sg k) := by
 have : (List.range 8).find? (isSg l) = some k := by
  rw [List.find?_eq_some_iff_getElem]; refine ⟨h, k, by simpa using hk, by simp, fun j hj => ?_⟩; simp only [List.getElem_range]; rw [hb j hj]; rfl
 unfold signL; rw [this]
theorem signL_one {l r : List UInt8} {c : UInt8} (hl : l = c :: r) (hb : ∀ j, j < 8 → isSg l j = false) : signL l = if Lib.indexByte signs1 c < 0 then none else some ⟨#[c]⟩ := by
 have : (List.range 8).find? (isSg l) = none := by
  rw [List.find?_eq_none]; intro j hj; rw [hb j (by simpa using hj)]; simp
 unfold signL; rw [this, hl]
theorem extract_drop (s : ByteArray) (a : Nat) : (s.extract a s.size).data.toList = s.data.toList.drop a := by
 rw [Lib.extract_data]; have hl : s.data.toList.length = s.size := Array.length_toList; exact List.take_of_length_le (by simp only [List.length_drop]; omega)
theorem with_world {c : Code} {Q : Exit → Act → World → Prop} {a : Act} {w : World} (h : ∀ W : World, W = w → c.wp Tryz.prog Q a W) : c.wp Tryz.prog Q a w := h w rfl
theorem ba_ext {a b : ByteArray} (h : a.data.toList = b.data.toList) : a = b := by
 cases a; cases b; simp at h; simp [h]
theorem extract_one {s : ByteArray} {a : Nat} (h : a < s.size) : s.extract a (a + 1) = ⟨#[s[a]]⟩ := by
 apply ba_ext
 rw [Lib.extract_data, drop_cons h]; simp
theorem sign_index (k : Nat) (hk : k < 8) (W : World) : (Instr.index 107 (.agg #[.string ⟨#[43, 43]⟩, .string ⟨#[47, 47]⟩, .string ⟨#[61, 61]⟩, .string ⟨#[33, 61]⟩, .string ⟨#[60, 61]⟩, .string ⟨#[62, 61]⟩, .string ⟨#[38, 38]⟩, .string ⟨#[124, 124]⟩]) (.int .i64 (k : Int))).run Tryz.prog W = .ok (.string (sg k)) W := by
 rcases (by omega : k = 0 ∨ k = 1 ∨ k = 2 ∨ k = 3 ∨ k = 4 ∨ k = 5 ∨ k = 6 ∨ k = 7) with rfl | rfl | rfl | rfl | rfl | rfl | rfl | rfl <;> kernel_rfl
theorem sign_any {g a0 : Nat} {s : ByteArray} {out : Value} {ts : List Tok} {w : World} (hr : RD w g s a0 out) (hown : w.ownsRow (g + 1) 54 5 out ts.length (flatT ts)) (ha : a0 < s.size) (hs : s.size ≤ 4096) (hn : ts.length ≤ 5000) :
 Calls Tryz.prog 33 #[.pointer (some ⟨g, 0, none⟩)] w fun e w' => TokPost g s ts w (signP s a0) e w' := by
 have hlt := hr.lt; have c0 := hr.c0; have c1 := hr.c1; have HRES := Lib.hid (show signP s a0 = (match signL (s.data.toList.drop a0) with | some b => .ok (⟨5, b, 0, 0, a0⟩, a0 + b.size) | none => .error (a0, 3)) from rfl); generalize signP s a0 = res at *; have HRD := Lib.hid hr; have HOWN := Lib.hid hown; have ha0 : (a0 : Int) ≤ (s.size : Int) := by omega
 have ha1 : (0 : Int) ≤ (a0 : Int) := by omega
 have ha2 : (a0 : Int) < (s.size : Int) := by omega
 have ha3 : (a0 : Int) + 1 ≤ (s.size : Int) := by omega
 have ha4 : (a0 : Int) ≤ (a0 : Int) + 1 := by omega
 have ha5 : IntKind.i64.wrap ((a0 : Int) + 1) = (a0 : Int) + 1 := IntWalk.i64_in _ (by omega); have ha6 : ((a0 : Int) + 1).toNat = a0 + 1 := by omega
 clear hr hown; go_enter Tryz.func33, Tryz.ntmps33
 go_wp2_with fail; go_loopw [6] (fun iv wr => ∃ k nq : Nat, k ≤ 8 ∧ iv = .int .i64 k ∧ wr = w.drewN nq ∧ Hid (∀ j, j < k → isSg (s.data.toList.drop a0) j = false)) (fun iv _ => 8 - (intOf iv).toNat)
 case atStart => exact ⟨0, 0, by omega, rfl, rfl, fun _ hj => absurd hj (Nat.not_lt_zero _)⟩
 case round =>
  obtain ⟨k, nq, hk, rfl, rfl, hno⟩ := hrel; by_cases hlt2 : k < 8
  · have hidx := sign_index k hlt2
    have hcall : ∀ W, Calls Tryz.prog 57 #[.string (s.extract a0 s.size), .string (sg k)] W fun e w' => e = .returned (.bool (isSg (s.data.toList.drop a0) k)) ∧ W = w' := fun W =>
     (Tryz.strings_HasPrefix _ _ W).mono fun e w' ⟨h1, h2⟩ => ⟨by rw [h1, extract_drop]; rfl, h2.symm⟩
    cases hb : isSg (s.data.toList.drop a0) k
    · rw [hb] at hcall
      have HC := Lib.hid hcall; have HB := Lib.hid hb; clear hcall hb
      go_wp2_with fail; go_quiet ((go_at_call 57; exact quiet_al (HC.out _)))
      go_wp2_with fail; go_roundw
      case rel => exact ⟨k + 1, _, by omega, by go_num, rfl, fun j hj => by
       by_cases e : j = k
       · subst e; exact HB.out
       · exact hno.out j (by omega)⟩
      case measure => simp [intOf]; omega
    · rw [hb] at hcall
      have HC := Lib.hid hcall; have HRR := Lib.hid (signL_two hlt2 hb hno.out); have hsz := Lib.hid (sg_size k); clear hcall hb
      go_wp2_with fail; go_quiet ((go_at_call 57; exact quiet_al (HC.out _)))
      go_wp2_with fail; refine (put_at (z := a0 + 2) (⟨5, sg k, 0, 0, a0⟩ : Tok) _ (HRD.out.drewN _) (HOWN.out) (by omega) rfl (by omega)).mono ?_; rintro e w3 ⟨rfl, out3, hrd3, hown3, hb3⟩
      go_wp2_with fail; go_ret; rw [HRES.out, HRR.out]; simp only [hsz.out]; exact ⟨rfl, ⟨_, hrd3, hown3⟩, (below_drewN (Below.refl _ _) _).trans hb3⟩
  · obtain rfl : k = 8 := by omega
    have hd := drop_cons ha; have hone := signL_one hd hno.out; obtain ⟨c, hc⟩ : ∃ c, s[a0] = c := ⟨_, rfl⟩; rw [hc] at hone; have hcall : ∀ W, Calls Tryz.prog 54 #[.string ⟨#[123, 125, 91, 93, 40, 41, 61, 59, 46, 58, 63, 33, 60, 62, 43, 45, 42, 47]⟩, .int .u8 c.toNat] W fun e w' => e = .returned (.int .i64 (Lib.indexByte signs1 c)) ∧ W = w' := fun W =>
     (Tryz.strings_IndexByte _ _ W).mono fun e w' ⟨h1, h2⟩ => ⟨by rw [h1, show ((c.toNat : Int).toNat.toUInt8) = c by simp]; rfl, h2.symm⟩
    generalize Lib.indexByte signs1 c = ix at *; have HC := Lib.hid hcall; clear hcall hd; by_cases hix : ix < 0
    · rw [if_pos hix] at hone
      have HRR := Lib.hid hone; clear hone
      go_wp2_with fail; go_quiet ((go_at_call 54; exact quiet_al (HC.out _)))
      go_wp2_with fail; refine (fault_any _ _ _).mono ?_; rintro e w2 ⟨v, rfl, hft, hb2⟩
      go_wp2_with fail; go_ret; rw [HRES.out, HRR.out]; exact ⟨⟨_, rfl, hft⟩, (below_drewN (Below.refl _ _) _).trans (hb2.mono (Nat.le_of_lt hlt))⟩
    · rw [if_neg hix] at hone
      have HRR := Lib.hid hone; have HX := Lib.hid (extract_one ha); clear hone; have hix2 : decide (ix < 0) = false := by simpa using hix
      go_wp2_with fail; go_quiet ((go_at_call 54; exact quiet_al (HC.out _)))
      go_wp2_with fail; refine with_world fun W hW => ?_
      have hrdW : RD W g s a0 out := by rw [hW]; exact HRD.out
      have hownW : W.ownsRow (g + 1) 54 5 out ts.length (flatT ts) := by rw [hW]; exact HOWN.out
      have hbW : Below w.heap.size w W := by rw [hW]; exact below_drewN (below_drewN (Below.refl _ _) _) _
      clear hW; have e0 := hrdW.c0; have e1 := hrdW.c1; go_still_tail 21, (by kernel_rfl)
      change wpList _ _ _ _ _ W.drew
      go_wp2_with fail; rw [HX.out, hc]; refine (put_at (z := a0 + 1) (⟨5, ⟨#[c]⟩, 0, 0, a0⟩ : Tok) _ (w := W.drew) hrdW hownW (by omega) rfl (by omega)).mono ?_; rintro e w3 ⟨rfl, out3, hrd3, hown3, hb3⟩
      go_wp2_with fail; go_ret; rw [HRES.out, HRR.out]; exact ⟨rfl, ⟨_, hrd3, hown3⟩, ((hbW.mono (Nat.le_of_lt hlt)).drew).trans hb3⟩
end Go.Proofs.YtkoghgnjjfnamaaGreatDoor
namespace Go.Proofs.YtkoghgnjjfnamaaGreatDoor
set_option maxRecDepth 100000
set_option maxHeartbeats 2000000
open Go.RowKit
theorem run_bits64 (b : Nat) (w : World) : (callFunc 20 #[.float .f64 b]).run Tryz.prog w = .ok (.value (.int .u64 b)) w := by
 rw [run_callFunc_extern Tryz.func20 (by kernel_rfl) (by kernel_rfl) (by kernel_rfl) (e := Extern.MathFloatBits.float64bits) (by kernel_rfl)]; rfl
theorem run_frombits64 (n : Int) (w : World) : (callFunc 90 #[.int .u64 n]).run Tryz.prog w = .ok (.value (.float .f64 n.toNat)) w := by
 rw [run_callFunc_extern Tryz.func90 (by kernel_rfl) (by kernel_rfl) (by kernel_rfl) (e := Extern.MathFloatBits.float64frombits) (by kernel_rfl)]; rfl
attribute [local go_sem] run_bits64 run_frombits64
def absB (b : Nat) : Nat := (bits .andNot .u64 (b : Int) 9223372036854775808).toNat
def infB (b : Nat) : Bool := FloatKind.f64.format.order (absB b) 9218868437227405311 == some .gt
theorem abs_any (b : Nat) (w : World) : Calls Tryz.prog 68 #[.float .f64 b] w fun e w' => e = .returned (.float .f64 (absB b)) ∧ w = w' := by
 go_enter Tryz.func68, Tryz.ntmps68
 go_wp2_with fail; go_ret; exact ⟨rfl, rfl⟩
theorem inf_any (b : Nat) (w : World) : Calls Tryz.prog 48 #[.float .f64 b, .int .i64 0] w fun e w' => e = .returned (.bool (infB b)) ∧ w = w' := by
 have h := Lib.hid (show infB b = (FloatKind.f64.format.order (absB b) 9218868437227405311 == some .gt) from rfl); generalize infB b = r at *; go_enter Tryz.func48, Tryz.ntmps48
 go_wp2_with fail; refine (abs_any b _).mono ?_; rintro e w1 ⟨rfl, rfl⟩
 go_wp2_with fail; go_ret; exact ⟨ret_bool h.out.symm, rfl⟩
end Go.Proofs.YtkoghgnjjfnamaaGreatDoor
namespace Go.Proofs.YtkoghgnjjfnamaaGreatDoor
set_option maxRecDepth 100000
set_option maxHeartbeats 2000000
open Go.RowKit
def bt (s : ByteArray) (i : Nat) : Option UInt8 := s.data.toList[i]?
theorem bt_some {s : ByteArray} {i : Nat} (h : i < s.size) : bt s i = some s[i] := byte_at h
theorem bt_none {s : ByteArray} {i : Nat} (h : s.size ≤ i) : bt s i = none := by
 have hl : s.data.toList.length = s.size := Array.length_toList; exact List.getElem?_eq_none (by omega)
def isE (c : UInt8) : Bool := (c.toNat ||| 32) == 101
def signEnd (s : ByteArray) (i : Nat) : Nat := match bt s i with | some c => if c == 43 || c == 45 then i + 1 else i | none => i
def expEnd (s : ByteArray) (i : Nat) : Nat :=
 match bt s i with
 | some c => if isE c then (if signEnd s (i + 1) < runTo digitB s (signEnd s (i + 1)) then runTo digitB s (signEnd s (i + 1)) else i) else i
 | none => i
def dotB (s : ByteArray) (e : Nat) : Bool := match bt s e, bt s (e + 1) with | some c, some d => c == 46 && digitB d | _, _ => false
def numP (pf : ByteArray → Nat) (s : ByteArray) (a0 : Nat) : Except (Nat × Int) (Tok × Nat) :=
 if (decide (1 < runTo digitB s a0 - a0) && (bt s a0 == some 48)) = true then .error (a0, 4)
 else if dotB s (runTo digitB s a0) = true then
  if 800 < expEnd s (runTo digitB s (runTo digitB s a0 + 1)) - a0 then .error (a0, 4)
  else if infB (pf (s.extract a0 (expEnd s (runTo digitB s (runTo digitB s a0 + 1))))) = true then .error (a0, 4)
  else .ok (⟨3, s.extract a0 (expEnd s (runTo digitB s (runTo digitB s a0 + 1))), 0, pf (s.extract a0 (expEnd s (runTo digitB s (runTo digitB s a0 + 1)))), a0⟩, expEnd s (runTo digitB s (runTo digitB s a0 + 1)))
 else
  match Lib.parseIntB 64 (s.extract a0 (runTo digitB s a0)).data.toList with
  | .ok v => .ok (⟨2, s.extract a0 (runTo digitB s a0), v, 0, a0⟩, runTo digitB s a0)
  | _ => .error (a0, 4)
theorem signEnd_le {s : ByteArray} {i : Nat} (h : i ≤ s.size) : i ≤ signEnd s i ∧ signEnd s i ≤ s.size := by
 unfold signEnd; rcases Nat.lt_or_ge i s.size with hlt | hge
 · rw [bt_some hlt]
   simp only
   split <;> omega
 · rw [bt_none hge]
   exact ⟨Nat.le_refl _, h⟩
theorem expEnd_le {s : ByteArray} {i : Nat} (h : i ≤ s.size) : i ≤ expEnd s i ∧ expEnd s i ≤ s.size := by
 unfold expEnd; rcases Nat.lt_or_ge i s.size with hlt | hge
 · rw [bt_some hlt]
   simp only
   have h1 := signEnd_le (s := s) (i := i + 1) (by omega); have h2 := runTo_le digitB s h1.2; have h3 := runTo_ge digitB s (signEnd s (i + 1)); split
   · split <;> omega
   · omega
 · rw [bt_none hge]
   exact ⟨Nat.le_refl _, h⟩
theorem signEnd_two (s : ByteArray) (i : Nat) : signEnd s i = i ∨ signEnd s i = i + 1 := by
 unfold signEnd; split
 · split
   · exact Or.inr rfl
   · exact Or.inl rfl
 · exact Or.inl rfl
def expB (s : ByteArray) (i : Nat) : Bool := match bt s i with | some c => isE c | none => false
theorem expEnd_no {s : ByteArray} {i : Nat} (h : expB s i = false) : expEnd s i = i := by
 unfold expB at h; unfold expEnd; cases hb : bt s i with
 | none => rfl
 | some c => rw [hb] at h; simp only at h ⊢; rw [h]; rfl
theorem expEnd_yes {s : ByteArray} {i : Nat} (h : expB s i = true) : expEnd s i = if signEnd s (i + 1) < runTo digitB s (signEnd s (i + 1)) then runTo digitB s (signEnd s (i + 1)) else i := by
 unfold expB at h; unfold expEnd; cases hb : bt s i with
 | none => rw [hb] at h; cases h
 | some c => rw [hb] at h; simp only at h ⊢; rw [if_pos h]
theorem expB_lt {s : ByteArray} {i : Nat} (h : expB s i = true) : i < s.size := by
 rcases Nat.lt_or_ge i s.size with h' | h'
 · exact h'
 · unfold expB at h; rw [bt_none h'] at h; cases h
theorem dotB_lt {s : ByteArray} {e : Nat} (h : dotB s e = true) : e + 1 < s.size := by
 rcases Nat.lt_or_ge (e + 1) s.size with h' | h'
 · exact h'
 · unfold dotB at h
   rw [bt_none h'] at h; split at h
   · rename_i h2; cases h2
   · cases h
theorem run_at {gf : Nat} {p : UInt8 → Bool} {g at' n : Nat} {ni : Int} {s : ByteArray} {out : Value} {w : World} (eg : Enters Tryz.prog gf) (hr : RD w g s at' out) (hs : s.size ≤ 4096) (hn : n ≤ s.size)
 (hp : ∀ (c : UInt8) (W : World), Calls Tryz.prog gf #[.int .u8 c.toNat] W fun e w' => e = .returned (.bool (p c)) ∧ W = w') (hni : (n : Int) = ni) :
 Calls Tryz.prog 25 #[.pointer (some ⟨g, 0, none⟩), .int .i64 ni, .func (.func gf) #[] #[]] w fun e w' => e = .returned (.int .i64 (runTo p s n)) ∧ w = w' := by
 subst hni; exact run_any eg hr hs hn hp
structure Env (NG : Nat) (G : World → Prop) (D : ByteArray → Prop) (pf : ByteArray → Nat) : Prop where
 keeps : ∀ (B : Nat) (w w' : World), NG ≤ B → Below B w w' → G w → G w'
 errS : ∀ w, G w → ∃ ev, w.cell? ⟨2, 0, none⟩ = some ev ∧ (ev = .nilIface ∨ ∃ te pe, ev = .iface te pe)
 errR : ∀ w, G w → ∃ ev, w.cell? ⟨3, 0, none⟩ = some ev ∧ (ev = .nilIface ∨ ∃ te pe, ev = .iface te pe)
 float : ∀ t w, t.size ≤ 800 → D t → G w → Calls Tryz.prog 53 #[.string t, .int .i64 64] w fun e w' => (∃ er, e = .returned (.tuple #[.float .f64 (pf t), er])) ∧ Below w.heap.size w w'
def IntPost (t : ByteArray) (w : World) (e : Ending) (w' : World) : Prop :=
 (match Lib.parseIntB 64 t.data.toList with
  | .ok v => e = .returned (.tuple #[.int .i64 v, .nilIface])
  | _ => ∃ n N, e = .returned (.tuple #[.int .i64 n, .iface 146 (.pointer (some ⟨N, 0, none⟩))])) ∧ Below w.heap.size w w'
theorem parseInt_any {NG : Nat} {G : World → Prop} {D : ByteArray → Prop} {pf : ByteArray → Nat} (E : Env NG G D pf) {w : World} (hG : G w) (t : ByteArray) (ht : t.size ≤ 4096) :
 Calls Tryz.prog 52 #[.string t, .int .i64 10, .int .i64 64] w fun e w' => IntPost t w e w' := by
 unfold IntPost; rcases h : Lib.parseIntB 64 t.data.toList with v | _ | _
 ·
  refine (Tryz.strconv_ParseInt_10_at64_ok t (by omega) v h w).mono ?_; rintro e w' ⟨h1, h2⟩; refine ⟨h1, ?_⟩; rcases h2 with rfl | ⟨x, rfl⟩
  · exact Below.refl _ _
  · exact Lib.bytesWorld_below _ _ _
 ·
  obtain ⟨ev, h1, h2⟩ := E.errS w hG; refine (Tryz.strconv_ParseInt_10_at64_syntax t (by omega) h ev w h1 h2).mono ?_; rintro e w' ⟨N, h3, _, _, h4⟩; exact ⟨⟨_, N, h3⟩, h4⟩
 ·
  obtain ⟨ev, h1, h2⟩ := E.errR w hG; refine (Tryz.strconv_ParseInt_10_at64_range t (by omega) h ev w h1 h2).mono ?_; rintro e w' ⟨N, h3, _, _, h4⟩; exact ⟨⟨_, N, h3⟩, h4⟩
theorem enters_digit : Enters Tryz.prog 29 := enters_of Tryz.func29 (by kernel_rfl) rfl
theorem enters_notNl : Enters Tryz.prog 26 := enters_of Tryz.func26 (by kernel_rfl) rfl
theorem enters_more : Enters Tryz.prog 28 := enters_of Tryz.func28 (by kernel_rfl) rfl
end Go.Proofs.YtkoghgnjjfnamaaGreatDoor
namespace Go.Proofs.YtkoghgnjjfnamaaGreatDoor
set_option maxRecDepth 100000
set_option maxHeartbeats 2000000
open Go.RowKit
def blankB (c : UInt8) : Bool := c == 32 || c == 9 || c == 10 || c == 13
def lexFrom (pf : ByteArray → Nat) (s : ByteArray) : Nat → Nat → List Tok → Except (Nat × Int) (List Tok)
 | 0, p, acc => .ok (acc ++ [⟨0, ⟨#[]⟩, 0, 0, p⟩])
 | f + 1, p, acc =>
   match bt s p with
   | none => .ok (acc ++ [⟨0, ⟨#[]⟩, 0, 0, p⟩])
   | some c =>
     if blankB c then lexFrom pf s f (p + 1) acc
     else if c == 35 then lexFrom pf s f (runTo notNl s p) acc
     else if letterB c then
      (if 1024 < runTo moreB s p - p then .error (p, 5) else lexFrom pf s f (runTo moreB s p) (acc ++ [⟨1, s.extract p (runTo moreB s p), 0, 0, p⟩]))
     else match (if digitB c then numP pf s p else if c == 34 then textP s p else signP s p) with
      | .ok (t, j) => lexFrom pf s f j (acc ++ [t])
      | .error x => .error x
def lexP (pf : ByteArray → Nat) (s : ByteArray) : Except (Nat × Int) (List Tok) := if 4096 < s.size then .error (4096, 2) else lexFrom pf s (s.size + 1) 0 []
theorem runTo_gt {p : UInt8 → Bool} {s : ByteArray} {n : Nat} {c : UInt8} (h : bt s n = some c) (hc : p c = true) : n < runTo p s n := by
 have hn : n < s.size := by
  rcases Nat.lt_or_ge n s.size with h' | h'
  · exact h'
  · rw [bt_none h'] at h; cases h
 unfold runTo; rw [drop_cons hn]; have : s[n] = c := by rw [bt_some hn] at h; exact Option.some.inj h
 rw [this]; simp [hc]
theorem textL_le {a0 : Nat} : ∀ (n : Nat) (rest : List UInt8) (i : Nat) (l l' : List UInt8) (j : Nat), rest.length ≤ n → textL a0 rest i l = .ok (l', j) → i < j ∧ j ≤ i + rest.length := by
 intro n; induction n with
 | zero =>
   intro rest i l l' j hn h; have : rest = [] := List.eq_nil_of_length_eq_zero (by omega); subst this; cases h
 | succ n ih =>
   intro rest i l l' j hn h; match rest with
   | [] => cases h
   | [c] =>
     rw [textL] at h; split at h
     · cases h; simp
     · split at h
       · cases h
       · split at h <;> cases h
   | c :: d :: r =>
     rw [textL] at h; split at h
     · cases h; simp
     · split at h
       · cases h
       · split at h
         · split at h
           · cases h
           · split at h
             · cases h
             · have := ih r (i + 2) _ _ _ (by simp at hn; omega) h
               simp; omega
         · split at h
           · cases h
           · have := ih (d :: r) (i + 1) _ _ _ (by simp at hn ⊢; omega) h
             simp at this ⊢; omega
theorem textP_le {s : ByteArray} {p j : Nat} {t : Tok} (hp : p < s.size) (h : textP s p = .ok (t, j)) : p < j ∧ j ≤ s.size ∧ t.place = p := by
 unfold textP at h; split at h
 · rename_i l j' hl
   cases h; have hlen : s.data.toList.length = s.size := Array.length_toList
   have := textL_le _ _ _ _ _ _ (Nat.le_refl _) hl; simp only [List.length_drop] at this; exact ⟨by omega, by omega, rfl⟩
 · cases h
theorem signL_size {l : List UInt8} {b : ByteArray} (h : signL l = some b) : 1 ≤ b.size ∧ b.size ≤ l.length := by
 unfold signL at h; split at h
 · rename_i k hk
   have h1 := List.find?_some hk; cases h; unfold isSg Lib.hasPrefix at h1; rw [List.isPrefixOf_iff_prefix] at h1
   have := h1.length_le; have hs : (sg k).data.toList.length = (sg k).size := Array.length_toList; rw [sg_size] at *; omega
 · cases l with
   | nil => cases h
   | cons c r =>
     simp only at h; split at h
     · cases h
     · cases h
       exact ⟨Nat.le_refl 1, by show 1 ≤ _; simp⟩
theorem signP_le {s : ByteArray} {p j : Nat} {t : Tok} (hp : p < s.size) (h : signP s p = .ok (t, j)) : p < j ∧ j ≤ s.size ∧ t.place = p := by
 unfold signP at h; split at h
 · rename_i b hb
   cases h; have hlen : s.data.toList.length = s.size := Array.length_toList
   have := signL_size hb; simp only [List.length_drop] at this; exact ⟨by omega, by omega, rfl⟩
 · cases h
theorem numP_le {pf : ByteArray → Nat} {s : ByteArray} {p j : Nat} {t : Tok} {c : UInt8} (hb : bt s p = some c) (hd : digitB c = true) (h : numP pf s p = .ok (t, j)) : p < j ∧ j ≤ s.size ∧ t.place = p := by
 have hp : p < s.size := by
  rcases Nat.lt_or_ge p s.size with h' | h'
  · exact h'
  · rw [bt_none h'] at hb; cases hb
 have h1 := runTo_gt hb hd; have h2 := runTo_le digitB s (Nat.le_of_lt hp); unfold numP at h; split at h
 · cases h
 · split at h
   · rename_i hdot
     have h3 := dotB_lt hdot; have h4 := runTo_ge digitB s (runTo digitB s p + 1); have h5 := runTo_le digitB s (n := runTo digitB s p + 1) (by omega); have h6 := expEnd_le h5; split at h
     · cases h
     · split at h
       · cases h
       · cases h
         exact ⟨by omega, by omega, rfl⟩
   · split at h
     · cases h
       exact ⟨h1, h2, rfl⟩
     · cases h
end Go.Proofs.YtkoghgnjjfnamaaGreatDoor
