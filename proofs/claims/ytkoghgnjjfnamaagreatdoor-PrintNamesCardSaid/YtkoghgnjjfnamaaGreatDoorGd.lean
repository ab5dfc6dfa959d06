/- Gd: what is used of them. -/
import Derived.Test.YtkoghgnjjfnamaaGreatDoorGc
import Derived.Test.YtkoghgnjjfnamaaGreatDoorShelf
import Derived.Deep.RegionHeld3
set_option linter.unusedSimpArgs false
namespace Go.Proofs.YtkoghgnjjfnamaaGreatDoor
set_option maxRecDepth 100000
set_option maxHeartbeats 2000000
open Go.RowKit
theorem keyword_any (s : ByteArray) (w : World) : Calls Tryz.prog 79 #[.string s] w fun e w' => e = .returned (.bool (kwB s)) ∧ w = w' := by
 obtain ⟨B, hB⟩ : ∃ B, kwB s = B := ⟨_, rfl⟩; have HB := Lib.hid hB; rw [hB]; clear hB; go_enter Tryz.func79, Tryz.ntmps79
 go_wp2_with fail
 all_goals
  go_ret; refine ⟨ret_bool ?_, rfl⟩; rw [← HB.out]; simp_all [kwB, kws]
theorem fail_any (t : Tok) (er : Int) (w : World) : Calls Tryz.prog 36 #[.agg #[.int .i64 t.kind, .string t.text, .int .i64 t.num, .float .f64 t.bits, .int .i64 t.place], .int .i64 er] w fun e w' => e = .panicked (stopV t.place er) ∧ Below w.heap.size w w' := by
 go_enter Tryz.func36, Tryz.ntmps36
 go_wp2_with fail; exact ⟨rfl, rfl, (by (repeat' first | (with_reducible first | exact Below.refl _ _ | assumption | refine below_drewN ?_ _ | refine Below.drew ?_ | refine Below.alloc ?_ ?_ _ | refine Below.setCell ?_ ?_ _) | omega | (simp; done) | (simp; omega)))⟩
theorem row_back {w : World} (p : Addr) (v : Value) {o o2 : Obj} : (((w.setCell p v).alloc o).alloc o2).heap[w.heap.size]? = some o := by
 have hs : (w.setCell p v).heap.size = w.heap.size := by simp [World.setCell]
 exact block_alloc (block_new (w.setCell p v) o hs.symm) o2
section
variable {w : World} {pb g n : Nat} {t : Tok} {us ts : List Tok}
theorem next_any (h : PS w pb g n (t :: us)) : Calls Tryz.prog 15 #[.pointer (some ⟨pb, 0, none⟩)] w fun e w' =>
 e = .returned (.agg #[.int .i64 t.kind, .string t.text, .int .i64 t.num, .float .f64 t.bits, .int .i64 t.place]) ∧ Below w.heap.size w w' := by
 obtain ⟨off, cap, h1, _, _, h4⟩ := h.cells; have c0 := block_cell (i := 0) h1 rfl; obtain ⟨k0, k1, k2, k3, k4⟩ := h4.head; have hlt := h.lt; have hlow := h.low; have hgl : g < w.heap.size := by omega
 have hsf := store_f64; obtain ⟨l, hl, h0⟩ : ∃ l : Nat, l = (t :: us).length ∧ (0 : Int) < (l : Int) := ⟨_, rfl, by simp⟩; rw [← hl] at c0; clear h h1 h4 hl; go_enter Tryz.func15, Tryz.ntmps15
 go_wp2_with fail; refine bodyPost_ret (results_cell_row rfl _ _ w.heap.size 54 _ (0, 0) _ rfl (block_new _ _ rfl) Tryz.underlying54 rfl (by kernel_rfl)) rfl ?_; exact ⟨rfl, (by (repeat' first | (with_reducible first | exact Below.refl _ _ | assumption | refine below_drewN ?_ _ | refine Below.drew ?_ | refine Below.alloc ?_ ?_ _ | refine Below.setCell ?_ ?_ _) | omega | (simp; done) | (simp; omega)))⟩
theorem name_any (t : Tok) (w : World) : Calls Tryz.prog 58 #[.agg #[.int .i64 t.kind, .string t.text, .int .i64 t.num, .float .f64 t.bits, .int .i64 t.place]] w fun e w' => e = .returned (.bool (nameT t)) ∧ Below w.heap.size w w' := by
 have HN := Lib.hid (show nameT t = (decide (t.kind = 1) && !kwB t.text) from rfl); generalize nameT t = r at *; by_cases h1 : t.kind = 1
 · have h1' : (t.kind == 1) = true := by simpa using h1
   go_enter Tryz.func58, Tryz.ntmps58
   go_wp2_with (go_at_call 79; refine (keyword_any _ _).mono ?_; rintro e w2 ⟨rfl, rfl⟩); go_ret; exact ⟨ret_bool (by rw [HN.out]; simp [h1]), (by (repeat' first | (with_reducible first | exact Below.refl _ _ | assumption | refine below_drewN ?_ _ | refine Below.drew ?_ | refine Below.alloc ?_ ?_ _ | refine Below.setCell ?_ ?_ _) | omega | (simp; done) | (simp; omega)))⟩
 · have h1' : (t.kind == 1) = false := by simpa using h1
   go_enter Tryz.func58, Tryz.ntmps58
   go_wp2_with fail; go_ret; exact ⟨ret_bool (by rw [HN.out]; simp [h1]), (by (repeat' first | (with_reducible first | exact Below.refl _ _ | assumption | refine below_drewN ?_ _ | refine Below.drew ?_ | refine Below.alloc ?_ ?_ _ | refine Below.setCell ?_ ?_ _) | omega | (simp; done) | (simp; omega)))⟩
theorem is_any (s : ByteArray) (h : PS w pb g n ts) : Calls Tryz.prog 59 #[.pointer (some ⟨pb, 0, none⟩), .string s] w fun e w' => e = .returned (.bool (isP s ts)) ∧ Below w.heap.size w w' := by
 obtain ⟨t, us, rfl⟩ := h.split; have HP := Lib.hid h; have hsf := store_f64; have HN := Lib.hid (show isP s (t :: us) = ((t.text.toList == s.toList) && (decide (t.kind = 5) || decide (t.kind = 1) && kwB s)) from rfl); generalize isP s (t :: us) = r at *; obtain ⟨B, hB⟩ : ∃ B, (t.text.toList == s.toList) = B := ⟨_, rfl⟩; rw [hB] at HN; clear h; cases B
 · go_enter Tryz.func59, Tryz.ntmps59
   go_wp2_with (go_at_call 15; refine (next_any HP.out).mono ?_; rintro e w1 ⟨rfl, hb1⟩; have hz1 := hb1.size); go_ret; exact ⟨ret_bool (by rw [HN.out]; simp), (by (repeat' first | (with_reducible first | exact Below.refl _ _ | assumption | refine below_drewN ?_ _ | refine Below.drew ?_ | refine Below.alloc ?_ ?_ _ | refine Below.setCell ?_ ?_ _) | omega | (simp; done) | (simp; omega)))⟩
 · by_cases h5 : t.kind = 5
   · have h5' : (t.kind == 5) = true := by simpa using h5
     go_enter Tryz.func59, Tryz.ntmps59
     go_wp2_with (go_at_call 15; refine (next_any HP.out).mono ?_; rintro e w1 ⟨rfl, hb1⟩; have hz1 := hb1.size); go_ret; exact ⟨ret_bool (by rw [HN.out]; simp [h5]), (by (repeat' first | (with_reducible first | exact Below.refl _ _ | assumption | refine below_drewN ?_ _ | refine Below.drew ?_ | refine Below.alloc ?_ ?_ _ | refine Below.setCell ?_ ?_ _) | omega | (simp; done) | (simp; omega)))⟩
   · have h5' : (t.kind == 5) = false := by simpa using h5
     by_cases h1 : t.kind = 1
     · have h1' : (t.kind == 1) = true := by simpa using h1
       go_enter Tryz.func59, Tryz.ntmps59
       go_wp2_with (first | (go_at_call 15; refine (next_any HP.out).mono ?_; rintro e w1 ⟨rfl, hb1⟩; have hz1 := hb1.size) | (go_at_call 79; refine (keyword_any _ _).mono ?_; rintro e w2 ⟨rfl, rfl⟩)); go_ret; exact ⟨ret_bool (by rw [HN.out]; simp [h1]), (by (repeat' first | (with_reducible first | exact Below.refl _ _ | assumption | refine below_drewN ?_ _ | refine Below.drew ?_ | refine Below.alloc ?_ ?_ _ | refine Below.setCell ?_ ?_ _) | omega | (simp; done) | (simp; omega)))⟩
     · have h1' : (t.kind == 1) = false := by simpa using h1
       go_enter Tryz.func59, Tryz.ntmps59
       go_wp2_with (go_at_call 15; refine (next_any HP.out).mono ?_; rintro e w1 ⟨rfl, hb1⟩; have hz1 := hb1.size); go_ret; exact ⟨ret_bool (by rw [HN.out]; simp [h1, h5]), (by (repeat' first | (with_reducible first | exact Below.refl _ _ | assumption | refine below_drewN ?_ _ | refine Below.drew ?_ | refine Below.alloc ?_ ?_ _ | refine Below.setCell ?_ ?_ _) | omega | (simp; done) | (simp; omega)))⟩
theorem take_any (h : PS w pb g n (t :: us)) (hk : t.kind ≠ 0) : Calls Tryz.prog 60 #[.pointer (some ⟨pb, 0, none⟩)] w fun e w' =>
 e = .returned (.agg #[.int .i64 t.kind, .string t.text, .int .i64 t.num, .float .f64 t.bits, .int .i64 t.place]) ∧ PS w' pb g n us ∧ But pb w.heap.size w w' := by
 have HP := Lib.hid h; obtain ⟨off, cap, h1, h2, h3, h4⟩ := h.cells; have c0 := block_cell (i := 0) h1 rfl; have f0 := block_free (i := 0) h1; obtain ⟨k0, k1, k2, k3, k4⟩ := h4.head; have hlt := h.lt; have hlow := h.low; have hgl : g < w.heap.size := by omega
 have hsf := store_f64; have hgu := h.good.cons hk; have hul : 0 < us.length := by
  cases us with
  | nil => exact absurd rfl hgu.ne
  | cons a b => simp
 have hc1 : ¬ cap = 1 := by
  simp at h2; omega
 have H1 := Lib.hid h1; have H4 := Lib.hid h4; have HT := Lib.hid h4.tail; have HL := Lib.hid h2; have HM := Lib.hid h3; obtain ⟨l, hl, h0⟩ : ∃ l : Nat, l = (t :: us).length ∧ (0 : Int) < (l : Int) := ⟨_, rfl, by simp⟩; rw [← hl] at c0; have HLL := Lib.hid hl; have h1l : (1 : Int) ≤ (l : Int) := by omega
 clear h h1 h4 hl h2 h3; go_enter Tryz.func60, Tryz.ntmps60
 go_wp2_with fail; refine bodyPost_ret (results_cell_row rfl _ _ w.heap.size 54 _ (0, 0) _ rfl (row_back _ _) Tryz.underlying54 rfl (by kernel_rfl)) rfl ?_; have hl := HLL.out; simp at hl; refine ⟨rfl, HP.out.set (fun k hk => ?_) (off := off + 5) (cap := cap - 1) ?_ ?_ ?_ (HT.out) hgu ?_ HP.out.lev, ((((But.refl pb w.heap.size w).setCell (Or.inl rfl) _).alloc (by simp [World.setCell]) _).alloc (by simp [World.setCell]) _)⟩
 · exact (((Below.refl pb w).setCell (Nat.le_refl _) _ |>.alloc (by simp [World.setCell]; omega) _).alloc (by simp [World.setCell]; omega) _).block k hk
 · rw [hl]
   exact block_alloc (block_alloc (block_set H1.out _) _) _
 · have := HL.out
   simp at this; omega
 · have := HM.out
   omega
 · have := HP.out.len
   simp at this; omega
theorem wrong_any (h : PS w pb g n ts) : Calls Tryz.prog 16 #[.pointer (some ⟨pb, 0, none⟩)] w fun e w' =>
 e = .panicked (stopV (wrongP ts).1 (wrongP ts).2) ∧ Below w.heap.size w w' := by
 obtain ⟨t, us, rfl⟩ := h.split; have HP := Lib.hid h; have hf0 := fld0; have HN := Lib.hid (show wrongP (t :: us) = (t.place, if t.kind = 0 then 7 else 6) from rfl); clear h; by_cases h0 : t.kind = 0
 · have h0' : (t.kind == 0) = true := by simpa using h0
   rw [show wrongP (t :: us) = (t.place, 7) by rw [HN.out, if_pos h0]]; clear h0 HN; go_enter Tryz.func16, Tryz.ntmps16
   go_wp2_with fail; refine (next_any HP.out).mono ?_; rintro e w1 ⟨rfl, hb1⟩; have hz1 := hb1.size
   go_wp2_with fail; refine (next_any (HP.out.below hb1 HP.out.lt)).mono ?_; rintro e w2 ⟨rfl, hb2⟩; have hz2 := hb2.size
   go_wp2_with fail; refine (fail_any t 7 _).mono ?_; rintro e w3 ⟨rfl, hb3⟩; exact ⟨rfl, rfl, (hb1.trans (hb2.mono hz1)).trans (hb3.mono (by omega))⟩
 · have h0' : (t.kind == 0) = false := by simpa using h0
   rw [show wrongP (t :: us) = (t.place, 6) by rw [HN.out, if_neg h0]]; clear h0 HN; go_enter Tryz.func16, Tryz.ntmps16
   go_wp2_with fail; refine (next_any HP.out).mono ?_; rintro e w1 ⟨rfl, hb1⟩; have hz1 := hb1.size
   go_wp2_with fail; refine (next_any (HP.out.below hb1 HP.out.lt)).mono ?_; rintro e w2 ⟨rfl, hb2⟩; have hz2 := hb2.size
   go_wp2_with fail; refine (fail_any t 6 _).mono ?_; rintro e w3 ⟨rfl, hb3⟩; exact ⟨rfl, rfl, (hb1.trans (hb2.mono hz1)).trans (hb3.mono (by omega))⟩
def NdPost (pb g n : Nat) (w : World) (res : Except Er (List Tok)) (e : Ending) (w' : World) : Prop :=
 match res with
 | .ok us => e = .returned (.tuple #[]) ∧ PS w' pb g n us ∧ But pb w.heap.size w w'
 | .error (p, er) => e = .panicked (stopV p er) ∧ But pb w.heap.size w w'
theorem need_any (s : ByteArray) (h : PS w pb g n ts) : Calls Tryz.prog 62 #[.pointer (some ⟨pb, 0, none⟩), .string s] w fun e w' => NdPost pb g n w (needP s ts) e w' := by
 have HP := Lib.hid h; have HI := Lib.hid (is_any s h); have HN := Lib.hid (show needP s ts = if isP s ts then .ok ts.tail else .error (wrongP ts) from rfl); cases hi : isP s ts with
 | true =>
   rw [hi] at HI HN; obtain ⟨t, us, rfl, ht⟩ := isP_cons hi; have HK := Lib.hid (isT_kind ht); rw [show needP s (t :: us) = .ok us from HN.out]; clear h hi ht HN; go_enter Tryz.func62, Tryz.ntmps62
   go_wp2_with fail; refine HI.out.mono ?_; rintro e w1 ⟨rfl, hb1⟩; have hz1 := hb1.size
   go_wp2_with fail; refine (take_any (HP.out.below hb1 HP.out.lt) HK.out).mono ?_; rintro e w2 ⟨rfl, hp2, hb2⟩
   go_wp2_with fail; go_end0; exact ⟨rfl, hp2, (But.of hb1).andThen hb2 hz1⟩
 | false =>
   rw [hi] at HI HN; rw [show needP s ts = .error (wrongP ts) from HN.out]; clear h hi HN; go_enter Tryz.func62, Tryz.ntmps62
   go_wp2_with fail; refine HI.out.mono ?_; rintro e w1 ⟨rfl, hb1⟩; have hz1 := hb1.size
   go_wp2_with fail; refine (wrong_any (HP.out.below hb1 HP.out.lt)).mono ?_; rintro e w2 ⟨rfl, hb2⟩; exact ⟨rfl, rfl, But.of (hb1.trans (hb2.mono hz1))⟩
def AtPost (pb g n : Nat) (w : World) (res : Res ByteArray) (e : Ending) (w' : World) : Prop :=
 match res with
 | .ok (s, us) => e = .returned (.string s) ∧ PS w' pb g n us ∧ But pb w.heap.size w w'
 | .error (p, er) => e = .panicked (stopV p er) ∧ But pb w.heap.size w w'
theorem attrP_cons (t : Tok) (us : List Tok) : attrP (t :: us) = if nameT t || decide (t.kind = 4) then .ok (t.text, us) else .error (wrongP (t :: us)) := rfl
theorem attr_any (h : PS w pb g n ts) : Calls Tryz.prog 105 #[.pointer (some ⟨pb, 0, none⟩)] w fun e w' => AtPost pb g n w (attrP ts) e w' := by
 obtain ⟨t, us, rfl⟩ := h.split; have HP := Lib.hid h; have HN := Lib.hid (attrP_cons t us); have hsf := store_f64; have hf1 := fld1; clear h; cases hn : nameT t with
 | true =>
   have HK := Lib.hid (show t.kind ≠ 0 by rw [nameT_kind hn]; decide); have HNM := Lib.hid (fun W => hn ▸ name_any t W); rw [show attrP (t :: us) = .ok (t.text, us) by rw [HN.out, hn]; rfl]; clear hn HN; go_enter Tryz.func105, Tryz.ntmps105
   go_wp2_with fail; refine (next_any HP.out).mono ?_; rintro e w1 ⟨rfl, hb1⟩; have hz1 := hb1.size
   go_wp2_with fail; refine (HNM.out _).mono ?_; rintro e w2 ⟨rfl, hb2⟩; have hbA : Below w.heap.size w w2 := (hb1.alloc hz1 _).trans (hb2.mono (by simp; omega)); have hzA := hbA.size
   go_wp2_with fail; refine (take_any (HP.out.below hbA HP.out.lt) HK.out).mono ?_; rintro e w3 ⟨rfl, hp3, hb3⟩
   go_wp2_with fail; go_ret; exact ⟨rfl, hp3, (But.of hbA).andThen hb3 hzA⟩
 | false =>
   have HNM := Lib.hid (fun W => hn ▸ name_any t W); by_cases h4 : t.kind = 4
   · have h4' : (t.kind != 4) = false := by simpa using h4
     have HK := Lib.hid (show t.kind ≠ 0 by rw [h4]; decide); rw [show attrP (t :: us) = .ok (t.text, us) by rw [HN.out, if_pos (by simp [h4])]]; clear hn HN h4; go_enter Tryz.func105, Tryz.ntmps105
     go_wp2_with fail; refine (next_any HP.out).mono ?_; rintro e w1 ⟨rfl, hb1⟩; have hz1 := hb1.size
     go_wp2_with fail; refine (HNM.out _).mono ?_; rintro e w2 ⟨rfl, hb2⟩; have hbA : Below w.heap.size w w2 := (hb1.alloc hz1 _).trans (hb2.mono (by simp; omega)); have hzA := hbA.size; have hk0 := block_cell (i := 0) (block_below (block_new w1 _ rfl) hb2) rfl
     go_wp2_with fail; refine (take_any (HP.out.below hbA HP.out.lt) HK.out).mono ?_; rintro e w3 ⟨rfl, hp3, hb3⟩
     go_wp2_with fail; go_ret; exact ⟨rfl, hp3, (But.of hbA).andThen hb3 hzA⟩
   · have h4' : (t.kind != 4) = true := by simpa using h4
     rw [show attrP (t :: us) = .error (wrongP (t :: us)) by rw [HN.out, if_neg (by simp [h4, hn])]]; clear hn HN h4; go_enter Tryz.func105, Tryz.ntmps105
     go_wp2_with fail; refine (next_any HP.out).mono ?_; rintro e w1 ⟨rfl, hb1⟩; have hz1 := hb1.size
     go_wp2_with fail; refine (HNM.out _).mono ?_; rintro e w2 ⟨rfl, hb2⟩; have hbA : Below w.heap.size w w2 := (hb1.alloc hz1 _).trans (hb2.mono (by simp; omega)); have hzA := hbA.size; have hk0 := block_cell (i := 0) (block_below (block_new w1 _ rfl) hb2) rfl
     go_wp2_with fail; refine (wrong_any (HP.out.below hbA HP.out.lt)).mono ?_; rintro e w3 ⟨rfl, hb3⟩; exact ⟨rfl, rfl, But.of (hbA.trans (hb3.mono hzA))⟩
end
open Go.RowKit Go.Shelf
section
variable {w : World} {pb g n : Nat} {t : Tok} {us ts : List Tok}
theorem begP_cons' (t : Tok) (us : List Tok) : begP (t :: us) = if t.kind = 1 then (t.text.toList == (⟨#[114, 101, 99]⟩ : ByteArray).toList) || !kwB t.text else if t.kind = 5 then Lib.contains [40, 91, 123] t.text.data.toList else decide (t.kind ≠ 0) := rfl
theorem begins_any (h : PS w pb g n ts) : Calls Tryz.prog 240 #[.pointer (some ⟨pb, 0, none⟩)] w fun e w' => e = .returned (.bool (begP ts)) ∧ Below w.heap.size w w' := by
 obtain ⟨t, us, rfl⟩ := h.split; have HP := Lib.hid h; have HN := Lib.hid (begP_cons' t us); generalize begP (t :: us) = r at *; have hsf := store_f64; clear h; by_cases h1 : t.kind = 1
 · have h1' : (t.kind == 1) = true := by simpa using h1
   have HR := Lib.hid (show r = ((t.text.toList == (⟨#[114, 101, 99]⟩ : ByteArray).toList) || !kwB t.text) by rw [HN.out, if_pos h1]); clear h1 HN; obtain ⟨B, hB⟩ : ∃ B, (t.text.toList == ([114, 101, 99] : List UInt8)) = B := ⟨_, rfl⟩; rw [show (⟨#[114, 101, 99]⟩ : ByteArray).toList = ([114, 101, 99] : List UInt8) from Lib.toList_data _, hB] at HR; cases B
   · go_enter Tryz.func240, Tryz.ntmps240
     go_wp2_with fail; refine (next_any HP.out).mono ?_; rintro e w1 ⟨rfl, hb1⟩; have hz1 := hb1.size
     go_wp2_with fail; refine (keyword_any _ _).mono ?_; rintro e w2 ⟨rfl, rfl⟩
     go_wp2_with fail; go_ret; exact ⟨ret_bool (by rw [HR.out]; simp), (by (repeat' first | (with_reducible first | exact Below.refl _ _ | assumption | refine below_drewN ?_ _ | refine Below.drew ?_ | refine Below.alloc ?_ ?_ _ | refine Below.setCell ?_ ?_ _) | omega | (simp; done) | (simp; omega)))⟩
   · go_enter Tryz.func240, Tryz.ntmps240
     go_wp2_with fail; refine (next_any HP.out).mono ?_; rintro e w1 ⟨rfl, hb1⟩; have hz1 := hb1.size
     go_wp2_with fail; go_ret; exact ⟨ret_bool (by rw [HR.out]; simp), (by (repeat' first | (with_reducible first | exact Below.refl _ _ | assumption | refine below_drewN ?_ _ | refine Below.drew ?_ | refine Below.alloc ?_ ?_ _ | refine Below.setCell ?_ ?_ _) | omega | (simp; done) | (simp; omega)))⟩
 · have h1' : (t.kind == 1) = false := by simpa using h1
   by_cases h5 : t.kind = 5
   · have h5' : (t.kind == 5) = true := by simpa using h5
     have HR := Lib.hid (show r = Lib.contains [40, 91, 123] t.text.data.toList by rw [HN.out, if_neg h1, if_pos h5]); clear h1 HN h5; go_enter Tryz.func240, Tryz.ntmps240
     go_wp2_with fail; refine (next_any HP.out).mono ?_; rintro e w1 ⟨rfl, hb1⟩; have hz1 := hb1.size; obtain ⟨m, hm⟩ := (HP.out.below hb1 HP.out.lt).ml
     go_wp2_with fail; refine (Tryz.strings_Contains _ _ m _ (by decide) (cell_keeps ((by (repeat' first | (with_reducible first | exact Below.refl _ _ | assumption | refine below_drewN ?_ _ | refine Below.drew ?_ | refine Below.alloc ?_ ?_ _ | refine Below.setCell ?_ ?_ _) | omega | (simp; done) | (simp; omega)))) hm)).mono ?_; rintro e w2 ⟨rfl, rfl⟩
     go_wp2_with fail; go_ret; exact ⟨ret_bool (by rw [HR.out]), (by (repeat' first | (with_reducible first | exact Below.refl _ _ | assumption | refine below_drewN ?_ _ | refine Below.drew ?_ | refine Below.alloc ?_ ?_ _ | refine Below.setCell ?_ ?_ _) | omega | (simp; done) | (simp; omega)))⟩
   · have h5' : (t.kind == 5) = false := by simpa using h5
     by_cases h0 : t.kind = 0
     · have h0' : (t.kind == 0) = true := by simpa using h0
       have HR := Lib.hid (show r = false by rw [HN.out, if_neg h1, if_neg h5, h0]; rfl); clear h1 HN h5 h0; go_enter Tryz.func240, Tryz.ntmps240
       go_wp2_with fail; refine (next_any HP.out).mono ?_; rintro e w1 ⟨rfl, hb1⟩; have hz1 := hb1.size
       go_wp2_with fail; go_ret; exact ⟨ret_bool (by rw [HR.out]), (by (repeat' first | (with_reducible first | exact Below.refl _ _ | assumption | refine below_drewN ?_ _ | refine Below.drew ?_ | refine Below.alloc ?_ ?_ _ | refine Below.setCell ?_ ?_ _) | omega | (simp; done) | (simp; omega)))⟩
     · have h0' : (t.kind == 0) = false := by simpa using h0
       have HR := Lib.hid (show r = true by rw [HN.out, if_neg h1, if_neg h5]; simpa using h0); clear h1 HN h5 h0; go_enter Tryz.func240, Tryz.ntmps240
       go_wp2_with fail; refine (next_any HP.out).mono ?_; rintro e w1 ⟨rfl, hb1⟩; have hz1 := hb1.size
       go_wp2_with fail; go_ret; exact ⟨ret_bool (by rw [HR.out]), (by (repeat' first | (with_reducible first | exact Below.refl _ _ | assumption | refine below_drewN ?_ _ | refine Below.drew ?_ | refine Below.alloc ?_ ?_ _ | refine Below.setCell ?_ ?_ _) | omega | (simp; done) | (simp; omega)))⟩
def SG (w : World) (b : Nat) (ss : List ByteArray) : Prop := ∀ j, j < ss.length → w.cell? ⟨b, 0 + j, none⟩ = some (.string (ss.getD j ByteArray.empty))
theorem containsS_any (ss : List ByteArray) (x : ByteArray) : Lib.containsS ss x = ss.any (fun s => x.toList == s.toList) := by
 rw [Bool.eq_iff_iff, Lib.containsS_iff, List.any_eq_true]; constructor
 · intro h; exact ⟨x, h, by simp⟩
 · rintro ⟨s, h1, h2⟩
   rw [eqs_true.1 h2]; exact h1
theorem anyP_cons' (ss : List ByteArray) (t : Tok) (us : List Tok) : anyP ss (t :: us) = (decide (t.kind = 5) && ss.any (fun s => t.text.toList == s.toList)) := rfl
theorem any_any (ss : List ByteArray) (b c : Nat) (h : PS w pb g n ts) (hs : SG w b ss) (hb : ss.length ≤ 10) :
 Calls Tryz.prog 106 #[.pointer (some ⟨pb, 0, none⟩), .slice (some ⟨b, 0, none⟩) ss.length c] w fun e w' => e = .returned (.bool (anyP ss ts)) ∧ Below w.heap.size w w' := by
 obtain ⟨t, us, rfl⟩ := h.split; have HP := Lib.hid h; have HN := Lib.hid (anyP_cons' ss t us); rw [← containsS_any] at HN; generalize anyP ss (t :: us) = r at *; have hf0 := fld0; have hf1 := fld1; have HS := Lib.hid hs; have HB := Lib.hid hb; clear h hs hb; obtain ⟨l, hl⟩ : ∃ l, ss.length = l := ⟨_, rfl⟩; have HL := Lib.hid hl; rw [hl]; clear hl; by_cases h5 : t.kind = 5
 · have h5' : (t.kind == 5) = true := by simpa using h5
   have HR := Lib.hid (show r = Lib.containsS ss t.text by rw [HN.out]; simp [h5]); clear h5 HN; go_enter Tryz.func106, Tryz.ntmps106
   go_wp2_with fail; refine (next_any HP.out).mono ?_; rintro e w1 ⟨rfl, hb1⟩; have hz1 := hb1.size
   go_wp2_with fail; refine (next_any (HP.out.below hb1 HP.out.lt)).mono ?_; rintro e w2 ⟨rfl, hb2⟩
   go_wp2_with fail; have hbA := hb1.trans (hb2.mono hz1); refine (Tryz.slices_Contains_string b 0 l c ss t.text _ (by rw [HL.out]; exact Nat.le_refl _) (by have := HB.out; have := HL.out; omega) (fun j hj => cell_keeps hbA (HS.out j hj))).mono ?_; rintro e w3 ⟨rfl, rfl⟩
   go_wp2_with fail; go_ret; exact ⟨ret_bool (by rw [HR.out, ← HL.out, List.take_length]), hbA⟩
 · have h5' : (t.kind == 5) = false := by simpa using h5
   have HR := Lib.hid (show r = false by rw [HN.out]; simp [h5]); clear h5 HN; go_enter Tryz.func106, Tryz.ntmps106
   go_wp2_with fail; refine (next_any HP.out).mono ?_; rintro e w1 ⟨rfl, hb1⟩; have hz1 := hb1.size
   go_wp2_with fail; go_ret; exact ⟨ret_bool (by rw [HR.out]), hb1⟩
end
open Go.RowKit Go.Shelf
section
variable {w : World} {pb g n : Nat} {t : Tok} {us ts : List Tok}
theorem binary_any {p : Nat → Prop} {x y : Nat} {a b : T} (hx : TR p w x a) (hy : TR p w y b) (hp : ∀ k, w.heap.size ≤ k → p k) :
 Calls Tryz.prog 107 #[.agg #[.int .i64 t.kind, .string t.text, .int .i64 t.num, .float .f64 t.bits, .int .i64 t.place], ptr x, ptr y] w fun e w' =>
  (∃ r, e = .returned (ptr r) ∧ TR p w' r (binT t a b)) ∧ Below w.heap.size w w' := by
 have hsf := store_f64; unfold ptr; go_enter Tryz.func107, Tryz.ntmps107
 go_wp2_with fail; go_ret; refine ⟨⟨_, rfl, ?_⟩, (by (repeat' first | (with_reducible first | exact Below.refl _ _ | assumption | refine below_drewN ?_ _ | refine Below.drew ?_ | refine Below.alloc ?_ ?_ _ | refine Below.setCell ?_ ?_ _) | omega | (simp; done) | (simp; omega)))⟩; have hk : Keeps p w (((w.alloc (.cells #[.int .i64 t.kind, .string t.text, .int .i64 t.num, .float .f64 t.bits, .int .i64 t.place] 54)).alloc (.cells #[.pointer (some ⟨x, 0, none⟩), .pointer (some ⟨y, 0, none⟩)] 51)).alloc
  (.cells #[.int .i64 18, .string t.text, .int .i64 0, .float .f64 0, .slice none 0 0, .slice none 0 0, .int .i64 t.place, .slice (some ⟨w.heap.size + 1, 0, none⟩) 2 2] 85)) := Below.keeps (by (repeat' first | (with_reducible first | exact Below.refl _ _ | assumption | refine below_drewN ?_ _ | refine Below.drew ?_ | refine Below.alloc ?_ ?_ _ | refine Below.setCell ?_ ?_ _) | omega | (simp; done) | (simp; omega)))
 have hz1 : w.heap.size + 1 + 1 = ((w.alloc (.cells #[.int .i64 t.kind, .string t.text, .int .i64 t.num, .float .f64 t.bits, .int .i64 t.place] 54)).alloc (.cells #[.pointer (some ⟨x, 0, none⟩), .pointer (some ⟨y, 0, none⟩)] 51)).heap.size := by simp
 exact TR.two (block_new _ _ hz1) (hp _ (by omega)) (block_alloc (block_new _ _ (by simp)) _) (hp _ (by omega)) (hx.keep hk) (hy.keep hk)
theorem deepP_cons (t : Tok) (us : List Tok) : deepP (t :: us) = .error (t.place, 9) := rfl
theorem level_at {f : Nat} {lb cap : Array Value} {F : List Tok → Res T} (ef : Enters Tryz.prog f) (h0 : n = 0 → F = deepP) (h : PS w pb g n ts)
 (hr : ∀ m, n = m + 1 → ∀ w', But pb w.heap.size w w' → PS w' pb g m ts → Calls Tryz.prog f (lb ++ cap) w' fun e w2 => RdPost pb g m w' (F ts) e w2) :
 Calls Tryz.prog 34 #[.pointer (some ⟨pb, 0, none⟩), .func (.func f) lb cap] w fun e w2 => RdPost pb g n w (F ts) e w2 := by
 have HP := Lib.hid h; obtain ⟨off, cp, h1, h2, h3, h4⟩ := h.cells; have c1 := block_cell (i := 1) h1 rfl; have f1 := block_free (i := 1) h1; have H1 := Lib.hid h1; have H2 := Lib.hid h2; have H3 := Lib.hid h3; have H4 := Lib.hid h4; have HG := Lib.hid h.good; have HLen := Lib.hid h.len; clear h1 h2 h3 h4; cases n with
 | zero =>
   rw [h0 rfl]; obtain ⟨t, us, rfl⟩ := h.split; rw [deepP_cons]; clear h0 hr h; go_enter Tryz.func34, Tryz.ntmps34
   go_wp2_with fail; refine (next_any HP.out).mono ?_; rintro e w1 ⟨rfl, hb1⟩
   go_wp2_with fail; refine (fail_any t 9 _).mono ?_; rintro e w2 ⟨rfl, hb2⟩; exact ⟨rfl, rfl, But.of (hb1.trans (hb2.mono hb1.size))⟩
 | succ m =>
   have HR := Lib.hid (hr m rfl); have hlev := h.lev; have he : ∀ (a : Array Value) (w : World), (callFunc f a).run Tryz.prog w = .ok (.enter f a) w := ef; have hB : PS (w.setCell ⟨pb, 1, none⟩ (.int .i64 (32 - ((m : Int) + 1) + 1))) pb g m ts := h.set (fun k hk => Below.heap_setCell _ _ _ _ (Nat.ne_of_lt hk)) (by
    rw [show (32 - ((m : Int) + 1) + 1) = 32 - (m : Int) by omega]; exact block_set H1.out _) H2.out H3.out H4.out HG.out HLen.out (by omega)
   have HB := Lib.hid hB; clear hB; have hlt := h.lt; clear h0 hr h; have hbt : But pb w.heap.size w (w.setCell ⟨pb, 1, none⟩ (.int .i64 (32 - ((m : Int) + 1) + 1))) := (But.refl pb w.heap.size w).setCell (p := ⟨pb, 1, none⟩) (Or.inl rfl) _; have hsz : (w.setCell ⟨pb, 1, none⟩ (.int .i64 (32 - ((m : Int) + 1) + 1))).heap.size = w.heap.size := by simp [World.setCell]
   go_enter Tryz.func34, Tryz.ntmps34; cases hF : F ts with
   | error x =>
     have HC := Lib.hid (HR.out _ hbt HB.out); rw [hF] at HC
     go_wp2_with fail; refine HC.out.mono ?_; rintro e w2 ⟨rfl, hb2⟩; exact ⟨rfl, rfl, hbt.andThen hb2 (by omega)⟩
   | ok r =>
     obtain ⟨a, us⟩ := r; have HC := Lib.hid (HR.out _ hbt HB.out); rw [hF] at HC
     go_wp2_with fail; refine HC.out.mono ?_; rintro e w2 ⟨⟨b, rfl, htr⟩, hp2, hb2⟩; have hbA := hbt.andThen hb2 (by omega); rw [hsz] at htr; unfold ptr; obtain ⟨off2, cp2, k1, k2, k3, k4⟩ := hp2.cells; have c1 := block_cell (i := 1) k1 rfl; have f1 := block_free (i := 1) k1
     go_wp2_with fail; go_ret; refine ⟨⟨b, rfl, htr.keep (fun k hk _ => Below.heap_setCell _ _ _ _ (by simp; omega))⟩, hp2.set (fun k hk => Below.heap_setCell _ _ _ _ (Nat.ne_of_lt hk)) (n' := m + 1) (off := off2) (cap := cp2) ?_ k2 k3 k4 hp2.good hp2.len hlev, hbA.setCell (p := ⟨pb, 1, none⟩) (Or.inl rfl) _⟩; rw [show (32 - (m : Int) - 1) = 32 - ((m + 1 : Nat) : Int) by omega]; exact block_set k1 _
theorem level_any {f : Nat} {lb cap : Array Value} {F : List Tok → Res T} (ef : Enters Tryz.prog f) (h0 : n = 0 → F = deepP) (hr : ∀ m, n = m + 1 → Reads pb g m f (lb ++ cap) F) :
 Reads pb g n 34 #[.pointer (some ⟨pb, 0, none⟩), .func (.func f) lb cap] F := fun _ ts h => level_at ef h0 h fun m hm _ _ hp => hr m hm _ ts hp
end
open Go.RowKit Go.Shelf
def lenP (w : World) (pb : Nat) : Nat := match w.cell? ⟨pb, 0, none⟩ with | some v => lenOf v | none => 0
section
variable {w w' : World} {pb g n : Nat} {t : Tok} {us ts : List Tok}
theorem PS.lenP (h : PS w pb g n ts) : lenP w pb = ts.length := by
 obtain ⟨off, cap, h1, _⟩ := h.cells; unfold Proofs.YtkoghgnjjfnamaaGreatDoor.lenP; rw [block_cell (i := 0) h1 rfl]; rfl
theorem SG.but {b : Nat} {ss : List ByteArray} {B : Nat} (h : SG w b ss) (hb : But pb B w w') (hB : b < B) (hn : b ≠ pb) : SG w' b ss := fun j hj => hb.cell hB hn (h j hj)
theorem SG.lt {b : Nat} {ss : List ByteArray} (h : SG w b ss) (hs : 0 < ss.length) : b < w.heap.size := World.block_lt_of_cell? w _ (h 0 hs)
theorem leftL_stop {A : List Tok → Res T} {ss : List ByteArray} {k : Nat} {a : T} (h : anyP ss ts = false) : leftL A ss k a ts = .ok (a, ts) := by
 cases k with
 | zero => rfl
 | succ k => unfold leftL; rw [h]; rfl
theorem leftL_go {A : List Tok → Res T} {ss : List ByteArray} {k : Nat} {a : T} (h : anyP ss (t :: us) = true) (hk : (t :: us).length ≤ k) :
 leftL A ss k a (t :: us) = match A us with | .ok (b, vs) => leftL A ss (k - 1) (binT t a b) vs | .error e => .error e := by
 cases k with
 | zero => simp at hk
 | succ k => conv => lhs; unfold leftL
             rw [h]; rfl
theorem left_any {f : Nat} {lb cap : Array Value} {A : List Tok → Res T} {ss : List ByteArray} {b c : Nat} (ef : Enters Tryz.prog f) (hA : Reads pb g n f (lb ++ cap) A) (hsA : Sh A) (hss : ss.length ≤ 10) (hs0 : 0 < ss.length) (hbp : b ≠ pb)
 (h : PS w pb g n ts) (hsg : SG w b ss) :
 Calls Tryz.prog 83 #[.pointer (some ⟨pb, 0, none⟩), .func (.func f) lb cap, .slice (some ⟨b, 0, none⟩) ss.length c] w fun e w' => RdPost pb g n w (leftP A ss ts) e w' := by
 have he : ∀ (a : Array Value) (w : World), (callFunc f a).run Tryz.prog w = .ok (.enter f a) w := ef; have hf0 := store_f64; have HA := Lib.hid hA; have HP := Lib.hid h; have HSG := Lib.hid hsg; have HSA := Lib.hid hsA; have HBP := Lib.hid hbp; have hbl := hsg.lt hs0; have HSS := Lib.hid hss; have HC := Lib.hid (hA w ts h); have hpl := h.lt; obtain ⟨l, hl⟩ : ∃ l, ss.length = l := ⟨_, rfl⟩; have HL := Lib.hid hl; rw [hl]; clear hA h hsg hsA hbp hss hs0 hl; go_enter Tryz.func83, Tryz.ntmps83; cases hF : A ts with
 | error x =>
   rw [hF] at HC; have hR : leftP A ss ts = .error x := by unfold leftP; rw [hF]
   rw [hR]; clear hR hF
   go_wp2_with fail; refine HC.out.mono ?_; rintro e w1 ⟨rfl, hb1⟩; exact ⟨rfl, rfl, hb1⟩
 | ok r =>
   obtain ⟨a, us⟩ := r; rw [hF] at HC; have hR : leftP A ss ts = leftL A ss us.length a us := by unfold leftP; rw [hF]
   rw [hR]; clear hR hF; obtain ⟨R, hR⟩ : ∃ R, leftL A ss us.length a us = R := ⟨_, rfl⟩; rw [hR]; have HR := Lib.hid hR; clear hR
   go_wp2_with fail; refine HC.out.mono ?_; rintro e w1 ⟨⟨x, rfl, htr⟩, hp1, hb1⟩; clear HC; unfold ptr
   go_wp2_with fail; go_loopw [7] (fun v wr => ∃ (x k : Nat) (a : T) (us : List Tok), v = .pointer (some ⟨x, 0, none⟩) ∧ TR (fun k => w.heap.size ≤ k) wr x a ∧ PS wr pb g n us ∧ But pb w.heap.size w wr ∧ us.length ≤ k ∧ Hid (leftL A ss k a us = R)) (fun _ wr => lenP wr pb)
   case atStart => exact ⟨x, _, a, us, rfl, htr, hp1, hb1, Nat.le_refl _, HR.out⟩
   case round =>
    clear hb1 hp1 htr HR; obtain ⟨x, k, a, us, rfl, htr, hp1, hb1, hk, HR⟩ := hrel; have hsg1 := HSG.out.but hb1 hbl HBP.out; have hz1 := hb1.size; have HANY := Lib.hid (any_any ss b c hp1 hsg1 HSS.out); rw [HL.out] at HANY; have HP1 := Lib.hid hp1; have HTR := Lib.hid htr; have HB1 := Lib.hid hb1; have HK := Lib.hid hk; have HLEN := Lib.hid hp1.lenP; have hpl1 := hp1.lt; clear hp1 htr hb1 hk hsg1; cases hany : anyP ss us with
    | false =>
      rw [hany] at HANY; have hR : R = .ok (a, us) := by rw [← HR.out, leftL_stop hany]
      subst hR; clear hany
      go_wp2_with fail; refine HANY.out.mono ?_; rintro e w2 ⟨rfl, hb2⟩
      go_wp2_with fail; go_ret; exact ⟨⟨x, rfl, HTR.out.keep (Below.keeps hb2)⟩, HP1.out.below hb2 HP1.out.lt, HB1.out.then hb2 hz1⟩
    | true =>
      rw [hany] at HANY; obtain ⟨t, us', rfl, hk5⟩ := anyP_cons hany; have hR := leftL_go (A := A) (a := a) hany HK.out; rw [HR.out] at hR; have HK5 := Lib.hid hk5; clear hany hk5 HR
      go_wp2_with fail; refine HANY.out.mono ?_; rintro e w2 ⟨rfl, hb2⟩; have hz2 := hb2.size
      go_wp2_with fail; refine (take_any (HP1.out.below hb2 HP1.out.lt) (by rw [HK5.out]; decide)).mono ?_; rintro e w3 ⟨rfl, hp3, hb3⟩; have hz3 := hb3.size
      go_wp2_with fail; have hz4 : w3.heap.size < (w3.alloc (Obj.cells #[.int .i64 t.kind, .string t.text, .int .i64 t.num, .float .f64 t.bits, .int .i64 t.place] 54)).heap.size := by simp
      have h4 := block_new w3 (Obj.cells #[.int .i64 t.kind, .string t.text, .int .i64 t.num, .float .f64 t.bits, .int .i64 t.place] 54) rfl; have hp4 := hp3.below (Below.alloc (Below.refl _ _) (Nat.le_refl _) (Obj.cells #[.int .i64 t.kind, .string t.text, .int .i64 t.num, .float .f64 t.bits, .int .i64 t.place] 54)) hp3.lt; have hb4 := ((HB1.out.then hb2 hz1).andThen hb3 (by omega)).alloc (by omega) (Obj.cells #[.int .i64 t.kind, .string t.text, .int .i64 t.num, .float .f64 t.bits, .int .i64 t.place] 54); have ht4 := HTR.out.keep (((But.of hb2).andThen hb3 hz2).alloc (by omega) (Obj.cells #[.int .i64 t.kind, .string t.text, .int .i64 t.num, .float .f64 t.bits, .int .i64 t.place] 54) |>.keeps (p := fun k => w.heap.size ≤ k) (Nat.le_refl _) (fun k hk => by omega)); have hzz : w3.heap.size ≠ pb := by have := hp3.lt; omega
      obtain ⟨z, hz⟩ : ∃ z, w3.heap.size = z := ⟨_, rfl⟩; rw [hz] at hz4 h4 hzz; rw [hz]; generalize (w3.alloc (Obj.cells #[.int .i64 t.kind, .string t.text, .int .i64 t.num, .float .f64 t.bits, .int .i64 t.place] 54)) = w4 at *; have keepS : ∀ w', But pb (z + 1) w4 w' → (w'.cell? ⟨z, 0, none⟩ = some (.int .i64 t.kind) ∧ w'.cell? ⟨z, 1, none⟩ = some (.string t.text) ∧ w'.cell? ⟨z, 2, none⟩ = some (.int .i64 t.num) ∧ w'.cell? ⟨z, 3, none⟩ = some (.float .f64 t.bits) ∧ w'.cell? ⟨z, 4, none⟩ = some (.int .i64 t.place)) := fun w' hb => by
       have h5 := hb.get (Nat.lt_succ_self z) hzz h4; exact ⟨block_cell h5 rfl, block_cell h5 rfl, block_cell h5 rfl, block_cell h5 rfl, block_cell h5 rfl⟩
      have HKS := Lib.hid keepS; have HB4 := Lib.hid hb4; have HT4 := Lib.hid ht4; have HP4 := Lib.hid hp4.drew; have HRR := Lib.hid hR; clear keepS hb4 ht4 hp4 hp3 hb3 hb2 hR h4; refine wp_region_held_drew (S := fun w' => w'.cell? ⟨z, 0, none⟩ = some (.int .i64 t.kind) ∧ w'.cell? ⟨z, 1, none⟩ = some (.string t.text) ∧ w'.cell? ⟨z, 2, none⟩ = some (.int .i64 t.num) ∧ w'.cell? ⟨z, 3, none⟩ = some (.float .f64 t.bits) ∧ w'.cell? ⟨z, 4, none⟩ = some (.int .i64 t.place)) (by kernel_rfl) (HKS.out _ (But.refl _ _ _).drew) (fun hHeld => ?_); refine wpAnyH_take (i := 0) (v := ?_) rfl (by kernel_rfl) (by kernel_rfl) (by kernel_rfl) (fun _ _ _ h => h) (Or.inl ⟨by rfl, (by intro w hSw; (try dsimp only at hSw); go_simp; (with_reducible rfl))⟩) (by assumption) ?_
      try simp only [Act.put, List.setIfInBounds_toArray, List.set_cons_succ, List.set_cons_zero]
      refine wpAnyH_take (i := 1) (v := ?_) rfl (by kernel_rfl) (by kernel_rfl) (by kernel_rfl) (fun _ _ _ h => h) (Or.inl ⟨by rfl, (by intro w hSw; (try dsimp only at hSw); go_simp; (with_reducible rfl))⟩) (by assumption) ?_
      try simp only [Act.put, List.setIfInBounds_toArray, List.set_cons_succ, List.set_cons_zero]
      refine wpAnyH_take (i := 2) (v := ?_) rfl (by kernel_rfl) (by kernel_rfl) (by kernel_rfl) (fun _ _ _ h => h) (Or.inl ⟨by rfl, (by intro w hSw; (try dsimp only at hSw); go_simp; (with_reducible rfl))⟩) (by assumption) ?_
      try simp only [Act.put, List.setIfInBounds_toArray, List.set_cons_succ, List.set_cons_zero]
      refine wpAnyH_ready (rs := [3]) (by kernel_rfl) (by simp) ?_; refine AllReadyH.cons (o := _) rfl (fun K hK => ?_) AllReadyH.nil; go_simp
      refine (HA.out _ _ HP4.out).mono ?_; intro e w5 h5; cases hF2 : A us' with
      | error er =>
        rw [hF2] at h5; obtain ⟨rfl, hb5⟩ := h5; have hRx := HRR.out; rw [hF2] at hRx; subst hRx; exact ⟨rfl, rfl, HB4.out.drew.andThen hb5 (by simp; omega)⟩
      | ok r2 =>
        obtain ⟨b5, v5⟩ := r2; rw [hF2] at h5; obtain ⟨⟨y, rfl, hy5⟩, hp5, hb5⟩ := h5; have hRx := HRR.out; rw [hF2] at hRx; have HRX := Lib.hid hRx; have hk5 : But pb (z + 1) w4 w5 := (But.refl pb (z + 1) w4).drew.andThen hb5 (by simp; omega); have hx5 := HT4.out.keep (((But.refl pb w4.heap.size w4).drew.andThen hb5 (by simp)).keeps (p := fun k => w.heap.size ≤ k) (Nat.le_refl _) (fun k hk => by omega)); have hy5' : TR (fun k => w.heap.size ≤ k) w5 y b5 := hy5.mono (fun k hk _ => by simp at hk; omega); have hbA := HB4.out.drew.andThen hb5 (by simp; omega); have hzA := hbA.size; have HVL := Lib.hid (HSA.out us' b5 v5 HP4.out.good hF2); have HX5 := Lib.hid hx5; have HY5 := Lib.hid hy5'; have HK5 := Lib.hid hk5; have HP5 := Lib.hid hp5; have HBA := Lib.hid hbA; clear hRx hF2 hx5 hy5 hy5' hk5 hp5 hbA hb5; unfold ptr; refine hK.out _ _ (HKS.out _ HK5.out) (fun hHeld => ?_); clear hK K
        try simp only [Act.put, List.setIfInBounds_toArray, List.set_cons_succ, List.set_cons_zero]
        refine wpAnyH_ready (rs := [4]) (by kernel_rfl) (by simp) ?_; refine AllReadyH.cons (o := _) rfl (fun K hK => ?_) AllReadyH.nil; go_simp
        refine (binary_any (p := fun k => w.heap.size ≤ k) HX5.out HY5.out (fun k hk => by omega)).mono ?_; rintro e w6 ⟨⟨r6, rfl, ht6⟩, hb6⟩; unfold ptr; refine hK.out _ _ (HKS.out _ (HK5.out.then hb6 (World.block_lt_of_cell? _ _ hHeld.1))) (fun hHeld => ?_); clear hK K
        try simp only [Act.put, List.setIfInBounds_toArray, List.set_cons_succ, List.set_cons_zero]
        refine wpAnyH_take (i := 5) (v := ?_) rfl (by kernel_rfl) (by kernel_rfl) (by kernel_rfl) (fun _ _ _ h => h) (Or.inl ⟨by rfl, (by intro w hSw; (try dsimp only at hSw); go_simp; (with_reducible rfl))⟩) (by assumption) ?_
        try simp only [Act.put, List.setIfInBounds_toArray, List.set_cons_succ, List.set_cons_zero]
        refine wpAnyH_done (by kernel_rfl) ?_ _
        go_wp2_with fail; have hp6 := HP5.out.below hb6 HP5.out.lt; refine ⟨⟨k - 1, binT t a b5, ht6, v5, hp6, HBA.out.then hb6 hzA, ?_, HRX.out.symm⟩, ?_⟩
        · have h1 := HVL.out.1
          have h2 := HK.out; simp at h2; omega
        · rw [hp6.lenP, HLEN.out]
          have h1 := HVL.out.1; simp
          omega
end
end Go.Proofs.YtkoghgnjjfnamaaGreatDoor
