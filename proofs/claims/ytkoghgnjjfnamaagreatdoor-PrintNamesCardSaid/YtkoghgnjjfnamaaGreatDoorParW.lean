/- ParW: what is used of them. -/
import Derived.Test.YtkoghgnjjfnamaaGreatDoorParV
namespace Go.Proofs.YtkoghgnjjfnamaaGreatDoor
set_option maxRecDepth 100000
set_option maxHeartbeats 8000000
open Go.RowKit Go.Shelf
def bracesQ (kind : Int) (place : Nat) (r : Except Er (Ar × List Tok)) : Res T := match r with
 | .error e => .error e
 | .ok (ar, us) => match needP ⟨#[125]⟩ us with
   | .error e => .error e
   | .ok us => .ok (rootOf kind place [] ar, us)
def needR {α : Type} (a : α) (r : Except Er (List Tok)) : Res α := match r with | .error e => .error e | .ok us => .ok (a, us)
theorem bracesP_is (F : List Tok → Res T) (kind : Int) (place : Nat) (ts : List Tok) : bracesP F kind place ts = bracesQ kind place (bindsL F ts.length [⟨[], [], place⟩] ts) := by
 unfold bracesP bindsP bracesQ; cases bindsL F ts.length [⟨[], [], place⟩] ts with
 | error e => rfl
 | ok r => rfl
def atomQ (L : PF) (t : Tok) (us : List Tok) : Res T :=
 if t.kind = 2 then .ok (.mk 1 ⟨#[]⟩ t.num 0 [] t.place [], us)
 else if t.kind = 3 then .ok (.mk 2 ⟨#[]⟩ 0 t.bits [] t.place [], us)
 else if t.kind = 4 then .ok (.mk 3 t.text 0 0 [] t.place [], us)
 else if t.text.toList == ([40] : List UInt8) then (match L.top us with
  | .error e => .error e
  | .ok (a, us) => needR a (needP ⟨#[41]⟩ us))
 else if t.text.toList == ([123] : List UInt8) then bracesP L.top 6 t.place us
 else if t.text.toList == ([114, 101, 99] : List UInt8) then (match needP ⟨#[123]⟩ us with
  | .error e => .error e
  | .ok us => bracesP L.top 7 t.place us)
 else .ok (.mk 4 t.text 0 0 [] t.place [], us)
theorem atomP_no {L : PF} {ts : List Tok} (h : begP ts = false) : atomP L ts = .error (wrongP ts) := by unfold atomP; rw [h]; rfl
theorem atomP_list {L : PF} {ts : List Tok} (h : begP ts = true) (h2 : isP ⟨#[91]⟩ ts = true) : atomP L ts = L.list ts := by unfold atomP; rw [h, h2]; rfl
theorem atomP_yes {L : PF} {t : Tok} {us : List Tok} (h : begP (t :: us) = true) (h2 : isP ⟨#[91]⟩ (t :: us) = false) : atomP L (t :: us) = atomQ L t us := by
 unfold atomP; rw [h, h2]; simp only [if_true, Bool.false_eq_true, if_false]; unfold atomQ needR; rw [show (⟨#[40]⟩ : ByteArray).toList = ([40] : List UInt8) from Lib.toList_data _, show (⟨#[123]⟩ : ByteArray).toList = ([123] : List UInt8) from Lib.toList_data _, show (⟨#[114, 101, 99]⟩ : ByteArray).toList = ([114, 101, 99] : List UInt8) from Lib.toList_data _]; split
 · rfl
 · split
   · rfl
   · split
     · rfl
     · split
       · cases L.top us with
         | error e => rfl
         | ok r =>
           obtain ⟨a, us⟩ := r; cases needP ⟨#[41]⟩ us <;> rfl
       · rfl
section
variable {w w' : World} {pb g n : Nat} {t : Tok} {us ts : List Tok} {L : PF}
theorem braces_any {F : List Tok → Res T} {kind : Int} {place : Nat} (hE : Reads pb g n 14 #[.pointer (some ⟨pb, 0, none⟩)] F) (hsF : Sh F) (h : PS w pb g n ts) :
 Calls Tryz.prog 243 #[.pointer (some ⟨pb, 0, none⟩), .agg #[.int .i64 kind, .string ⟨#[]⟩, .int .i64 0, .float .f64 0, .slice none 0 0, .slice none 0 0, .int .i64 (place : Int)]] w fun e w' => RdPost pb g n w (bracesP F kind place ts) e w' := by
 rw [bracesP_is]; have hbX : Below w.heap.size w (w.alloc (.cells #[.int .i64 kind, .string ⟨#[]⟩, .int .i64 0, .float .f64 0, .slice none 0 0, .slice none 0 0, .int .i64 (place : Int)] 36)) := (Below.refl _ _).alloc (Nat.le_refl _) _; have HB := Lib.hid (bindings_any (kind := kind) (place := place) hE hsF (h.below hbX h.lt)); have hzX := hbX.size; have hpl := h.lt; obtain ⟨R0, hR0⟩ : ∃ R, bindsL F ts.length [⟨[], [], place⟩] ts = R := ⟨_, rfl⟩; rw [hR0] at HB; rw [hR0]; obtain ⟨R, hR⟩ : ∃ R, bracesQ kind place R0 = R := ⟨_, rfl⟩; rw [hR]; have HR := Lib.hid hR; clear hE hsF h hR0 hR; go_enter Tryz.func243, Tryz.ntmps243
 go_wp2_with fail; refine HB.out.mono ?_; intro e w2 h2; cases R0 with
 | error x =>
   have hRx : R = .error x := by rw [← HR.out]; rfl
   subst hRx; obtain ⟨rfl, hb2⟩ := h2; exact ⟨rfl, rfl, (But.of hbX).andThen hb2 hzX⟩
 | ok r0 =>
   obtain ⟨ar, us0⟩ := r0; obtain ⟨⟨b, o, rfl, ho, _, hn⟩, hp2, hb2⟩ := h2; unfold ptr; obtain ⟨RS, hRS⟩ : ∃ R, needP ⟨#[125]⟩ us0 = R := ⟨_, rfl⟩; have HND := Lib.hid (hRS ▸ need_any ⟨#[125]⟩ hp2); have HRR := Lib.hid (show needR (rootOf kind place [] ar) RS = R by rw [← HR.out, ← hRS]; rfl); have HO := Lib.hid ho; have HN := Lib.hid hn; have hbA := (But.of hbX).andThen hb2 hzX; have hz2 := hb2.size; clear hRS ho hn hp2 hb2 HB
   go_wp2_with fail; cases RS with
   | error x =>
     have hRx : R = .error x := by rw [← HRR.out]; rfl
     subst hRx; refine HND.out.mono ?_; rintro e w3 ⟨rfl, hb3⟩; exact ⟨rfl, rfl, hbA.andThen hb3 (by omega)⟩
   | ok us3 =>
     have hRx : R = .ok (.mk kind ⟨#[]⟩ 0 0 o.names place (kidsOf ar o), us3) := by
      rw [← HRR.out]; show Except.ok (rootOf kind place [] ar, us3) = _; rw [rootOf_is kind place [] HO.out, List.append_nil]
     subst hRx; refine HND.out.mono ?_; rintro e w3 ⟨rfl, hp3, hb3⟩
     go_wp2_with fail; go_ret; refine ⟨⟨b, rfl, ?_⟩, hp3, hbA.andThen hb3 (by omega)⟩; exact ((HN.out.keep (hb3.keeps (Nat.le_refl _) (fun k hk => by omega))).tr).mono (fun k hk _ => by omega)
theorem atom_any (hE : Reads pb g n 14 #[.pointer (some ⟨pb, 0, none⟩)] L.top) (hsF : Sh L.top) (hL : ∀ (w : World) (ts : List Tok), PS w pb g n ts → isP ⟨#[91]⟩ ts = true → Calls Tryz.prog 34 #[.pointer (some ⟨pb, 0, none⟩), .func (.func 242) #[.pointer (some ⟨pb, 0, none⟩)] #[]] w fun e w' => RdPost pb g n w (L.list ts) e w') : Reads pb g n 241 #[.pointer (some ⟨pb, 0, none⟩)] (atomP L) := by
 intro w ts h; have hmf : ∀ (fn : Fn) (first cap : Array Value) (w : World), (Instr.makeFunc fn first cap).run Tryz.prog w = .ok (.func fn first cap) w := fun _ _ _ _ => rfl
 have hsf := store_f64; have hpl := h.lt; have HE := Lib.hid hE; have HSF := Lib.hid hsF; have HL := Lib.hid hL; have HP := Lib.hid h; have HBG := Lib.hid (begins_any h); clear hE hsF hL h; cases hbg : begP ts with
 | false =>
   rw [hbg] at HBG; rw [atomP_no hbg]; clear hbg; go_enter Tryz.func241, Tryz.ntmps241
   go_wp2_with fail; refine HBG.out.mono ?_; rintro e w1 ⟨rfl, hb1⟩
   go_wp2_with fail; refine (wrong_any (HP.out.below hb1 hpl)).mono ?_; rintro e w2 ⟨rfl, hb2⟩; exact ⟨rfl, rfl, But.of (hb1.trans (hb2.mono hb1.size))⟩
 | true =>
   rw [hbg] at HBG; cases hls : isP ⟨#[91]⟩ ts with
   | true =>
     rw [atomP_list hbg hls]; have HLS := Lib.hid hls; obtain ⟨R, hR⟩ : ∃ R, L.list ts = R := ⟨_, rfl⟩; have HRL := Lib.hid hR; rw [hR]; clear hbg hls hR; go_enter Tryz.func241, Tryz.ntmps241
     go_wp2_with fail; refine HBG.out.mono ?_; rintro e w1 ⟨rfl, hb1⟩; have hz1 := hb1.size; have hp1 := HP.out.below hb1 hpl; have HI := Lib.hid (HLS.out ▸ is_any ⟨#[91]⟩ hp1)
     go_wp2_with fail; refine HI.out.mono ?_; rintro e w2 ⟨rfl, hb2⟩; have hz2 := hb2.size; have hp2 := hp1.below hb2 hp1.lt; have HC := Lib.hid (HRL.out ▸ HL.out w2 ts hp2 HLS.out); have hb12 := hb1.trans (hb2.mono hz1); clear hp1 hp2 hb1 hb2
     go_wp2_with fail; cases R with
     | error x =>
       refine HC.out.mono ?_; rintro e w3 ⟨rfl, hb3⟩; exact ⟨rfl, rfl, (But.of hb12).andThen hb3 (by omega)⟩
     | ok r =>
       obtain ⟨a, us⟩ := r; refine HC.out.mono ?_; rintro e w3 ⟨⟨x, rfl, ht3⟩, hp3, hb3⟩; unfold ptr
       go_wp2_with fail; go_ret; exact ⟨⟨x, rfl, ht3.mono (fun k hk _ => by omega)⟩, hp3, (But.of hb12).andThen hb3 (by omega)⟩
   | false =>
     obtain ⟨t, us, rfl⟩ := HP.out.split; obtain ⟨_, _, hcons, hk0⟩ := begP_cons hbg; obtain ⟨rfl, rfl⟩ := List.cons.inj hcons; rw [atomP_yes hbg hls]; have HI0 := Lib.hid hls; have HK0 := Lib.hid hk0; obtain ⟨R, hR⟩ : ∃ R, atomQ L t us = R := ⟨_, rfl⟩; have HR := Lib.hid hR; rw [hR]; clear hbg hls hR hk0 hcons; by_cases h2 : t.kind = 2
     · have h2' : (t.kind == 2) = true := by simpa using h2
       have hRx : R = .ok (.mk 1 ⟨#[]⟩ t.num 0 [] t.place [], us) := by rw [← HR.out]; unfold atomQ; rw [if_pos h2]
       clear h2; subst hRx; go_enter Tryz.func241, Tryz.ntmps241
       go_wp2_with fail; refine HBG.out.mono ?_; rintro e w1 ⟨rfl, hb1⟩; have hz1 := hb1.size; have hp1 := HP.out.below hb1 hpl; have HI := Lib.hid (HI0.out ▸ is_any ⟨#[91]⟩ hp1)
       go_wp2_with fail; refine HI.out.mono ?_; rintro e w2 ⟨rfl, hb2⟩; have hz2 := hb2.size; have hp2 := hp1.below hb2 hp1.lt; have hb12 := hb1.trans (hb2.mono hz1)
       go_wp2_with fail; refine (take_any hp2 HK0.out).mono ?_; rintro e w3 ⟨rfl, hp3, hb3⟩; have hz3 := hb3.size; have hbA := ((But.of hb12).andThen hb3 (by omega)).alloc (by omega) (.cells #[.int .i64 t.kind, .string t.text, .int .i64 t.num, .float .f64 t.bits, .int .i64 t.place] 54); have hp4 := hp3.below ((Below.refl _ _).alloc (Nat.le_refl _) (.cells #[.int .i64 t.kind, .string t.text, .int .i64 t.num, .float .f64 t.bits, .int .i64 t.place] 54)) hp3.lt; have hz4 : w3.heap.size < (w3.alloc (.cells #[.int .i64 t.kind, .string t.text, .int .i64 t.num, .float .f64 t.bits, .int .i64 t.place] 54)).heap.size := by simp
       clear hp1 hp2 hb1 hb2 hb12 hp3 hb3
       go_wp2_with fail; go_ret; exact ⟨⟨w3.heap.size + 1, rfl, TR.leaf (block_new _ _ (by simp)) (show w.heap.size ≤ w3.heap.size + 1 by omega)⟩, hp4.below ((Below.refl _ _).alloc (Nat.le_refl _) _) hp4.lt, hbA.alloc (by omega) _⟩
     · have h2' : (t.kind == 2) = false := by simpa using h2
       by_cases h3 : t.kind = 3
       · have h3' : (t.kind == 3) = true := by simpa using h3
         have hRx : R = .ok (.mk 2 ⟨#[]⟩ 0 t.bits [] t.place [], us) := by rw [← HR.out]; unfold atomQ; rw [if_neg h2, if_pos h3]
         clear h2 h3; subst hRx; go_enter Tryz.func241, Tryz.ntmps241
         go_wp2_with fail; refine HBG.out.mono ?_; rintro e w1 ⟨rfl, hb1⟩; have hz1 := hb1.size; have hp1 := HP.out.below hb1 hpl; have HI := Lib.hid (HI0.out ▸ is_any ⟨#[91]⟩ hp1)
         go_wp2_with fail; refine HI.out.mono ?_; rintro e w2 ⟨rfl, hb2⟩; have hz2 := hb2.size; have hp2 := hp1.below hb2 hp1.lt; have hb12 := hb1.trans (hb2.mono hz1)
         go_wp2_with fail; refine (take_any hp2 HK0.out).mono ?_; rintro e w3 ⟨rfl, hp3, hb3⟩; have hz3 := hb3.size; have hbA := ((But.of hb12).andThen hb3 (by omega)).alloc (by omega) (.cells #[.int .i64 t.kind, .string t.text, .int .i64 t.num, .float .f64 t.bits, .int .i64 t.place] 54); have hp4 := hp3.below ((Below.refl _ _).alloc (Nat.le_refl _) (.cells #[.int .i64 t.kind, .string t.text, .int .i64 t.num, .float .f64 t.bits, .int .i64 t.place] 54)) hp3.lt; have hz4 : w3.heap.size < (w3.alloc (.cells #[.int .i64 t.kind, .string t.text, .int .i64 t.num, .float .f64 t.bits, .int .i64 t.place] 54)).heap.size := by simp
         clear hp1 hp2 hb1 hb2 hb12 hp3 hb3
         go_wp2_with fail; go_ret; exact ⟨⟨w3.heap.size + 1, rfl, TR.leaf (block_new _ _ (by simp)) (show w.heap.size ≤ w3.heap.size + 1 by omega)⟩, hp4.below ((Below.refl _ _).alloc (Nat.le_refl _) _) hp4.lt, hbA.alloc (by omega) _⟩
       · have h3' : (t.kind == 3) = false := by simpa using h3
         by_cases h4 : t.kind = 4
         · have h4' : (t.kind == 4) = true := by simpa using h4
           have hRx : R = .ok (.mk 3 t.text 0 0 [] t.place [], us) := by rw [← HR.out]; unfold atomQ; rw [if_neg h2, if_neg h3, if_pos h4]
           clear h2 h3 h4; subst hRx; go_enter Tryz.func241, Tryz.ntmps241
           go_wp2_with fail; refine HBG.out.mono ?_; rintro e w1 ⟨rfl, hb1⟩; have hz1 := hb1.size; have hp1 := HP.out.below hb1 hpl; have HI := Lib.hid (HI0.out ▸ is_any ⟨#[91]⟩ hp1)
           go_wp2_with fail; refine HI.out.mono ?_; rintro e w2 ⟨rfl, hb2⟩; have hz2 := hb2.size; have hp2 := hp1.below hb2 hp1.lt; have hb12 := hb1.trans (hb2.mono hz1)
           go_wp2_with fail; refine (take_any hp2 HK0.out).mono ?_; rintro e w3 ⟨rfl, hp3, hb3⟩; have hz3 := hb3.size; have hbA := ((But.of hb12).andThen hb3 (by omega)).alloc (by omega) (.cells #[.int .i64 t.kind, .string t.text, .int .i64 t.num, .float .f64 t.bits, .int .i64 t.place] 54); have hp4 := hp3.below ((Below.refl _ _).alloc (Nat.le_refl _) (.cells #[.int .i64 t.kind, .string t.text, .int .i64 t.num, .float .f64 t.bits, .int .i64 t.place] 54)) hp3.lt; have hz4 : w3.heap.size < (w3.alloc (.cells #[.int .i64 t.kind, .string t.text, .int .i64 t.num, .float .f64 t.bits, .int .i64 t.place] 54)).heap.size := by simp
           clear hp1 hp2 hb1 hb2 hb12 hp3 hb3
           go_wp2_with fail; go_ret; exact ⟨⟨w3.heap.size + 1, rfl, TR.leaf (block_new _ _ (by simp)) (show w.heap.size ≤ w3.heap.size + 1 by omega)⟩, hp4.below ((Below.refl _ _).alloc (Nat.le_refl _) _) hp4.lt, hbA.alloc (by omega) _⟩
         · have h4' : (t.kind == 4) = false := by simpa using h4
           cases h5 : t.text.toList == ([40] : List UInt8) with
           | true =>
             have HR5 := Lib.hid (show (match L.top us with | .error e => .error e | .ok (a, us) => needR a (needP ⟨#[41]⟩ us)) = R by rw [← HR.out]; unfold atomQ; rw [if_neg h2, if_neg h3, if_neg h4, if_pos h5]); clear h2 h3 h4; go_enter Tryz.func241, Tryz.ntmps241
             go_wp2_with fail; refine HBG.out.mono ?_; rintro e w1 ⟨rfl, hb1⟩; have hz1 := hb1.size; have hp1 := HP.out.below hb1 hpl; have HI := Lib.hid (HI0.out ▸ is_any ⟨#[91]⟩ hp1)
             go_wp2_with fail; refine HI.out.mono ?_; rintro e w2 ⟨rfl, hb2⟩; have hz2 := hb2.size; have hp2 := hp1.below hb2 hp1.lt; have hb12 := hb1.trans (hb2.mono hz1)
             go_wp2_with fail; refine (take_any hp2 HK0.out).mono ?_; rintro e w3 ⟨rfl, hp3, hb3⟩; have hz3 := hb3.size; have hbA := ((But.of hb12).andThen hb3 (by omega)).alloc (by omega) (.cells #[.int .i64 t.kind, .string t.text, .int .i64 t.num, .float .f64 t.bits, .int .i64 t.place] 54); have hp4 := hp3.below ((Below.refl _ _).alloc (Nat.le_refl _) (.cells #[.int .i64 t.kind, .string t.text, .int .i64 t.num, .float .f64 t.bits, .int .i64 t.place] 54)) hp3.lt; have hz4 : w3.heap.size < (w3.alloc (.cells #[.int .i64 t.kind, .string t.text, .int .i64 t.num, .float .f64 t.bits, .int .i64 t.place] 54)).heap.size := by simp
             clear hp1 hp2 hb1 hb2 hb12 hp3 hb3; obtain ⟨R1, hR1⟩ : ∃ R, L.top us = R := ⟨_, rfl⟩; have HC := Lib.hid (hR1 ▸ HE.out _ us hp4); have HR6 := HR5.out; rw [hR1] at HR6; have HR7 := Lib.hid HR6; clear HR6 hR1
             go_wp2_with fail; generalize (w3.alloc (.cells #[.int .i64 t.kind, .string t.text, .int .i64 t.num, .float .f64 t.bits, .int .i64 t.place] 54)) = w4 at *; cases R1 with
             | error x =>
               have hRx : R = .error x := by rw [← HR7.out]
               subst hRx; refine HC.out.mono ?_; rintro e w5 ⟨rfl, hb5⟩; exact ⟨rfl, rfl, hbA.andThen hb5 (by omega)⟩
             | ok r1 =>
               obtain ⟨a, us5⟩ := r1; refine HC.out.mono ?_; rintro e w5 ⟨⟨x, rfl, ht5⟩, hp5, hb5⟩; have hz5 := hb5.size; unfold ptr; obtain ⟨RS, hRS⟩ : ∃ R, needP ⟨#[41]⟩ us5 = R := ⟨_, rfl⟩; have HND := Lib.hid (hRS ▸ need_any ⟨#[41]⟩ hp5); have HRR := Lib.hid (show needR a RS = R by rw [← HR7.out, ← hRS]); have HT5 := Lib.hid ht5; have hbB := hbA.andThen hb5 (by omega); clear hRS ht5 hp5 hb5 HC
               go_wp2_with fail; cases RS with
               | error x =>
                 have hRx : R = .error x := by rw [← HRR.out]; rfl
                 subst hRx; refine HND.out.mono ?_; rintro e w6 ⟨rfl, hb6⟩; exact ⟨rfl, rfl, hbB.andThen hb6 (by omega)⟩
               | ok us6 =>
                 have hRx : R = .ok (a, us6) := by rw [← HRR.out]; rfl
                 subst hRx; refine HND.out.mono ?_; rintro e w6 ⟨rfl, hp6, hb6⟩
                 go_wp2_with fail; go_ret; exact ⟨⟨x, rfl, (HT5.out.keepAt hb6 (Nat.le_refl _) (fun k hk => by omega)).mono (fun k hk _ => by omega)⟩, hp6, hbB.andThen hb6 (by omega)⟩
           | false =>
             cases h6 : t.text.toList == ([123] : List UInt8) with
             | true =>
               have HR5 := Lib.hid (show bracesP L.top 6 t.place us = R by rw [← HR.out]; unfold atomQ; rw [if_neg h2, if_neg h3, if_neg h4, if_neg (by rw [h5]; simp), if_pos h6]); clear h2 h3 h4; go_enter Tryz.func241, Tryz.ntmps241
               go_wp2_with fail; refine HBG.out.mono ?_; rintro e w1 ⟨rfl, hb1⟩; have hz1 := hb1.size; have hp1 := HP.out.below hb1 hpl; have HI := Lib.hid (HI0.out ▸ is_any ⟨#[91]⟩ hp1)
               go_wp2_with fail; refine HI.out.mono ?_; rintro e w2 ⟨rfl, hb2⟩; have hz2 := hb2.size; have hp2 := hp1.below hb2 hp1.lt; have hb12 := hb1.trans (hb2.mono hz1)
               go_wp2_with fail; refine (take_any hp2 HK0.out).mono ?_; rintro e w3 ⟨rfl, hp3, hb3⟩; have hz3 := hb3.size; have hbA := ((But.of hb12).andThen hb3 (by omega)).alloc (by omega) (.cells #[.int .i64 t.kind, .string t.text, .int .i64 t.num, .float .f64 t.bits, .int .i64 t.place] 54); have hp4 := hp3.below ((Below.refl _ _).alloc (Nat.le_refl _) (.cells #[.int .i64 t.kind, .string t.text, .int .i64 t.num, .float .f64 t.bits, .int .i64 t.place] 54)) hp3.lt; have hz4 : w3.heap.size < (w3.alloc (.cells #[.int .i64 t.kind, .string t.text, .int .i64 t.num, .float .f64 t.bits, .int .i64 t.place] 54)).heap.size := by simp
               clear hp1 hp2 hb1 hb2 hb12 hp3 hb3; have HC := Lib.hid (HR5.out ▸ braces_any (kind := 6) (place := t.place) HE.out HSF.out hp4)
               go_wp2_with fail; generalize (w3.alloc (.cells #[.int .i64 t.kind, .string t.text, .int .i64 t.num, .float .f64 t.bits, .int .i64 t.place] 54)) = w4 at *; cases R with
               | error x =>
                 refine HC.out.mono ?_; rintro e w5 ⟨rfl, hb5⟩; exact ⟨rfl, rfl, hbA.andThen hb5 (by omega)⟩
               | ok r1 =>
                 obtain ⟨a, us5⟩ := r1; refine HC.out.mono ?_; rintro e w5 ⟨⟨x, rfl, ht5⟩, hp5, hb5⟩; unfold ptr
                 go_wp2_with fail; go_ret; exact ⟨⟨x, rfl, ht5.mono (fun k hk _ => by omega)⟩, hp5, hbA.andThen hb5 (by omega)⟩
             | false =>
               cases h7 : t.text.toList == ([114, 101, 99] : List UInt8) with
               | true =>
                 have HR5 := Lib.hid (show (match needP ⟨#[123]⟩ us with | .error e => .error e | .ok us => bracesP L.top 7 t.place us) = R by rw [← HR.out]; unfold atomQ; rw [if_neg h2, if_neg h3, if_neg h4, if_neg (by rw [h5]; simp), if_neg (by rw [h6]; simp), if_pos h7]); clear h2 h3 h4; go_enter Tryz.func241, Tryz.ntmps241
                 go_wp2_with fail; refine HBG.out.mono ?_; rintro e w1 ⟨rfl, hb1⟩; have hz1 := hb1.size; have hp1 := HP.out.below hb1 hpl; have HI := Lib.hid (HI0.out ▸ is_any ⟨#[91]⟩ hp1)
                 go_wp2_with fail; refine HI.out.mono ?_; rintro e w2 ⟨rfl, hb2⟩; have hz2 := hb2.size; have hp2 := hp1.below hb2 hp1.lt; have hb12 := hb1.trans (hb2.mono hz1)
                 go_wp2_with fail; refine (take_any hp2 HK0.out).mono ?_; rintro e w3 ⟨rfl, hp3, hb3⟩; have hz3 := hb3.size; have hbA := ((But.of hb12).andThen hb3 (by omega)).alloc (by omega) (.cells #[.int .i64 t.kind, .string t.text, .int .i64 t.num, .float .f64 t.bits, .int .i64 t.place] 54); have hp4 := hp3.below ((Below.refl _ _).alloc (Nat.le_refl _) (.cells #[.int .i64 t.kind, .string t.text, .int .i64 t.num, .float .f64 t.bits, .int .i64 t.place] 54)) hp3.lt; have hz4 : w3.heap.size < (w3.alloc (.cells #[.int .i64 t.kind, .string t.text, .int .i64 t.num, .float .f64 t.bits, .int .i64 t.place] 54)).heap.size := by simp
                 clear hp1 hp2 hb1 hb2 hb12 hp3 hb3; obtain ⟨RS, hRS⟩ : ∃ R, needP ⟨#[123]⟩ us = R := ⟨_, rfl⟩; have HND := Lib.hid (hRS ▸ need_any ⟨#[123]⟩ hp4); have HR6 := HR5.out; rw [hRS] at HR6; have HR7 := Lib.hid HR6; have ht4 := block_new w3 (.cells #[.int .i64 t.kind, .string t.text, .int .i64 t.num, .float .f64 t.bits, .int .i64 t.place] 54) rfl; have hl4 := block_lt ht4; have hzq : w3.heap.size ≠ pb := by have := hp4.lt; simp at this; omega
                 clear HR6 hRS
                 go_wp2_with fail; generalize (w3.alloc (.cells #[.int .i64 t.kind, .string t.text, .int .i64 t.num, .float .f64 t.bits, .int .i64 t.place] 54)) = w4 at *; cases RS with
                 | error x =>
                   have hRx : R = .error x := by rw [← HR7.out]
                   subst hRx; refine HND.out.mono ?_; rintro e w5 ⟨rfl, hb5⟩; exact ⟨rfl, rfl, hbA.andThen hb5 (by omega)⟩
                 | ok us5 =>
                   refine HND.out.mono ?_; rintro e w5 ⟨rfl, hp5, hb5⟩; have hz5 := hb5.size; have hR8 : bracesP L.top 7 t.place us5 = R := HR7.out; have HC := Lib.hid (hR8 ▸ braces_any (kind := 7) (place := t.place) HE.out HSF.out hp5); have k4 := block_cell (i := 4) (hb5.get hl4 hzq ht4) rfl; have hbB := hbA.andThen hb5 (by omega); clear hp5 hb5 HND hR8
                   go_wp2_with fail; cases R with
                   | error x =>
                     refine HC.out.mono ?_; rintro e w6 ⟨rfl, hb6⟩; exact ⟨rfl, rfl, hbB.andThen hb6 (by omega)⟩
                   | ok r1 =>
                     obtain ⟨a, us6⟩ := r1; refine HC.out.mono ?_; rintro e w6 ⟨⟨x, rfl, ht6⟩, hp6, hb6⟩; unfold ptr
                     go_wp2_with fail; go_ret; exact ⟨⟨x, rfl, ht6.mono (fun k hk _ => by omega)⟩, hp6, hbB.andThen hb6 (by omega)⟩
               | false =>
                 have hRx : R = .ok (.mk 4 t.text 0 0 [] t.place [], us) := by rw [← HR.out]; unfold atomQ; rw [if_neg h2, if_neg h3, if_neg h4, if_neg (by rw [h5]; simp), if_neg (by rw [h6]; simp), if_neg (by rw [h7]; simp)]
                 clear h2 h3 h4; subst hRx; go_enter Tryz.func241, Tryz.ntmps241
                 go_wp2_with fail; refine HBG.out.mono ?_; rintro e w1 ⟨rfl, hb1⟩; have hz1 := hb1.size; have hp1 := HP.out.below hb1 hpl; have HI := Lib.hid (HI0.out ▸ is_any ⟨#[91]⟩ hp1)
                 go_wp2_with fail; refine HI.out.mono ?_; rintro e w2 ⟨rfl, hb2⟩; have hz2 := hb2.size; have hp2 := hp1.below hb2 hp1.lt; have hb12 := hb1.trans (hb2.mono hz1)
                 go_wp2_with fail; refine (take_any hp2 HK0.out).mono ?_; rintro e w3 ⟨rfl, hp3, hb3⟩; have hz3 := hb3.size; have hbA := ((But.of hb12).andThen hb3 (by omega)).alloc (by omega) (.cells #[.int .i64 t.kind, .string t.text, .int .i64 t.num, .float .f64 t.bits, .int .i64 t.place] 54); have hp4 := hp3.below ((Below.refl _ _).alloc (Nat.le_refl _) (.cells #[.int .i64 t.kind, .string t.text, .int .i64 t.num, .float .f64 t.bits, .int .i64 t.place] 54)) hp3.lt; have hz4 : w3.heap.size < (w3.alloc (.cells #[.int .i64 t.kind, .string t.text, .int .i64 t.num, .float .f64 t.bits, .int .i64 t.place] 54)).heap.size := by simp
                 clear hp1 hp2 hb1 hb2 hb12 hp3 hb3
                 go_wp2_with fail; go_ret; exact ⟨⟨w3.heap.size + 1, rfl, TR.leaf (block_new _ _ (by simp)) (show w.heap.size ≤ w3.heap.size + 1 by omega)⟩, hp4.below ((Below.refl _ _).alloc (Nat.le_refl _) _) hp4.lt, hbA.alloc (by omega) _⟩
end
end Go.Proofs.YtkoghgnjjfnamaaGreatDoor
