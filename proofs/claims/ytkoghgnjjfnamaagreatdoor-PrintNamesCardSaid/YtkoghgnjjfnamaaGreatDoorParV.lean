/- ParV: what is used of them. -/
import Derived.Test.YtkoghgnjjfnamaaGreatDoorParU
set_option linter.unusedSimpArgs false
namespace Go.Proofs.YtkoghgnjjfnamaaGreatDoor
set_option maxRecDepth 100000
set_option maxHeartbeats 4000000
open Go.RowKit Go.Shelf
theorem addAt_place (ar : Ar) (i : Nat) (s : ByteArray) (k : Kid) : (ar.addAt i s k).map SO.place = ar.map SO.place := by
 unfold Ar.addAt; apply List.ext_getElem?
 intro j; rw [List.getElem?_map, List.getElem?_map, List.getElem?_modify]; cases ar[j]? with
 | none => rfl
 | some o =>
   by_cases h : i = j
   · simp [h, SO.add]
   · simp [h]
theorem makeP_place (place : Nat) : ∀ (rest : List ByteArray) (ar : Ar) (a : Nat), 0 < ar.length → ((makeP place ar a rest).1.map SO.place).head? = (ar.map SO.place).head?
 | [], ar, a, _ => rfl
 | s :: rest, ar, a, h => by
   show ((makeP place (ar.addAt a s (.made ar.length) ++ [⟨[], [], place⟩]) ar.length rest).1.map SO.place).head? = _; rw [makeP_place place rest _ _ (by simp), List.map_append, addAt_place]; cases ar with
   | nil => simp at h
   | cons o r => rfl
theorem bindP_place {F : List Tok → Res T} {ar ar' : Ar} {ts us : List Tok} (h0 : 0 < ar.length) (h : bindP F ar ts = .ok (ar', us)) : (ar'.map SO.place).head? = (ar.map SO.place).head? := by
 unfold bindP at h; split at h
 · cases h
 · split at h
   · cases h
   · split at h
     · cases h
     · split at h
       · cases h
       · split at h
         · cases h
         · split at h
           · cases h
           · split at h
             · cases h
             · cases h
               rw [addAt_place, makeP_place _ _ _ _ h0]
def BsPost (pb g n : Nat) (kind : Int) (place : Nat) (w : World) (res : Except Er (Ar × List Tok)) (e : Ending) (w' : World) : Prop :=
 match res with
 | .ok (ar, us) => (∃ b o, e = .returned (ptr b) ∧ ar[0]? = some o ∧ (kidsOf ar o).length ≤ 9000 ∧ NodeR w.heap.size w' b kind place o.names (kidsOf ar o)) ∧ PS w' pb g n us ∧ But pb w.heap.size w w'
 | .error (p, er) => e = .panicked (stopV p er) ∧ But pb w.heap.size w w'
section
variable {w w' : World} {pb g n : Nat} {t : Tok} {us ts : List Tok}
theorem inhL_stop {k : Nat} {ar : Ar} (h : nameT t = false) : inhL k ar (t :: us) = .ok (ar, t :: us) := by
 cases k with
 | zero => rfl
 | succ k => unfold inhL; simp only; rw [h]; rfl
theorem inhL_go {k : Nat} {ar : Ar} {o : SO} (h : nameT t = true) (ho : ar[0]? = some o) (hk : (t :: us).length ≤ k) : inhL k ar (t :: us) = if o.names.any (fun s => s.toList == t.text.toList) then .error (t.place, 10) else inhL (k - 1) (ar.addAt 0 t.text (.leaf (leafI t))) us := by
 cases k with
 | zero => simp at hk
 | succ k =>
   conv => lhs; unfold inhL
   simp only
   rw [h]; have : (ar.head?.map (·.names)).getD [] = o.names := by rw [List.head?_eq_getElem?, ho]; rfl
   rw [this]; rfl
def bindsN (F : List Tok → Res T) (k : Nat) (r : Except Er (Ar × List Tok)) : Except Er (Ar × List Tok) := match r with | .error e => .error e | .ok (ar, us) => bindsL F k ar us
def bindsS (F : List Tok → Res T) (k : Nat) (ar : Ar) (r : Except Er (List Tok)) : Except Er (Ar × List Tok) := match r with | .error e => .error e | .ok us => bindsL F k ar us
def bindsI (F : List Tok → Res T) (k : Nat) (r : Except Er (Ar × List Tok)) : Except Er (Ar × List Tok) := match r with | .error e => .error e | .ok (ar, us) => (match needP ⟨#[59]⟩ us with | .error e => .error e | .ok us => bindsL F k ar us)
theorem bindsL_inh {F : List Tok → Res T} {k : Nat} {ar : Ar} (h : isT ⟨#[105, 110, 104, 101, 114, 105, 116]⟩ t = true) (hk : (t :: us).length ≤ k) : bindsL F k ar (t :: us) = bindsI F (k - 1) (inhL us.length ar us) := by
 cases k with
 | zero => simp at hk
 | succ k =>
   conv => lhs; unfold bindsL
   simp only
   rw [h]; unfold bindsI; cases inhL us.length ar us with
   | error e => rfl
   | ok r => rfl
theorem bindsL_bind {F : List Tok → Res T} {k : Nat} {ar : Ar} (h : isT ⟨#[105, 110, 104, 101, 114, 105, 116]⟩ t = false) (hb : (nameT t || decide (t.kind = 4)) = true) (hk : (t :: us).length ≤ k) : bindsL F k ar (t :: us) = bindsN F (k - 1) (bindP F ar (t :: us)) := by
 cases k with
 | zero => simp at hk
 | succ k =>
   conv => lhs; unfold bindsL
   simp only
   rw [h, hb]; unfold bindsN; cases bindP F ar (t :: us) with
   | error e => rfl
   | ok r => rfl
theorem bindsL_stop {F : List Tok → Res T} {k : Nat} {ar : Ar} (h : isT ⟨#[105, 110, 104, 101, 114, 105, 116]⟩ t = false) (hb : (nameT t || decide (t.kind = 4)) = false) : bindsL F k ar (t :: us) = .ok (ar, t :: us) := by
 cases k with
 | zero => rfl
 | succ k => unfold bindsL; simp only; rw [h, hb]; rfl
theorem bindings_any {F : List Tok → Res T} {kind : Int} {place : Nat} (hE : Reads pb g n 14 #[.pointer (some ⟨pb, 0, none⟩)] F) (hsF : Sh F) (h : PS w pb g n ts) :
 Calls Tryz.prog 61 #[.pointer (some ⟨pb, 0, none⟩), .agg #[.int .i64 kind, .string ⟨#[]⟩, .int .i64 0, .float .f64 0, .slice none 0 0, .slice none 0 0, .int .i64 (place : Int)]] w fun e w' =>
  BsPost pb g n kind place w (bindsL F ts.length [⟨[], [], place⟩] ts) e w' := by
 have hsf := store_f64; have hmm : ∀ W : World, (Instr.makeMap 126 none).run Tryz.prog W = .ok (.map (some W.heap.size)) (W.alloc (.map #[] 0)) := fun _ => rfl
 have HE := Lib.hid hE; have HSF := Lib.hid hsF; have hpl := h.lt; obtain ⟨R, hR⟩ : ∃ R, bindsL F ts.length [⟨[], [], place⟩] ts = R := ⟨_, rfl⟩; rw [hR]; have HR := Lib.hid hR; have hts := h.len; have hbA : Below w.heap.size w (((w.alloc (.cells #[.int .i64 kind, .string ⟨#[]⟩, .int .i64 0, .float .f64 0, .slice none 0 0, .slice none 0 0, .int .i64 (place : Int)] 36)).alloc (.cells #[.int .i64 kind, .string ⟨#[]⟩, .int .i64 0, .float .f64 0, .slice none 0 0, .slice none 0 0, .int .i64 (place : Int), .slice none 0 0] 85)).alloc (.map #[] 0)) := (by (repeat' first | (with_reducible first | exact Below.refl _ _ | assumption | refine below_drewN ?_ _ | refine Below.drew ?_ | refine Below.alloc ?_ ?_ _ | refine Below.setCell ?_ ?_ _) | omega | (simp; done) | (simp; omega))); have hAS := AR.start (lo := w.heap.size) kind place (w.alloc (.cells #[.int .i64 kind, .string ⟨#[]⟩, .int .i64 0, .float .f64 0, .slice none 0 0, .slice none 0 0, .int .i64 (place : Int)] 36)) (by simp); unfold setC at hAS; obtain ⟨L0, hL0, hB0, hm0⟩ : ∃ L0 : Loc, AR w.heap.size kind 0 (((w.alloc (.cells #[.int .i64 kind, .string ⟨#[]⟩, .int .i64 0, .float .f64 0, .slice none 0 0, .slice none 0 0, .int .i64 (place : Int)] 36)).alloc (.cells #[.int .i64 kind, .string ⟨#[]⟩, .int .i64 0, .float .f64 0, .slice none 0 0, .slice none 0 0, .int .i64 (place : Int), .slice none 0 0] 85)).alloc (.map #[] 0)) L0 [⟨[], [], place⟩] ∧ L0.B 0 = w.heap.size + 1 ∧ L0.m = w.heap.size + 1 + 1 := ⟨_, hAS, by simp, by simp⟩; have hpA := h.below hbA h.lt; have HB0 := Lib.hid hB0; have HM0 := Lib.hid hm0; clear hE hsF h hR hAS hB0 hm0; go_enter Tryz.func61, Tryz.ntmps61
 go_wp2_with fail; obtain ⟨m0, hm0⟩ : ∃ m, w.heap.size + 1 + 1 = m := ⟨_, rfl⟩; have HM1 := Lib.hid (HM0.out.trans hm0); generalize hwA : ((w.alloc (.cells #[.int .i64 kind, .string ⟨#[]⟩, .int .i64 0, .float .f64 0, .slice none 0 0, .slice none 0 0, .int .i64 (place : Int)] 36)).alloc (.cells #[.int .i64 kind, .string ⟨#[]⟩, .int .i64 0, .float .f64 0, .slice none 0 0, .slice none 0 0, .int .i64 (place : Int), .slice none 0 0] 85)).alloc (.map #[] 0) = wA at *; obtain ⟨b0, hb0⟩ : ∃ b, w.heap.size + 1 = b := ⟨_, rfl⟩; have HB1 := Lib.hid (HB0.out.trans hb0); rw [hm0, hb0]; have HWA := Lib.hid hwA; clear HM0 HB0 hm0 hb0 hwA; go_loopw [7, 8, 16, 51] (fun _ _ _ _ wr => ∃ (k N : Nat) (L : Loc) (ar : Ar) (us : List Tok), AR w.heap.size kind N wr L ar ∧ L.B 0 = b0 ∧ L.m = m0 ∧ PS wr pb g n us ∧ But pb w.heap.size w wr ∧ us.length ≤ k ∧ N + us.length ≤ 5000 ∧ (ar.map SO.place).head? = some place ∧ Hid (bindsL F k ar us = R)) (fun _ _ _ _ wr => lenP wr pb)
 case atStart => exact ⟨ts.length, 0, L0, _, ts, hL0, HB1.out, HM1.out, hpA, But.of hbA, Nat.le_refl _, by omega, rfl, HR.out⟩
 case round =>
  clear hL0 hpA hbA HR HWA hts; obtain ⟨k, N, L, ar, us, hA, hB, hM, hp, hb, hk, hN, hpl0, HR⟩ := hrel; obtain ⟨t, us', rfl⟩ := hp.split; have hzr := hb.size; have HP := Lib.hid hp; have HA := Lib.hid hA; have HBT := Lib.hid hb; have HK := Lib.hid hk; have HN := Lib.hid hN; have HPL := Lib.hid hpl0; have HLP := Lib.hid hp.lenP; have hplr := hp.lt; have HB := Lib.hid hB; have HM := Lib.hid hM; clear hp hA hb hk hN hpl0 hB hM
  go_wp2_with fail; refine (next_any HP.out).mono ?_; rintro e w2 ⟨rfl, hb2⟩; have hz2 := hb2.size; have hb3 : Below wr.heap.size wr (w2.alloc (.cells #[.int .i64 t.kind, .string t.text, .int .i64 t.num, .float .f64 t.bits, .int .i64 t.place] 54)) := hb2.alloc hz2 _; have ht3 := block_new w2 (.cells #[.int .i64 t.kind, .string t.text, .int .i64 t.num, .float .f64 t.bits, .int .i64 t.place] 54) rfl; have hp3 := HP.out.below hb3 hplr
  go_wp2_with fail; generalize w2.alloc (.cells #[.int .i64 t.kind, .string t.text, .int .i64 t.num, .float .f64 t.bits, .int .i64 t.place] 54) = w3 at *; refine (is_any ⟨#[105, 110, 104, 101, 114, 105, 116]⟩ hp3).mono ?_; rintro e w4 ⟨rfl, hb4⟩; have hz3 := hb3.size; have hz4 := hb4.size; have hb34 := hb3.trans (hb4.mono hz3); have HP4 := Lib.hid (HP.out.below hb34 hplr); have HA4 := Lib.hid (HA.out.below hb34); have HB4 := Lib.hid (HBT.out.then hb34 hzr); have HT4 := Lib.hid (block_below ht3 hb4); have htl := block_lt HT4.out; clear hb3 ht3 hp3 hb4 hb34 hb2; cases hinh : isP ⟨#[105, 110, 104, 101, 114, 105, 116]⟩ (t :: us') with
  | true =>
    have HI := Lib.hid (show isT ⟨#[105, 110, 104, 101, 114, 105, 116]⟩ t = true from hinh); have HRI := Lib.hid ((bindsL_inh (F := F) (ar := ar) (k := k) HI.out HK.out).symm.trans HR.out); obtain ⟨RI, hRI⟩ : ∃ R, inhL us'.length ar us' = R := ⟨_, rfl⟩; have HRI2 := Lib.hid (hRI ▸ HRI.out); have HRI3 := Lib.hid hRI; clear hinh hRI HRI HR
    go_wp2_with fail; refine (take_any HP4.out (isT_kind HI.out)).mono ?_; rintro e w5 ⟨rfl, hp5, hb5⟩; have hz5 := hb5.size; have hA5 := HA4.out.but hb5 (Nat.le_refl _) hpl; have hB5 := HB4.out.andThen hb5 (by omega); have hn5 : N + us'.length ≤ 4999 := by have := HN.out; simp at this; omega
    have hL1 : us'.length + 1 ≤ k := by have := HK.out; simpa using this
    go_wp2_with fail; go_loopw [8] (fun _ wx => ∃ (k2 N2 : Nat) (L2 : Loc) (ar2 : Ar) (us2 : List Tok), AR w.heap.size kind N2 wx L2 ar2 ∧ L2.B 0 = b0 ∧ L2.m = m0 ∧ PS wx pb g n us2 ∧ But pb w.heap.size w wx ∧ us2.length ≤ k2 ∧ us2.length ≤ us'.length ∧ N2 + us2.length ≤ 4999 ∧ (ar2.map SO.place).head? = some place ∧ Hid (inhL k2 ar2 us2 = RI)) (fun _ wx => lenP wx pb)
    case atStart => exact ⟨us'.length, N, L, ar, us', hA5, HB.out, HM.out, hp5, hB5, Nat.le_refl _, Nat.le_refl _, hn5, HPL.out, HRI3.out⟩
    case round =>
     clear hA5 hB5 hp5 hn5 HRI3; obtain ⟨k2, N2, L2, ar2, us2, hA, hB, hM, hp, hb, hk, hku, hN, hpl0, HRJ⟩ := hrel; obtain ⟨t2, us3, rfl⟩ := hp.split; have hzx := hb.size; have hplx := hp.lt; have HPX := Lib.hid hp; have HAX := Lib.hid hA; have HBX := Lib.hid hb; have HKX := Lib.hid hk; have HKU := Lib.hid hku; have HNX := Lib.hid hN; have HPLX := Lib.hid hpl0; have HLPX := Lib.hid hp.lenP; have HBX0 := Lib.hid hB; have HMX := Lib.hid hM; clear hp hA hb hk hku hN hpl0 hB hM
     go_wp2_with fail; refine (next_any HPX.out).mono ?_; rintro e w6 ⟨rfl, hb6⟩; have hz6 := hb6.size
     go_wp2_with fail; refine (name_any t2 _).mono ?_; rintro e w7 ⟨rfl, hb7⟩; have hb67 := hb6.trans (hb7.mono hz6); have hz7 := hb67.size; have HP7 := Lib.hid (HPX.out.below hb67 hplx); have HA7 := Lib.hid (HAX.out.below hb67); have HB7 := Lib.hid (HBX.out.then hb67 hzx); have hpl7 := HP7.out.lt; clear hb6 hb7 hb67; cases hn2 : nameT t2 with
     | false =>
       have HRK := Lib.hid (show bindsI F (k - 1) (.ok (ar2, t2 :: us3)) = R by rw [← HRI2.out, ← HRJ.out, inhL_stop hn2]); obtain ⟨RS, hRS⟩ : ∃ R, needP ⟨#[59]⟩ (t2 :: us3) = R := ⟨_, rfl⟩; have HND := Lib.hid (hRS ▸ need_any ⟨#[59]⟩ HP7.out); have HDS := Lib.hid (show ∀ v, RS = .ok v → v.length < (t2 :: us3).length from fun v e => (needP_ok HP7.out.good (hRS.trans e)).1); have HRL := Lib.hid (show bindsS F (k - 1) ar2 RS = R by rw [← HRK.out, ← hRS]; rfl); clear hn2 HRK hRS HRJ
       go_wp2_with fail; cases RS with
       | error x =>
         have hRx : R = .error x := by rw [← HRL.out]; rfl
         subst hRx; refine HND.out.mono ?_; rintro e w9 ⟨rfl, hb9⟩; exact ⟨rfl, rfl, HB7.out.andThen hb9 (by omega)⟩
       | ok us9 =>
         refine HND.out.mono ?_; rintro e w9 ⟨rfl, hp9, hb9⟩; have hA9 := HA7.out.but hb9 (Nat.le_refl _) hpl; have hd := HDS.out us9 rfl; have hku := HKU.out; have hN2 := HNX.out; have hlp := HLP.out; have hb99 := HB7.out.andThen hb9 (by omega); simp at hd hku hN2 hlp; have HA9 := Lib.hid hA9; have HB9 := Lib.hid hb99; have HP9 := Lib.hid hp9; have HL9 := Lib.hid hp9.lenP; clear hA9 hb9 hb99 hp9
         go_wp2_with fail; refine ⟨⟨k - 1, N2, L2, ar2, us9, HA9.out, HBX0.out, HMX.out, HP9.out, HB9.out, by omega, by omega, HPLX.out, HRL.out⟩, ?_⟩; rw [HL9.out, hlp]; omega
     | true =>
       have hal := HA7.out.pos; have ho2 := List.getElem?_eq_getElem hal; obtain ⟨o2, hoe⟩ : ∃ o, ar2[0] = o := ⟨_, rfl⟩; rw [hoe] at ho2; have HRK := Lib.hid ((inhL_go hn2 ho2 HKX.out).symm.trans HRJ.out); have HKN := Lib.hid (show t2.kind ≠ 0 by rw [nameT_kind hn2]; decide); have HO2 := Lib.hid ho2; clear hn2 ho2 hoe HRJ
       go_wp2_with fail; refine (next_any HP7.out).mono ?_; rintro e w8 ⟨rfl, hb8⟩; have hz8 := hb8.size; have hb9 : Below w7.heap.size w7 (w8.alloc (.cells #[.int .i64 t2.kind, .string t2.text, .int .i64 t2.num, .float .f64 t2.bits, .int .i64 t2.place] 54)) := hb8.alloc hz8 _; have ht9 := block_new w8 (.cells #[.int .i64 t2.kind, .string t2.text, .int .i64 t2.num, .float .f64 t2.bits, .int .i64 t2.place] 54) rfl; have hp9 := HP7.out.below hb9 hpl7; have hA9 := HA7.out.below hb9; have hB9 := HB7.out.then hb9 (by omega); have hz9 := hb9.size; obtain ⟨z, hz⟩ : ∃ z, w8.heap.size = z := ⟨_, rfl⟩; rw [hz] at ht9
       go_wp2_with fail; generalize w8.alloc (.cells #[.int .i64 t2.kind, .string t2.text, .int .i64 t2.num, .float .f64 t2.bits, .int .i64 t2.place] 54) = w9 at *; have st := hA9.set 0 o2 HO2.out; have hn4 := block_cell (i := 4) st.node rfl; rw [HBX0.out] at hn4; have hroom := hA9.room 0 o2 HO2.out; have k0 := block_cell (i := 0) ht9 rfl; have k1 := block_cell (i := 1) ht9 rfl; have k2' := block_cell (i := 2) ht9 rfl; have k3 := block_cell (i := 3) ht9 rfl; have k4 := block_cell (i := 4) ht9 rfl; have HCT := Lib.hid (fun W hW => contains_row (x := t2.text) (W := W) st.names (by have := HNX.out; omega) hW); have HA9 := Lib.hid hA9; have HB9 := Lib.hid hB9; have HP9 := Lib.hid hp9; have hzl := block_lt ht9; clear hb8 hb9 hA9 hB9 hp9 st ht9 hz; refine wp_region_held_drew (S := fun w' => w'.cell? ⟨b0, 4, none⟩ = some (L2.VN 0) ∧ w'.cell? ⟨z, 1, none⟩ = some (.string t2.text)) (by kernel_rfl) ⟨hn4, k1⟩ (fun hHeld => ?_); refine wpAnyH_take (i := 0) (v := ?_) rfl (by kernel_rfl) (by kernel_rfl) (by kernel_rfl) (fun _ _ _ h => h) (Or.inl ⟨by rfl, (by intro w hSw; (try dsimp only at hSw); go_simp; (with_reducible rfl))⟩) (by assumption) ?_
       try simp only [Act.put, List.setIfInBounds_toArray, List.set_cons_succ, List.set_cons_zero]
       refine wpAnyH_take (i := 1) (v := ?_) rfl (by kernel_rfl) (by kernel_rfl) (by kernel_rfl) (fun _ _ _ h => h) (Or.inl ⟨by rfl, (by intro w hSw; (try dsimp only at hSw); go_simp; (with_reducible rfl))⟩) (by assumption) ?_
       try simp only [Act.put, List.setIfInBounds_toArray, List.set_cons_succ, List.set_cons_zero]
       refine wpAnyH_take (i := 2) (v := ?_) rfl (by kernel_rfl) (by kernel_rfl) (by kernel_rfl) (fun _ _ _ h => h) (Or.inl ⟨by rfl, (by intro w hSw; (try dsimp only at hSw); go_simp; (with_reducible rfl))⟩) (by assumption) ?_
       try simp only [Act.put, List.setIfInBounds_toArray, List.set_cons_succ, List.set_cons_zero]
       refine wpAnyH_take (i := 3) (v := ?_) rfl (by kernel_rfl) (by kernel_rfl) (by kernel_rfl) (fun _ _ _ h => h) (Or.inl ⟨by rfl, (by intro w hSw; (try dsimp only at hSw); go_simp; (with_reducible rfl))⟩) (by assumption) ?_
       try simp only [Act.put, List.setIfInBounds_toArray, List.set_cons_succ, List.set_cons_zero]
       refine wpAnyH_take (i := 4) (v := ?_) rfl (by kernel_rfl) (by kernel_rfl) (by kernel_rfl) (fun _ _ _ h => h) (Or.inl ⟨by rfl, (by intro w hSw; (try dsimp only at hSw); go_simp; (with_reducible rfl))⟩) (by assumption) ?_
       try simp only [Act.put, List.setIfInBounds_toArray, List.set_cons_succ, List.set_cons_zero]
       refine wpAnyH_take (i := 5) (v := ?_) rfl (by kernel_rfl) (by kernel_rfl) (by kernel_rfl) (fun _ _ _ h => h) (Or.inl ⟨by rfl, (by intro w hSw; (try dsimp only at hSw); go_simp; (with_reducible rfl))⟩) (by assumption) ?_
       try simp only [Act.put, List.setIfInBounds_toArray, List.set_cons_succ, List.set_cons_zero]
       refine wpAnyH_take (i := 6) (v := ?_) rfl (by kernel_rfl) (by kernel_rfl) (by kernel_rfl) (fun _ _ _ h => h) (Or.inl ⟨by rfl, (by intro w hSw; (try dsimp only at hSw); go_simp; (with_reducible rfl))⟩) (by assumption) ?_
       try simp only [Act.put, List.setIfInBounds_toArray, List.set_cons_succ, List.set_cons_zero]
       refine wpAnyH_ready (rs := [7]) (by kernel_rfl) (by simp) ?_; refine AllReadyH.cons (o := _) rfl (fun K hK => ?_) AllReadyH.nil; go_simp
       refine (HCT.out w9.drew (fun p u h => h)).mono ?_; rintro e w10 ⟨rfl, rfl⟩; refine hK.out _ _ (⟨hn4, k1⟩) (fun hHeld => ?_); clear hK K
       try simp only [Act.put, List.setIfInBounds_toArray, List.set_cons_succ, List.set_cons_zero]
       refine wpAnyH_done (by kernel_rfl) ?_ _
       try simp only [List.getElem_toArray, List.getElem_cons_succ, List.getElem_cons_zero, Act.put, List.setIfInBounds_toArray]
       repeat (first | simp only [List.set_cons_succ] | simp only [List.set_cons_zero])
       clear hHeld; have HP10 := Lib.hid (HP9.out.drew); have HA10 := Lib.hid (show AR w.heap.size kind N2 w9.drew L2 ar2 from HA9.out.keep (fun k _ _ => rfl) (Nat.le_refl _)); have HB10 := Lib.hid (HB9.out.drew); cases hc : o2.names.any (fun s => s.toList == t2.text.toList) with
       | true =>
         have hRx : R = .error (t2.place, 10) := by rw [← HRI2.out, ← HRK.out, hc]; rfl
         subst hRx; clear hc
         go_wp2_with fail; refine (fail_any t2 10 _).mono ?_; rintro e w11 ⟨rfl, hb11⟩; exact ⟨rfl, rfl, HB10.out.then hb11 (by simp; omega)⟩
       | false =>
         have HRM := Lib.hid (show inhL (k2 - 1) (ar2.addAt 0 t2.text (.leaf (leafI t2))) us3 = RI by rw [← HRK.out, hc]; rfl); have hbX : Below w9.heap.size w9 (w9.alloc (.cells #[.int .i64 19, .string t2.text, .int .i64 0, .float .f64 0, .slice none 0 0, .slice none 0 0, .int .i64 (t2.place : Int), .slice none 0 0] 85)).drew := ((Below.refl _ _).alloc (Nat.le_refl _) _).drew; have hA11 := HA9.out.below hbX; have hp11 := HP9.out.below hbX HP9.out.lt; have hB11 := HB9.out.then hbX (by omega); have hleaf : TR (fun k => w.heap.size ≤ k ∧ L2.own k = none) (w9.alloc (.cells #[.int .i64 19, .string t2.text, .int .i64 0, .float .f64 0, .slice none 0 0, .slice none 0 0, .int .i64 (t2.place : Int), .slice none 0 0] 85)).drew w9.heap.size (leafI t2) := (node_leaf (w := w9) (kind := 19) (int := 0) (text := t2.text) (flt := 0) (place := t2.place) (p := fun k => w.heap.size ≤ k ∧ L2.own k = none) (fun k hk => ⟨by omega, by
          cases ho : L2.own k with
          | none => rfl
          | some x =>
            have := (HA9.out.lt k (by rw [ho]; simp)).2
            omega⟩)).keep (fun k _ _ => rfl)
         have had := hA11.add HO2.out t2.text w9.heap.size (.leaf (leafI t2)) hleaf (M := N2 + 1) (by omega) (by omega) (by have := HNX.out; omega); rw [HBX0.out] at had; have HAD := Lib.hid had; have HP11 := Lib.hid hp11; have HB11 := Lib.hid hB11; have HZ11 := Lib.hid hbX.size; clear hA11 hp11 hB11 hleaf had hc hbX
         go_wp2_with fail; refine HAD.out.mono ?_; rintro e w11 ⟨rfl, L11, hA12, hb12, hB12, hm12, _⟩; have hz12 := hb12.size; have hz11 := HZ11.out; have hp12 := HP11.out.below hb12 hpl; have hB13 := HB11.out.then hb12 (Nat.le_refl _)
         go_wp2_with fail; refine (take_any hp12 HKN.out).mono ?_; rintro e w13 ⟨rfl, hp13, hb13⟩; have HA13 := Lib.hid (hA12.but hb13 (Nat.le_refl _) hpl); have HB13 := Lib.hid (hB13.andThen hb13 (by omega)); have HP13 := Lib.hid hp13; have HL13 := Lib.hid hp13.lenP; have hBB : L11.B 0 = b0 := by rw [hB12]; exact HBX0.out
         have hMM : L11.m = m0 := hm12.trans HMX.out; have h1 := HKX.out; have h2 := HKU.out; have h3 := HNX.out; have h4 := HLPX.out; simp at h1 h2 h3 h4; clear hA12 hb12 hB12 hm12 hp12 hB13 hp13 hb13
         go_wp2_with fail; refine ⟨⟨k2 - 1, N2 + 1, L11, ar2.addAt 0 t2.text (.leaf (leafI t2)), us3, HA13.out, hBB, hMM, HP13.out, HB13.out, by omega, by omega, by omega, by rw [addAt_place]; exact HPLX.out, HRM.out⟩, ?_⟩; rw [HL13.out, h4]; omega
  | false =>
    have HI := Lib.hid (show isT ⟨#[105, 110, 104, 101, 114, 105, 116]⟩ t = false from hinh); have p0 := block_cell (i := 0) HT4.out rfl; have p1 := block_cell (i := 1) HT4.out rfl; have p2 := block_cell (i := 2) HT4.out rfl; have p3 := block_cell (i := 3) HT4.out rfl; have p4 := block_cell (i := 4) HT4.out rfl; clear hinh; cases hnm : nameT t with
    | true =>
      have HNM := Lib.hid (fun W => hnm ▸ name_any t W); have HRN := Lib.hid ((bindsL_bind (F := F) (ar := ar) (k := k) HI.out (by rw [hnm]; rfl) HK.out).symm.trans HR.out); clear hnm
      go_wp2_with fail; refine (HNM.out _).mono ?_; rintro e w6 ⟨rfl, hb6⟩; have hz6 := hb6.size; have HP6 := Lib.hid (HP4.out.below hb6 HP4.out.lt); have HA6 := Lib.hid (HA4.out.below hb6); have HB6 := Lib.hid (HB4.out.then hb6 (by omega)); have q0 := block_cell (i := 0) (block_below HT4.out hb6) rfl; have q1 := block_cell (i := 1) (block_below HT4.out hb6) rfl; have q2 := block_cell (i := 2) (block_below HT4.out hb6) rfl; have q3 := block_cell (i := 3) (block_below HT4.out hb6) rfl; have q4 := block_cell (i := 4) (block_below HT4.out hb6) rfl; clear hb6; have hbd := bind_any (lo := w.heap.size) (N := N) HE.out HP6.out HA6.out hpl (by omega) (by have := HN.out; simp at this; omega); rw [HB.out, HM.out] at hbd; have HBD := Lib.hid hbd; clear hbd
      go_wp2_with fail; refine HBD.out.mono ?_; intro e w7 h7; obtain ⟨RB, hRB⟩ : ∃ R, bindP F ar (t :: us') = R := ⟨_, rfl⟩; have hRn := HRN.out; rw [hRB] at h7 hRn; have hplc : ∀ ar' us', RB = .ok (ar', us') → (ar'.map SO.place).head? = some place := fun ar' us' e => (bindP_place HA4.out.pos (hRB.trans e)).trans HPL.out
      have hsh : ∀ ar' us9, RB = .ok (ar', us9) → us9.length < (t :: us').length := fun ar' us9 e => (bindP_sh HSF.out _ _ _ _ HP4.out.good (hRB.trans e)).1
      clear hRB; cases RB with
      | error x =>
        have hRx : R = .error x := by rw [← hRn]; rfl
        subst hRx; obtain ⟨rfl, hb7⟩ := h7; exact ⟨rfl, rfl, HB6.out.andThen hb7 (Nat.le_refl _)⟩
      | ok rb =>
        obtain ⟨ar7, us7⟩ := rb; obtain ⟨rfl, ⟨L7, hA7, hB7, hM7⟩, hp7, hb7⟩ := h7; have hpl7 := hplc ar7 us7 rfl; have hs7 := hsh ar7 us7 rfl; have HA7 := Lib.hid hA7; have HP7 := Lib.hid hp7; have HL7 := Lib.hid hp7.lenP; have HB7 := Lib.hid (HB6.out.andThen hb7 (Nat.le_refl _)); have HPL7 := Lib.hid hpl7; have hBB : L7.B 0 = b0 := hB7.trans HB.out; have hMM : L7.m = m0 := hM7.trans HM.out; have h1 := HK.out; have h2 := HN.out; have h3 := HLP.out; simp at hs7 h1 h2 h3; have HRn : Hid (bindsL F (k - 1) ar7 us7 = R) := hRn; clear hA7 hp7 hb7 hpl7 hplc hsh hRn hB7 hM7
        go_wp2_with fail; refine ⟨⟨k - 1, N + 1, L7, ar7, us7, HA7.out, hBB, hMM, HP7.out, HB7.out, by omega, by omega, HPL7.out, HRn.out⟩, ?_⟩; rw [HL7.out, h3]; omega
    | false =>
      have HNM := Lib.hid (fun W => hnm ▸ name_any t W); by_cases h4 : t.kind = 4
      · have h4' : (t.kind == 4) = true := by simpa using h4
        have HRN := Lib.hid ((bindsL_bind (F := F) (ar := ar) (k := k) HI.out (by rw [hnm]; simpa using h4) HK.out).symm.trans HR.out); clear hnm h4
        go_wp2_with fail; refine (HNM.out _).mono ?_; rintro e w6 ⟨rfl, hb6⟩; have hz6 := hb6.size; have HP6 := Lib.hid (HP4.out.below hb6 HP4.out.lt); have HA6 := Lib.hid (HA4.out.below hb6); have HB6 := Lib.hid (HB4.out.then hb6 (by omega)); have q0 := block_cell (i := 0) (block_below HT4.out hb6) rfl; have q1 := block_cell (i := 1) (block_below HT4.out hb6) rfl; have q2 := block_cell (i := 2) (block_below HT4.out hb6) rfl; have q3 := block_cell (i := 3) (block_below HT4.out hb6) rfl; have q4 := block_cell (i := 4) (block_below HT4.out hb6) rfl; clear hb6; have hbd := bind_any (lo := w.heap.size) (N := N) HE.out HP6.out HA6.out hpl (by omega) (by have := HN.out; simp at this; omega); rw [HB.out, HM.out] at hbd; have HBD := Lib.hid hbd; clear hbd
        go_wp2_with fail; refine HBD.out.mono ?_; intro e w7 h7; obtain ⟨RB, hRB⟩ : ∃ R, bindP F ar (t :: us') = R := ⟨_, rfl⟩; have hRn := HRN.out; rw [hRB] at h7 hRn; have hplc : ∀ ar' us', RB = .ok (ar', us') → (ar'.map SO.place).head? = some place := fun ar' us' e => (bindP_place HA4.out.pos (hRB.trans e)).trans HPL.out
        have hsh : ∀ ar' us9, RB = .ok (ar', us9) → us9.length < (t :: us').length := fun ar' us9 e => (bindP_sh HSF.out _ _ _ _ HP4.out.good (hRB.trans e)).1
        clear hRB; cases RB with
        | error x =>
          have hRx : R = .error x := by rw [← hRn]; rfl
          subst hRx; obtain ⟨rfl, hb7⟩ := h7; exact ⟨rfl, rfl, HB6.out.andThen hb7 (Nat.le_refl _)⟩
        | ok rb =>
          obtain ⟨ar7, us7⟩ := rb; obtain ⟨rfl, ⟨L7, hA7, hB7, hM7⟩, hp7, hb7⟩ := h7; have hpl7 := hplc ar7 us7 rfl; have hs7 := hsh ar7 us7 rfl; have HA7 := Lib.hid hA7; have HP7 := Lib.hid hp7; have HL7 := Lib.hid hp7.lenP; have HB7 := Lib.hid (HB6.out.andThen hb7 (Nat.le_refl _)); have HPL7 := Lib.hid hpl7; have hBB : L7.B 0 = b0 := hB7.trans HB.out; have hMM : L7.m = m0 := hM7.trans HM.out; have h1 := HK.out; have h2 := HN.out; have h3 := HLP.out; simp at hs7 h1 h2 h3; have HRn : Hid (bindsL F (k - 1) ar7 us7 = R) := hRn; clear hA7 hp7 hb7 hpl7 hplc hsh hRn hB7 hM7
          go_wp2_with fail; refine ⟨⟨k - 1, N + 1, L7, ar7, us7, HA7.out, hBB, hMM, HP7.out, HB7.out, by omega, by omega, HPL7.out, HRn.out⟩, ?_⟩; rw [HL7.out, h3]; omega
      · have h4' : (t.kind == 4) = false := by simpa using h4
        have HRN := Lib.hid ((bindsL_stop (F := F) (ar := ar) (k := k) HI.out (by rw [hnm]; simpa using h4)).symm.trans HR.out); clear hnm h4
        go_wp2_with fail; refine (HNM.out _).mono ?_; rintro e w6 ⟨rfl, hb6⟩; have hz6 := hb6.size; have HP6 := Lib.hid (HP4.out.below hb6 HP4.out.lt); have HA6 := Lib.hid (HA4.out.below hb6); have HB6 := Lib.hid (HB4.out.then hb6 (by omega)); have q0 := block_cell (i := 0) (block_below HT4.out hb6) rfl; have q1 := block_cell (i := 1) (block_below HT4.out hb6) rfl; have q2 := block_cell (i := 2) (block_below HT4.out hb6) rfl; have q3 := block_cell (i := 3) (block_below HT4.out hb6) rfl; have q4 := block_cell (i := 4) (block_below HT4.out hb6) rfl; clear hb6; have ho := List.getElem?_eq_getElem HA6.out.pos; obtain ⟨o, hoe⟩ : ∃ o, ar[0]'HA6.out.pos = o := ⟨_, rfl⟩; rw [hoe] at ho; have hop : o.place = place := by
         have := HPL.out; rw [List.head?_eq_getElem?, List.getElem?_map, ho] at this; simpa using this
        have hnr := HA6.out.root ho; rw [HB.out, hop] at hnr; have hkn : (kidsOf ar o).length ≤ 9000 := by
         have h1 := HA6.out.room 0 o ho; have h2 := (HA6.out.set 0 o ho).eqn; have h3 := HN.out; simp [kidsOf]
         omega
        have HNR := Lib.hid hnr; have HKNN := Lib.hid hkn; have HO := Lib.hid ho; have hRx := HRN.out; subst hRx; clear ho hoe hop hnr hkn
        go_wp2_with fail; go_ret; exact ⟨⟨b0, o, rfl, HO.out, HKNN.out, HNR.out⟩, HP6.out, HB6.out⟩
end
end Go.Proofs.YtkoghgnjjfnamaaGreatDoor
