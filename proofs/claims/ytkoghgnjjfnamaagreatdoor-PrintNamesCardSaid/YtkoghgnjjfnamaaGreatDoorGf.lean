/- Gf: what is used of them. -/
import Derived.Test.YtkoghgnjjfnamaaGreatDoorGe
import Derived.Deep.RegionLaw
import Derived.Maps.AppendAt
set_option linter.unusedSimpArgs false
namespace Go.Proofs.YtkoghgnjjfnamaaGreatDoor
set_option maxRecDepth 100000
set_option maxHeartbeats 4000000
open Go.RowKit Go.Shelf
theorem node_old {p : Nat → Prop} {w : World} {x kb : Nat} {kind int : Int} {text : ByteArray} {flt place : Nat} {a : T} (hx : TR p w x a) (hk : w.heap[kb]? = some (.cells #[.pointer (some ⟨x, 0, none⟩)] 51 (0, 0))) (hpk : p kb) (hp : ∀ k, w.heap.size ≤ k → p k) :
 TR p (w.alloc (.cells #[.int .i64 kind, .string text, .int .i64 int, .float .f64 flt, .slice none 0 0, .slice none 0 0, .int .i64 (place : Int), .slice (some ⟨kb, 0, none⟩) 1 1] 85)) w.heap.size (.mk kind text int flt [] place [a]) :=
 TR.one (block_new _ _ rfl) (hp _ (Nat.le_refl _)) (block_alloc hk _) hpk (hx.keep (Below.keeps (by (repeat' first | (with_reducible first | exact Below.refl _ _ | assumption | refine below_drewN ?_ _ | refine Below.drew ?_ | refine Below.alloc ?_ ?_ _ | refine Below.setCell ?_ ?_ _) | omega | (simp; done) | (simp; omega)))))
def hasR (a : T) (us : List Tok) : Res T := if isP ⟨#[63]⟩ us then (match attrP us.tail with
 | .error e => .error e
 | .ok (n, vs) => .ok (.mk 9 n 0 0 [] (placeP us) [a], vs))
    else .ok (a, us)
section
variable {w w' : World} {pb g n : Nat} {t : Tok} {us ts : List Tok}
theorem hasR_stop {a : T} (h : isP ⟨#[63]⟩ ts = false) : hasR a ts = .ok (a, ts) := by unfold hasR; rw [h]; rfl
theorem hasR_go {a : T} (h : isP ⟨#[63]⟩ (t :: us) = true) : hasR a (t :: us) = match attrP us with | .error e => .error e | .ok (n, vs) => .ok (.mk 9 n 0 0 [] t.place [a], vs) := by unfold hasR; rw [h]; rfl
theorem has_any {L : PF} (hA : Reads pb g n 238 #[.pointer (some ⟨pb, 0, none⟩)] (callP L)) : Reads pb g n 237 #[.pointer (some ⟨pb, 0, none⟩)] (hasPr L) := by
 intro w ts h; have hf0 := store_f64; have HC := Lib.hid (hA w ts h); have hpl := h.lt; obtain ⟨R0, hR0⟩ : ∃ R, callP L ts = R := ⟨_, rfl⟩; rw [hR0] at HC; obtain ⟨R, hR⟩ : ∃ R, hasPr L ts = R := ⟨_, rfl⟩; rw [hR]; have HR0 := Lib.hid hR0; have HRA := Lib.hid hR; clear hA h hR0 hR; cases R0 with
 | error x =>
   have hR : R = .error x := by rw [← HRA.out]; unfold hasPr; rw [HR0.out]
   subst hR; go_enter Tryz.func237, Tryz.ntmps237
   go_wp2_with fail; refine HC.out.mono ?_; rintro e w1 ⟨rfl, hb1⟩; exact ⟨rfl, rfl, hb1⟩
 | ok r =>
   obtain ⟨a, us⟩ := r; have HR := Lib.hid (show hasR a us = R by rw [← HRA.out]; unfold hasPr; rw [HR0.out]; rfl); clear HRA HR0; go_enter Tryz.func237, Tryz.ntmps237
   go_wp2_with fail; refine HC.out.mono ?_; rintro e w1 ⟨⟨x, rfl, htr⟩, hp1, hb1⟩; clear HC; unfold ptr; have hz1 := hb1.size; have HANY := Lib.hid (is_any ⟨#[63]⟩ hp1); have HP1 := Lib.hid hp1; have HTR := Lib.hid htr; have HB1 := Lib.hid hb1; have hpl1 := hp1.lt; clear hp1 htr hb1; cases hany : isP ⟨#[63]⟩ us with
   | false =>
     rw [hany] at HANY; have hR : R = .ok (a, us) := by rw [← HR.out, hasR_stop hany]
     subst hR; clear hany
     go_wp2_with fail; refine HANY.out.mono ?_; rintro e w2 ⟨rfl, hb2⟩
     go_wp2_with fail; go_ret; exact ⟨⟨x, rfl, HTR.out.keep (Below.keeps hb2)⟩, HP1.out.below hb2 HP1.out.lt, HB1.out.then hb2 hz1⟩
   | true =>
     rw [hany] at HANY; obtain ⟨t, us', rfl, hk5⟩ := isP_cons hany; have hR := hasR_go (a := a) hany; rw [HR.out] at hR; have HRR := Lib.hid hR; have HK5 := Lib.hid (isT_kind hk5); clear hany hk5 HR hR
     go_wp2_with fail; refine HANY.out.mono ?_; rintro e w2 ⟨rfl, hb2⟩; have hz2 := hb2.size
     go_wp2_with fail; refine (take_any (HP1.out.below hb2 HP1.out.lt) HK5.out).mono ?_; rintro e w3 ⟨rfl, hp3, hb3⟩; have hz3 := hb3.size
     go_wp2_with fail; have hz4 : w3.heap.size < (w3.alloc (Obj.cells #[.int .i64 t.kind, .string t.text, .int .i64 t.num, .float .f64 t.bits, .int .i64 t.place] 54)).heap.size := by simp
     have h4 := block_new w3 (Obj.cells #[.int .i64 t.kind, .string t.text, .int .i64 t.num, .float .f64 t.bits, .int .i64 t.place] 54) rfl; have hp4 := hp3.below (Below.alloc (Below.refl _ _) (Nat.le_refl _) (Obj.cells #[.int .i64 t.kind, .string t.text, .int .i64 t.num, .float .f64 t.bits, .int .i64 t.place] 54)) hp3.lt; have hb4 := ((HB1.out.then hb2 hz1).andThen hb3 (by omega)).alloc (by omega) (Obj.cells #[.int .i64 t.kind, .string t.text, .int .i64 t.num, .float .f64 t.bits, .int .i64 t.place] 54); have ht4 := HTR.out.keep (((But.of hb2).andThen hb3 hz2).alloc (by omega) (Obj.cells #[.int .i64 t.kind, .string t.text, .int .i64 t.num, .float .f64 t.bits, .int .i64 t.place] 54) |>.keeps (p := fun k => w.heap.size ≤ k) (Nat.le_refl _) (fun k hk => by omega)); have hzz : w3.heap.size ≠ pb := by have := hp3.lt; omega
     obtain ⟨z, hz⟩ : ∃ z, w3.heap.size = z := ⟨_, rfl⟩; rw [hz] at hz4 h4 hzz; rw [hz]; generalize (w3.alloc (Obj.cells #[.int .i64 t.kind, .string t.text, .int .i64 t.num, .float .f64 t.bits, .int .i64 t.place] 54)) = w4 at *; have keepS : ∀ w', But pb (z + 1) w4 w' → (w'.cell? ⟨z, 0, none⟩ = some (.int .i64 t.kind) ∧ w'.cell? ⟨z, 1, none⟩ = some (.string t.text) ∧ w'.cell? ⟨z, 2, none⟩ = some (.int .i64 t.num) ∧ w'.cell? ⟨z, 3, none⟩ = some (.float .f64 t.bits) ∧ w'.cell? ⟨z, 4, none⟩ = some (.int .i64 t.place)) := fun w' hb => by
      have h5 := hb.get (Nat.lt_succ_self z) hzz h4; exact ⟨block_cell h5 rfl, block_cell h5 rfl, block_cell h5 rfl, block_cell h5 rfl, block_cell h5 rfl⟩
     have HKS := Lib.hid keepS; have HB4 := Lib.hid hb4; have HT4 := Lib.hid ht4; have HP4 := Lib.hid hp4.drew; clear keepS hb4 ht4 hp4 hp3 hb3 hb2 h4; refine wp_region_held_drew (S := fun w' => w'.cell? ⟨z, 0, none⟩ = some (.int .i64 t.kind) ∧ w'.cell? ⟨z, 1, none⟩ = some (.string t.text) ∧ w'.cell? ⟨z, 2, none⟩ = some (.int .i64 t.num) ∧ w'.cell? ⟨z, 3, none⟩ = some (.float .f64 t.bits) ∧ w'.cell? ⟨z, 4, none⟩ = some (.int .i64 t.place)) (by kernel_rfl) (HKS.out _ (But.refl _ _ _).drew) (fun hHeld => ?_); refine wpAnyH_take (i := 0) (v := ?_) rfl (by kernel_rfl) (by kernel_rfl) (by kernel_rfl) (fun _ _ _ h => h) (Or.inl ⟨by rfl, (by intro w hSw; (try dsimp only at hSw); go_simp; (with_reducible rfl))⟩) (by assumption) ?_
     try simp only [Act.put, List.setIfInBounds_toArray, List.set_cons_succ, List.set_cons_zero]
     refine wpAnyH_take (i := 2) (v := ?_) rfl (by kernel_rfl) (by kernel_rfl) (by kernel_rfl) (fun _ _ _ h => h) (Or.inl ⟨by rfl, (by intro w hSw; (try dsimp only at hSw); go_simp; (with_reducible rfl))⟩) (by assumption) ?_
     try simp only [Act.put, List.setIfInBounds_toArray, List.set_cons_succ, List.set_cons_zero]
     refine wpAnyH_take (i := 3) (v := ?_) rfl (by kernel_rfl) (by kernel_rfl) (by kernel_rfl) (fun _ _ _ h => h) (Or.inl ⟨by rfl, (by intro w hSw; (try dsimp only at hSw); go_simp; (with_reducible rfl))⟩) (by assumption) ?_
     try simp only [Act.put, List.setIfInBounds_toArray, List.set_cons_succ, List.set_cons_zero]
     refine wpAnyH_take (i := 5) (v := ?_) rfl (by kernel_rfl) (by kernel_rfl) (by kernel_rfl) (fun _ _ _ h => h) (Or.inl ⟨by rfl, (by intro w hSw; (try dsimp only at hSw); go_simp; (with_reducible rfl))⟩) (by assumption) ?_
     try simp only [Act.put, List.setIfInBounds_toArray, List.set_cons_succ, List.set_cons_zero]
     refine wpAnyH_ready (rs := [1, 6]) (by kernel_rfl) (by simp) ?_; refine AllReadyH.cons (o := _) rfl (fun K hK => ?_) (AllReadyH.cons (o := _) rfl (fun K hK => ?_) AllReadyH.nil)
     · go_simp
       refine (attr_any HP4.out).mono ?_; intro e w5 h5; cases hF2 : attrP us' with
       | error er =>
         rw [hF2] at h5; obtain ⟨rfl, hb5⟩ := h5; have hbA := HB4.out.drew.andThen hb5 (by simp; omega); have hRx := HRR.out; rw [hF2] at hRx; subst hRx; exact ⟨rfl, rfl, hbA⟩
       | ok r2 =>
         obtain ⟨s5, v5⟩ := r2; rw [hF2] at h5; obtain ⟨rfl, hp5, hb5⟩ := h5; have HF2 := Lib.hid hF2; have HK5 : Hid (But pb (z + 1) w4 w5) := (But.refl pb (z + 1) w4).drew.andThen hb5 (by simp; omega); have HX5 := Lib.hid (HT4.out.keep (((But.refl pb w4.heap.size w4).drew.andThen hb5 (by simp)).keeps (p := fun k => w.heap.size ≤ k) (Nat.le_refl _) (fun k hk => by omega))); have hbA := HB4.out.drew.andThen hb5 (by simp; omega); have hzA := hbA.size; have HP5 := Lib.hid hp5; have HBA := Lib.hid hbA; have hzB : z < w5.heap.size := by have := hb5.size; simp at this; omega
         clear hF2 hp5 hbA hb5; refine hK.out _ _ (HKS.out _ HK5.out) (fun hHeld => ?_); clear hK K
         try simp only [Act.put, List.setIfInBounds_toArray, List.set_cons_succ, List.set_cons_zero]
         refine wpAnyH_take (i := 4) (v := ?_) rfl (by kernel_rfl) (by kernel_rfl) (by kernel_rfl) (fun _ _ _ h => h) (Or.inl ⟨by rfl, (by intro w hSw; (try dsimp only at hSw); go_simp; (with_reducible rfl))⟩) (by assumption) ?_
         try simp only [Act.put, List.setIfInBounds_toArray, List.set_cons_succ, List.set_cons_zero]
         refine wpAnyH_ready (rs := [6]) (by kernel_rfl) (by simp) ?_; refine AllReadyH.cons (o := _) rfl (fun K hK => ?_) AllReadyH.nil; go_simp
         refine hK.out _ _ (HKS.out _ (HK5.out.alloc (by omega) _)) (fun hHeld => ?_); clear hK K
         try simp only [Act.put, List.setIfInBounds_toArray, List.set_cons_succ, List.set_cons_zero]
         refine wpAnyH_take (i := 7) (v := ?_) rfl (by kernel_rfl) (by kernel_rfl) (by kernel_rfl) (fun _ _ _ h => h) (Or.inl ⟨by rfl, (by intro w hSw; (try dsimp only at hSw); go_simp; (with_reducible rfl))⟩) (by assumption) ?_
         try simp only [Act.put, List.setIfInBounds_toArray, List.set_cons_succ, List.set_cons_zero]
         refine wpAnyH_ready (rs := [8]) (by kernel_rfl) (by simp) ?_; refine AllReadyH.cons (o := _) rfl (fun K hK => ?_) AllReadyH.nil; go_simp
         refine hK.out _ _ (HKS.out _ ((HK5.out.alloc (by omega) _).alloc (by simp; omega) _)) (fun hHeld => ?_); clear hK K
         try simp only [Act.put, List.setIfInBounds_toArray, List.set_cons_succ, List.set_cons_zero]
         refine wpAnyH_take (i := 9) (v := ?_) rfl (by kernel_rfl) (by kernel_rfl) (by kernel_rfl) (fun _ _ _ h => h) (Or.inl ⟨by rfl, (by intro w hSw; (try dsimp only at hSw); go_simp; (with_reducible rfl))⟩) (by assumption) ?_
         try simp only [Act.put, List.setIfInBounds_toArray, List.set_cons_succ, List.set_cons_zero]
         refine wpAnyH_done (by kernel_rfl) ?_ _; have HN := Lib.hid (node_one (kind := 9) (int := 0) (text := s5) (flt := 0) (place := t.place) HX5.out (fun k hk => by omega)); have HP8 := Lib.hid (HP5.out.below (below_two w5 (.cells #[.pointer (some ⟨x, 0, none⟩)] 51) (.cells #[.int .i64 9, .string s5, .int .i64 0, .float .f64 0, .slice none 0 0, .slice none 0 0, .int .i64 t.place, .slice (some ⟨w5.heap.size, 0, none⟩) 1 1] 85)) HP5.out.lt); have HB8 := Lib.hid (HBA.out.then (below_two w5 (.cells #[.pointer (some ⟨x, 0, none⟩)] 51) (.cells #[.int .i64 9, .string s5, .int .i64 0, .float .f64 0, .slice none 0 0, .slice none 0 0, .int .i64 t.place, .slice (some ⟨w5.heap.size, 0, none⟩) 1 1] 85)) (by omega)); have hRx := HRR.out; rw [HF2.out] at hRx; subst hRx
         go_wp2_with fail; go_ret; exact ⟨⟨(w5.heap.size + 1), rfl, HN.out⟩, HP8.out, HB8.out⟩
     · go_simp
       refine hK.out _ _ (HKS.out _ ((But.refl pb (z + 1) w4).drew.alloc (by simp; omega) _)) (fun hHeld => ?_); clear hK K
       try simp only [Act.put, List.setIfInBounds_toArray, List.set_cons_succ, List.set_cons_zero]
       have HT6 := Lib.hid (HT4.out.keep (Below.keeps (w' := (w4.alloc (.cells #[.pointer (some ⟨x, 0, none⟩)] 51)).drew) (by (repeat' first | (with_reducible first | exact Below.refl _ _ | assumption | refine below_drewN ?_ _ | refine Below.drew ?_ | refine Below.alloc ?_ ?_ _ | refine Below.setCell ?_ ?_ _) | omega | (simp; done) | (simp; omega))))); have HA6 := Lib.hid (show ((w4.alloc (.cells #[.pointer (some ⟨x, 0, none⟩)] 51)).drew).heap[w4.heap.size]? = _ from block_new w4 _ rfl); have HP6 := Lib.hid ((HP4.out).below (w' := (w4.alloc (.cells #[.pointer (some ⟨x, 0, none⟩)] 51)).drew) (B := w4.heap.size) (Below.alloc (Below.refl _ _) (by simp) _) HP4.out.lt); have HB6 : Hid (But pb w.heap.size w (w4.alloc (.cells #[.pointer (some ⟨x, 0, none⟩)] 51)).drew) := (HB4.out.alloc (by omega) _).drew; have HKL : Hid (But pb w4.heap.size w4 (w4.alloc (.cells #[.pointer (some ⟨x, 0, none⟩)] 51)).drew) := (But.refl pb w4.heap.size w4).drew.alloc (by simp) _; have hz6 : w4.heap.size < (w4.alloc (.cells #[.pointer (some ⟨x, 0, none⟩)] 51)).drew.heap.size := by simp
       have HKK : Hid (But pb (z + 1) w4 (w4.alloc (.cells #[.pointer (some ⟨x, 0, none⟩)] 51)).drew) := (But.refl pb (z + 1) w4).drew.alloc (by simp; omega) _; refine wpAnyH_ready (rs := [1]) (by kernel_rfl) (by simp) ?_; refine AllReadyH.cons (o := _) rfl (fun K hK => ?_) AllReadyH.nil; go_simp
       generalize (w4.alloc (.cells #[.pointer (some ⟨x, 0, none⟩)] 51)).drew = w6 at *; refine (attr_any HP6.out).mono ?_; intro e w5 h5; cases hF2 : attrP us' with
       | error er =>
         rw [hF2] at h5; obtain ⟨rfl, hb5⟩ := h5; have hbA := HB6.out.andThen hb5 (by omega); have hRx := HRR.out; rw [hF2] at hRx; subst hRx; exact ⟨rfl, rfl, hbA⟩
       | ok r2 =>
         obtain ⟨s5, v5⟩ := r2; rw [hF2] at h5; obtain ⟨rfl, hp5, hb5⟩ := h5; have HF2 := Lib.hid hF2; have HK5 : Hid (But pb (z + 1) w4 w5) := HKK.out.andThen hb5 (by omega); have HX5 := Lib.hid (HT6.out.keep (hb5.keeps (p := fun k => w.heap.size ≤ k) (Nat.le_refl _) (fun k hk => by omega))); have HA5 := Lib.hid (hb5.get (by omega) (by have := HP4.out.lt; simp at this; omega) HA6.out); have hbA := HB6.out.andThen hb5 (by omega); have hzA := hbA.size; have hzB := hb5.size; have HP5 := Lib.hid hp5; have HBA := Lib.hid hbA; clear hF2 hp5 hbA hb5; refine hK.out _ _ (HKS.out _ HK5.out) (fun hHeld => ?_); clear hK K
         try simp only [Act.put, List.setIfInBounds_toArray, List.set_cons_succ, List.set_cons_zero]
         refine wpAnyH_take (i := 4) (v := ?_) rfl (by kernel_rfl) (by kernel_rfl) (by kernel_rfl) (fun _ _ _ h => h) (Or.inl ⟨by rfl, (by intro w hSw; (try dsimp only at hSw); go_simp; (with_reducible rfl))⟩) (by assumption) ?_
         try simp only [Act.put, List.setIfInBounds_toArray, List.set_cons_succ, List.set_cons_zero]
         refine wpAnyH_take (i := 7) (v := ?_) rfl (by kernel_rfl) (by kernel_rfl) (by kernel_rfl) (fun _ _ _ h => h) (Or.inl ⟨by rfl, (by intro w hSw; (try dsimp only at hSw); go_simp; (with_reducible rfl))⟩) (by assumption) ?_
         try simp only [Act.put, List.setIfInBounds_toArray, List.set_cons_succ, List.set_cons_zero]
         refine wpAnyH_ready (rs := [8]) (by kernel_rfl) (by simp) ?_; refine AllReadyH.cons (o := _) rfl (fun K hK => ?_) AllReadyH.nil; go_simp
         refine hK.out _ _ (HKS.out _ (HK5.out.alloc (by omega) _)) (fun hHeld => ?_); clear hK K
         try simp only [Act.put, List.setIfInBounds_toArray, List.set_cons_succ, List.set_cons_zero]
         refine wpAnyH_take (i := 9) (v := ?_) rfl (by kernel_rfl) (by kernel_rfl) (by kernel_rfl) (fun _ _ _ h => h) (Or.inl ⟨by rfl, (by intro w hSw; (try dsimp only at hSw); go_simp; (with_reducible rfl))⟩) (by assumption) ?_
         try simp only [Act.put, List.setIfInBounds_toArray, List.set_cons_succ, List.set_cons_zero]
         refine wpAnyH_done (by kernel_rfl) ?_ _; have HN := Lib.hid (node_old (kind := 9) (int := 0) (text := s5) (flt := 0) (place := t.place) HX5.out HA5.out (by omega) (fun k hk => by omega)); have HP8 := Lib.hid (HP5.out.below (Below.alloc (Below.refl _ _) (Nat.le_refl _) (.cells #[.int .i64 9, .string s5, .int .i64 0, .float .f64 0, .slice none 0 0, .slice none 0 0, .int .i64 t.place, .slice (some ⟨w4.heap.size, 0, none⟩) 1 1] 85)) HP5.out.lt); have HB8 := Lib.hid (HBA.out.alloc hzA (.cells #[.int .i64 9, .string s5, .int .i64 0, .float .f64 0, .slice none 0 0, .slice none 0 0, .int .i64 t.place, .slice (some ⟨w4.heap.size, 0, none⟩) 1 1] 85)); have hRx := HRR.out; rw [HF2.out] at hRx; subst hRx
         go_wp2_with fail; go_ret; exact ⟨⟨w5.heap.size, rfl, HN.out⟩, HP8.out, HB8.out⟩
end
open Go.RowKit
theorem info_ptr : (Tryz.prog.info? 51).map (fun i => (i.zero, i.size, i.bytes)) = some (some (.pointer none), 1, 8) := by kernel_rfl
theorem append_ptr {w : World} {ops : Array Oper} {rest : List Oper} {o : Oper} {a : Act} {Q : Exit → Act → World → Prop} (hgd : o.guard = none) (s x : Operand)
 (ho : o.op = .call { callee := .builtin .append, args := #[s, x], argTypes := #[83, 83] })
 (base : Nat) (v : Value) (n : Nat) (xs : List Value) (hs : a.eval s = v) (hown : w.ownsRow base 51 1 v n xs)
 (b c : Nat) (y : Nat) (hx : a.eval x = .slice (some ⟨b, 0, none⟩) 1 c) (hb : w.heap[b]? = some (.cells #[.pointer (some ⟨y, 0, none⟩)] 51 (0, 0)))  (hn : n + 1 ≤ 1000000000) (hbase : base ≤ w.heap.size)
 (h : ∀ v' w', w'.ownsRow base 51 1 v' (n + 1) (xs ++ [.pointer (some ⟨y, 0, none⟩)]) → w.grownBy w' v.ownBlock → (v'.ownBlock = v.ownBlock ∨ v'.ownBlock = some w.heap.size) → wpList Tryz.prog ops Q rest (a.put o.dst v') w') : wpList Tryz.prog ops Q (o :: rest) a w := by
 obtain ⟨i0, hi, hz0, hz1, hz2⟩ := info_parts info_ptr; have hadd : ∀ i, (⟨b, 0, none⟩ : Addr).add i = ⟨b, i, none⟩ := fun i => by unfold Addr.add; split <;> simp_all
 refine wpList_append_own_at w hgd s x 83 ho base 51 i0 _ 1 8 Tryz.underlying83 hi hz0 hz1 hz2 rfl (by decide) v n xs hs hown ⟨b, 0, none⟩ 1 c [.pointer (some ⟨y, 0, none⟩)] hx rfl ?_ ?_ (by unfold maxLen; omega) (by omega) hbase (fun v' w' h2 h3 _ h5 => h v' w' h2 h3 h5)
 · intro j u hu
   rw [hadd]; match j, hu with
   | 0, hu => simp at hu; subst hu; exact block_cell hb rfl
   | j + 1, hu => simp at hu
 · intro u hu
   simp at hu; subst hu; rfl
theorem step_append_ptr {w : World} {ops : Array Oper} {o : Oper} {a : Act} {K : Act → World → Prop} {Q : Exit → Act → World → Prop} {E : Prop} (hgd : o.guard = none) (s x : Operand)
 (ho : o.op = .call { callee := .builtin .append, args := #[s, x], argTypes := #[83, 83] })
 (base : Nat) (v : Value) (n : Nat) (xs : List Value) (hs : a.eval s = v) (hown : w.ownsRow base 51 1 v n xs)
 (b c : Nat) (y : Nat) (hx : a.eval x = .slice (some ⟨b, 0, none⟩) 1 c) (hb : w.heap[b]? = some (.cells #[.pointer (some ⟨y, 0, none⟩)] 51 (0, 0)))  (hn : n + 1 ≤ 1000000000) (hbase : base ≤ w.heap.size)
 (h : ∀ v' w', w'.ownsRow base 51 1 v' (n + 1) (xs ++ [.pointer (some ⟨y, 0, none⟩)]) → w.grownBy w' v.ownBlock → (v'.ownBlock = v.ownBlock ∨ v'.ownBlock = some w.heap.size) → K (a.put o.dst v') w') : if Region.wanted o (yielded ops a.tmps) = true then Oper.wp Tryz.prog o a w K Q else E := by
 have hw : Region.wanted o (yielded ops a.tmps) = true := by simp [Region.wanted, hgd]
 rw [if_pos hw]; obtain ⟨i0, hi, hz0, hz1, hz2⟩ := info_parts info_ptr; have hadd : ∀ i, (⟨b, 0, none⟩ : Addr).add i = ⟨b, i, none⟩ := fun i => by unfold Addr.add; split <;> simp_all
 obtain ⟨v', w', hr, r2, r3, r4, r5⟩ := run_append_own_at (P := Tryz.prog) w base 83 o.type 51 i0 _ 1 8 Tryz.underlying83 hi hz0 hz1 hz2 rfl (by decide) v n xs hown ⟨b, 0, none⟩ 1 c [.pointer (some ⟨y, 0, none⟩)] rfl
  (fun j u hu => by
   rw [hadd]; match j, hu with
   | 0, hu => simp at hu; subst hu; exact block_cell hb rfl
   | j + 1, hu => simp at hu)
  (fun u hu => by
   simp at hu; subst hu; rfl) (by unfold maxLen; omega) (by omega) hbase
 unfold Oper.wp execOp; simp only [ho, resolve, invoke, builtin, Sem.run_bind, Sem.run_pure, Result.andThen_ok, List.map_toArray, List.map_cons, List.map_nil, hs, hx, hr]; exact h v' w' r2 r3 r5
theorem info_text : (Tryz.prog.info? 9).map (fun i => (i.zero, i.size, i.bytes)) = some (some (.string ⟨#[]⟩), 1, 16) := by kernel_rfl
theorem append_text {w : World} {ops : Array Oper} {rest : List Oper} {o : Oper} {a : Act} {Q : Exit → Act → World → Prop} (hgd : o.guard = none) (s x : Operand)
 (ho : o.op = .call { callee := .builtin .append, args := #[s, x], argTypes := #[34, 34] })
 (base : Nat) (v : Value) (n : Nat) (xs : List Value) (hs : a.eval s = v) (hown : w.ownsRow base 9 1 v n xs)
 (b c : Nat) (y : ByteArray) (hx : a.eval x = .slice (some ⟨b, 0, none⟩) 1 c) (hb : w.heap[b]? = some (.cells #[.string y] 9 (0, 0)))  (hn : n + 1 ≤ 1000000000) (hbase : base ≤ w.heap.size)
 (h : ∀ v' w', w'.ownsRow base 9 1 v' (n + 1) (xs ++ [.string y]) → w.grownBy w' v.ownBlock → (v'.ownBlock = v.ownBlock ∨ v'.ownBlock = some w.heap.size) → wpList Tryz.prog ops Q rest (a.put o.dst v') w') : wpList Tryz.prog ops Q (o :: rest) a w := by
 obtain ⟨i0, hi, hz0, hz1, hz2⟩ := info_parts info_text; have hadd : ∀ i, (⟨b, 0, none⟩ : Addr).add i = ⟨b, i, none⟩ := fun i => by unfold Addr.add; split <;> simp_all
 refine wpList_append_own_at w hgd s x 34 ho base 9 i0 _ 1 16 Tryz.underlying34 hi hz0 hz1 hz2 rfl (by decide) v n xs hs hown ⟨b, 0, none⟩ 1 c [.string y] hx rfl ?_ ?_ (by unfold maxLen; omega) (by omega) hbase (fun v' w' h2 h3 _ h5 => h v' w' h2 h3 h5)
 · intro j u hu
   rw [hadd]; match j, hu with
   | 0, hu => simp at hu; subst hu; exact block_cell hb rfl
   | j + 1, hu => simp at hu
 · intro u hu
   simp at hu; subst hu; rfl
theorem info_num : (Tryz.prog.info? 3).map (fun i => (i.zero, i.size, i.bytes)) = some (some (.int .i64 0), 1, 8) := by kernel_rfl
theorem append_num {w : World} {ops : Array Oper} {rest : List Oper} {o : Oper} {a : Act} {Q : Exit → Act → World → Prop} (hgd : o.guard = none) (s x : Operand)
 (ho : o.op = .call { callee := .builtin .append, args := #[s, x], argTypes := #[29, 29] })
 (base : Nat) (v : Value) (n : Nat) (xs : List Value) (hs : a.eval s = v) (hown : w.ownsRow base 3 1 v n xs)
 (b c : Nat) (y : Int) (hx : a.eval x = .slice (some ⟨b, 0, none⟩) 1 c) (hb : w.heap[b]? = some (.cells #[.int .i64 y] 3 (0, 0)))  (hn : n + 1 ≤ 1000000000) (hbase : base ≤ w.heap.size)
 (h : ∀ v' w', w'.ownsRow base 3 1 v' (n + 1) (xs ++ [.int .i64 y]) → w.grownBy w' v.ownBlock → (v'.ownBlock = v.ownBlock ∨ v'.ownBlock = some w.heap.size) → wpList Tryz.prog ops Q rest (a.put o.dst v') w') : wpList Tryz.prog ops Q (o :: rest) a w := by
 obtain ⟨i0, hi, hz0, hz1, hz2⟩ := info_parts info_num; have hadd : ∀ i, (⟨b, 0, none⟩ : Addr).add i = ⟨b, i, none⟩ := fun i => by unfold Addr.add; split <;> simp_all
 refine wpList_append_own_at w hgd s x 29 ho base 3 i0 _ 1 8 Tryz.underlying29 hi hz0 hz1 hz2 rfl (by decide) v n xs hs hown ⟨b, 0, none⟩ 1 c [.int .i64 y] hx rfl ?_ ?_ (by unfold maxLen; omega) (by omega) hbase (fun v' w' h2 h3 _ h5 => h v' w' h2 h3 h5)
 · intro j u hu
   rw [hadd]; match j, hu with
   | 0, hu => simp at hu; subst hu; exact block_cell hb rfl
   | j + 1, hu => simp at hu
 · intro u hu
   simp at hu; subst hu; rfl
theorem info_node : (Tryz.prog.info? 36).map (fun i => (i.zero, i.size, i.bytes)) = some (some (.agg #[.int .i64 0, .string ⟨#[]⟩, .int .i64 0, .float .f64 0, .slice none 0 0, .slice none 0 0, .int .i64 0]), 7, 96) := by kernel_rfl
theorem append_node {w : World} {ops : Array Oper} {rest : List Oper} {o : Oper} {a : Act} {Q : Exit → Act → World → Prop} (hgd : o.guard = none) (s x : Operand)
 (ho : o.op = .call { callee := .builtin .append, args := #[s, x], argTypes := #[23, 23] })
 (base : Nat) (v : Value) (n : Nat) (xs : List Value) (hs : a.eval s = v) (hown : w.ownsRow base 36 7 v n xs)
 (b c : Nat) (c0 c1 c2 c3 c4 c5 c6 : Value) (hx : a.eval x = .slice (some ⟨b, 0, none⟩) 1 c) (hb : w.heap[b]? = some (.cells #[c0, c1, c2, c3, c4, c5, c6] 36 (0, 0))) (o0 : (c0).oneCell' = true) (o1 : (c1).oneCell' = true) (o2 : (c2).oneCell' = true) (o3 : (c3).oneCell' = true) (o4 : (c4).oneCell' = true) (o5 : (c5).oneCell' = true) (o6 : (c6).oneCell' = true) (hn : n + 1 ≤ 1000000000) (hbase : base ≤ w.heap.size)
 (h : ∀ v' w', w'.ownsRow base 36 7 v' (n + 1) (xs ++ [c0, c1, c2, c3, c4, c5, c6]) → w.grownBy w' v.ownBlock → (v'.ownBlock = v.ownBlock ∨ v'.ownBlock = some w.heap.size) → wpList Tryz.prog ops Q rest (a.put o.dst v') w') : wpList Tryz.prog ops Q (o :: rest) a w := by
 obtain ⟨i0, hi, hz0, hz1, hz2⟩ := info_parts info_node; have hadd : ∀ i, (⟨b, 0, none⟩ : Addr).add i = ⟨b, i, none⟩ := fun i => by unfold Addr.add; split <;> simp_all
 refine wpList_append_own_at w hgd s x 23 ho base 36 i0 _ 7 96 Tryz.underlying23 hi hz0 hz1 hz2 rfl (by decide) v n xs hs hown ⟨b, 0, none⟩ 1 c [c0, c1, c2, c3, c4, c5, c6] hx rfl ?_ ?_ (by unfold maxLen; omega) (by omega) hbase (fun v' w' h2 h3 _ h5 => h v' w' h2 h3 h5)
 · intro j u hu
   rw [hadd]; match j, hu with
   | 0, hu => simp at hu; subst hu; exact block_cell hb rfl
   | 1, hu => simp at hu; subst hu; exact block_cell hb rfl
   | 2, hu => simp at hu; subst hu; exact block_cell hb rfl
   | 3, hu => simp at hu; subst hu; exact block_cell hb rfl
   | 4, hu => simp at hu; subst hu; exact block_cell hb rfl
   | 5, hu => simp at hu; subst hu; exact block_cell hb rfl
   | 6, hu => simp at hu; subst hu; exact block_cell hb rfl
   | j + 7, hu => simp at hu
 · intro u hu
   simp at hu; rcases hu with rfl | rfl | rfl | rfl | rfl | rfl | rfl <;> first | rfl | assumption
theorem TR.place_cell {p : Nat → Prop} {w : World} {b : Nat} {t : T} (h : TR p w b t) : w.cell? ⟨b, 6, none⟩ = some (.int .i64 (t.place : Int)) := by
 cases h with
 | mk vn vk is hb h hn hk' hl _ => exact block_cell h rfl
theorem TR.keepAt {p : Nat → Prop} {w w' : World} {pb B b : Nat} {t : T} (h : TR p w b t) (hb : But pb B w w') (hB : w.heap.size ≤ B) (hp : ∀ k, p k → k ≠ pb) : TR p w' b t := h.keep (hb.keeps hB hp)
section
variable {w w' : World} {pb g n : Nat} {t : Tok} {us ts : List Tok} {L : PF}
theorem callL_stop {k : Nat} {a : T} (h : begP ts = false) : callL L k a ts = .ok (a, ts) := by
 cases k with
 | zero => rfl
 | succ k => unfold callL; rw [h]; rfl
theorem callL_go {k : Nat} {a : T} (h : begP ts = true) (hk : ts.length ≤ k) :
 callL L k a ts = match selP L ts with | .ok (b, us) => callL L (k - 1) (.mk 10 ⟨#[]⟩ 0 0 [] a.place [a, b]) us | .error e => .error e := by
 obtain ⟨t, us, rfl, _⟩ := begP_cons h; cases k with
 | zero => simp at hk
 | succ k =>
   conv => lhs; unfold callL
   rw [h]; cases selP L (t :: us) <;> rfl
theorem call_any (hA : Reads pb g n 239 #[.pointer (some ⟨pb, 0, none⟩)] (selP L)) (hsA : Sh (selP L)) : Reads pb g n 238 #[.pointer (some ⟨pb, 0, none⟩)] (callP L) := by
 intro w ts h; have HA := Lib.hid hA; have HSA := Lib.hid hsA; have HC := Lib.hid (hA w ts h); have hpl := h.lt; obtain ⟨R0, hR0⟩ : ∃ R, selP L ts = R := ⟨_, rfl⟩; rw [hR0] at HC; obtain ⟨R, hR⟩ : ∃ R, callP L ts = R := ⟨_, rfl⟩; rw [hR]; have HR0 := Lib.hid hR0; have HRA := Lib.hid hR; clear hA h hR0 hR hsA; cases R0 with
 | error x =>
   have hR : R = .error x := by rw [← HRA.out]; unfold callP; rw [HR0.out]
   subst hR; go_enter Tryz.func238, Tryz.ntmps238
   go_wp2_with fail; refine HC.out.mono ?_; rintro e w1 ⟨rfl, hb1⟩; exact ⟨rfl, rfl, hb1⟩
 | ok r =>
   obtain ⟨a, us⟩ := r; have HR := Lib.hid (show callL L us.length a us = R by rw [← HRA.out]; unfold callP; rw [HR0.out]); clear HRA HR0; go_enter Tryz.func238, Tryz.ntmps238
   go_wp2_with fail; refine HC.out.mono ?_; rintro e w1 ⟨⟨x, rfl, htr⟩, hp1, hb1⟩; clear HC; unfold ptr
   go_wp2_with fail; go_loopw [3] (fun v wr => ∃ (x k : Nat) (a : T) (us : List Tok), v = .pointer (some ⟨x, 0, none⟩) ∧ TR (fun k => w.heap.size ≤ k) wr x a ∧ PS wr pb g n us ∧ But pb w.heap.size w wr ∧ us.length ≤ k ∧ Hid (callL L k a us = R)) (fun _ wr => lenP wr pb)
   case atStart => exact ⟨x, _, a, us, rfl, htr, hp1, hb1, Nat.le_refl _, HR.out⟩
   case round =>
    clear hb1 hp1 htr HR; obtain ⟨x, k, a, us, rfl, htr, hp1, hb1, hk, HR⟩ := hrel; have hz1 := hb1.size; have HANY := Lib.hid (begins_any hp1); have HP1 := Lib.hid hp1; have HTR := Lib.hid htr; have HB1 := Lib.hid hb1; have HK := Lib.hid hk; have HLEN := Lib.hid hp1.lenP; have hpl1 := hp1.lt; clear hp1 htr hb1 hk; cases hany : begP us with
    | false =>
      rw [hany] at HANY; have hR : R = .ok (a, us) := by rw [← HR.out, callL_stop hany]
      subst hR; clear hany
      go_wp2_with fail; refine HANY.out.mono ?_; rintro e w2 ⟨rfl, hb2⟩
      go_wp2_with fail; go_ret; exact ⟨⟨x, rfl, HTR.out.keep (Below.keeps hb2)⟩, HP1.out.below hb2 HP1.out.lt, HB1.out.then hb2 hz1⟩
    | true =>
      rw [hany] at HANY; have hR := callL_go (L := L) (a := a) hany HK.out; rw [HR.out] at hR; have HRR := Lib.hid hR; clear hany HR hR
      go_wp2_with fail; refine HANY.out.mono ?_; rintro e w2 ⟨rfl, hb2⟩; have hz2 := hb2.size; have HP2 := Lib.hid ((HP1.out.below hb2 HP1.out.lt).drew); have HB2 := Lib.hid (HB1.out.then hb2 hz1); have ht2 := HTR.out.keep (Below.keeps hb2); have hxa := ht2.at; have hxl := ht2.lt; have HT2 := Lib.hid ht2; have HKS := Lib.hid (show ∀ w', But pb (x + 1) w2 w' → w'.cell? ⟨x, 6, none⟩ = some (.int .i64 (a.place : Int)) from fun w' hb => hb.cell (Nat.lt_succ_self x) (by simp; omega) ht2.place_cell); clear ht2
      go_wp2_with fail; refine wp_region_held_drew (S := fun w' => w'.cell? ⟨x, 6, none⟩ = some (.int .i64 (a.place : Int))) (by kernel_rfl) (HKS.out _ (But.refl _ _ _).drew) (fun hHeld => ?_); refine wpAnyH_take (i := 0) (v := ?_) rfl (by kernel_rfl) (by kernel_rfl) (by kernel_rfl) (fun _ _ _ h => h) (Or.inl ⟨by rfl, (by intro w hSw; (try dsimp only at hSw); go_simp; (with_reducible rfl))⟩) (by assumption) ?_
      try simp only [Act.put, List.setIfInBounds_toArray, List.set_cons_succ, List.set_cons_zero]
      refine wpAnyH_take (i := 1) (v := ?_) rfl (by kernel_rfl) (by kernel_rfl) (by kernel_rfl) (fun _ _ _ h => h) (Or.inl ⟨by rfl, (by intro w hSw; (try dsimp only at hSw); go_simp; (with_reducible rfl))⟩) (by assumption) ?_
      try simp only [Act.put, List.setIfInBounds_toArray, List.set_cons_succ, List.set_cons_zero]
      refine wpAnyH_take (i := 2) (v := ?_) rfl (by kernel_rfl) (by kernel_rfl) (by kernel_rfl) (fun _ _ _ h => h) (Or.inl ⟨by rfl, (by intro w hSw; (try dsimp only at hSw); go_simp; (with_reducible rfl))⟩) (by assumption) ?_
      try simp only [Act.put, List.setIfInBounds_toArray, List.set_cons_succ, List.set_cons_zero]
      refine wpAnyH_take (i := 3) (v := ?_) rfl (by kernel_rfl) (by kernel_rfl) (by kernel_rfl) (fun _ _ _ h => h) (Or.inl ⟨by rfl, (by intro w hSw; (try dsimp only at hSw); go_simp; (with_reducible rfl))⟩) (by assumption) ?_
      try simp only [Act.put, List.setIfInBounds_toArray, List.set_cons_succ, List.set_cons_zero]
      refine wpAnyH_take (i := 4) (v := ?_) rfl (by kernel_rfl) (by kernel_rfl) (by kernel_rfl) (fun _ _ _ h => h) (Or.inl ⟨by rfl, (by intro w hSw; (try dsimp only at hSw); go_simp; (with_reducible rfl))⟩) (by assumption) ?_
      try simp only [Act.put, List.setIfInBounds_toArray, List.set_cons_succ, List.set_cons_zero]
      refine wpAnyH_take (i := 5) (v := ?_) rfl (by kernel_rfl) (by kernel_rfl) (by kernel_rfl) (fun _ _ _ h => h) (Or.inl ⟨by rfl, (by intro w hSw; (try dsimp only at hSw); go_simp; (with_reducible rfl))⟩) (by assumption) ?_
      try simp only [Act.put, List.setIfInBounds_toArray, List.set_cons_succ, List.set_cons_zero]
      refine wpAnyH_take (i := 6) (v := ?_) rfl (by kernel_rfl) (by kernel_rfl) (by kernel_rfl) (fun _ _ _ h => h) (Or.inl ⟨by rfl, (by intro w hSw; (try dsimp only at hSw); go_simp; (with_reducible rfl))⟩) (by assumption) ?_
      try simp only [Act.put, List.setIfInBounds_toArray, List.set_cons_succ, List.set_cons_zero]
      refine wpAnyH_take (i := 7) (v := ?_) rfl (by kernel_rfl) (by kernel_rfl) (by kernel_rfl) (fun _ _ _ h => h) (Or.inl ⟨by rfl, (by intro w hSw; (try dsimp only at hSw); go_simp; (with_reducible rfl))⟩) (by assumption) ?_
      try simp only [Act.put, List.setIfInBounds_toArray, List.set_cons_succ, List.set_cons_zero]
      refine wpAnyH_ready (rs := [8]) (by kernel_rfl) (by simp) ?_; refine AllReadyH.cons (o := _) rfl (fun K hK => ?_) AllReadyH.nil; go_simp
      refine (HA.out _ _ HP2.out).mono ?_; intro e w5 h5; cases hF2 : selP L us with
      | error er =>
        rw [hF2] at h5; obtain ⟨rfl, hb5⟩ := h5; have hRx := HRR.out; rw [hF2] at hRx; subst hRx; exact ⟨rfl, rfl, HB2.out.drew.andThen hb5 (by simp; omega)⟩
      | ok r2 =>
        obtain ⟨b5, v5⟩ := r2; rw [hF2] at h5; obtain ⟨⟨y, rfl, hy5⟩, hp5, hb5⟩ := h5; have hRx := HRR.out; rw [hF2] at hRx; have HRX := Lib.hid hRx; have HK5 : Hid (But pb (x + 1) w2 w5) := (But.refl pb (x + 1) w2).drew.andThen hb5 (by simp; omega); have HX5 := Lib.hid (HT2.out.keepAt ((But.refl pb w2.heap.size w2).drew.andThen hb5 (by simp)) (Nat.le_refl _) (fun k hk => by omega)); have HY5 : Hid (TR (fun k => w.heap.size ≤ k) w5 y b5) := hy5.mono (fun k hk _ => by simp at hk; omega); have hbA := HB2.out.drew.andThen hb5 (by simp; omega); have hzA := hbA.size; have hzB : w2.heap.size ≤ w5.heap.size := by have := hb5.size; simpa using this
        have HVL := Lib.hid (HSA.out us b5 v5 HP2.out.good hF2); have HP5 := Lib.hid hp5; have HBA := Lib.hid hbA; clear hRx hF2 hy5 hp5 hbA hb5; unfold ptr; refine hK.out _ _ (HKS.out _ HK5.out) (fun hHeld => ?_); clear hK K
        try simp only [Act.put, List.setIfInBounds_toArray, List.set_cons_succ, List.set_cons_zero]
        refine wpAnyH_ready (rs := [9]) (by kernel_rfl) (by simp) ?_; refine AllReadyH.cons (o := _) rfl (fun K hK => ?_) AllReadyH.nil; go_simp
        refine hK.out _ _ (HKS.out _ (HK5.out.alloc (by omega) _)) (fun hHeld => ?_); clear hK K
        try simp only [Act.put, List.setIfInBounds_toArray, List.set_cons_succ, List.set_cons_zero]
        refine wpAnyH_take (i := 10) (v := ?_) rfl (by kernel_rfl) (by kernel_rfl) (by kernel_rfl) (fun _ _ _ h => h) (Or.inl ⟨by rfl, (by intro w hSw; (try dsimp only at hSw); go_simp; (with_reducible rfl))⟩) (by assumption) ?_
        try simp only [Act.put, List.setIfInBounds_toArray, List.set_cons_succ, List.set_cons_zero]
        refine wpAnyH_ready (rs := [11]) (by kernel_rfl) (by simp) ?_; refine AllReadyH.cons (o := _) rfl (fun K hK => ?_) AllReadyH.nil; go_simp
        refine hK.out _ _ (HKS.out _ ((HK5.out.alloc (by omega) _).alloc (by simp; omega) _)) (fun hHeld => ?_); clear hK K
        try simp only [Act.put, List.setIfInBounds_toArray, List.set_cons_succ, List.set_cons_zero]
        refine wpAnyH_take (i := 12) (v := ?_) rfl (by kernel_rfl) (by kernel_rfl) (by kernel_rfl) (fun _ _ _ h => h) (Or.inl ⟨by rfl, (by intro w hSw; (try dsimp only at hSw); go_simp; (with_reducible rfl))⟩) (by assumption) ?_
        try simp only [Act.put, List.setIfInBounds_toArray, List.set_cons_succ, List.set_cons_zero]
        refine wpAnyH_done (by kernel_rfl) ?_ _; have HN := Lib.hid (node_two (kind := 10) (int := 0) (text := ⟨#[]⟩) (flt := 0) (place := a.place) HX5.out HY5.out (fun k hk => by omega)); have hbT := below_two w5 (.cells #[.pointer (some ⟨x, 0, none⟩), .pointer (some ⟨y, 0, none⟩)] 51) (.cells #[.int .i64 10, .string ⟨#[]⟩, .int .i64 0, .float .f64 0, .slice none 0 0, .slice none 0 0, .int .i64 a.place, .slice (some ⟨w5.heap.size, 0, none⟩) 2 2] 85); have hp8 := HP5.out.below hbT HP5.out.lt; have HP8 := Lib.hid hp8; have HB8 := Lib.hid (HBA.out.then hbT (by omega)); have HL8 := Lib.hid hp8.lenP; clear hbT hp8
        go_wp2_with fail; refine ⟨⟨k - 1, .mk 10 ⟨#[]⟩ 0 0 [] a.place [a, b5], HN.out, v5, HP8.out, HB8.out, ?_, HRX.out.symm⟩, ?_⟩
        · have h1 := HVL.out.1
          have h2 := HK.out; omega
        · have h3 := HLEN.out
          have h4 := HL8.out; rw [h3, h4]; exact HVL.out.1
end
end Go.Proofs.YtkoghgnjjfnamaaGreatDoor
