/- Ge: what is used of them. -/
import Derived.Test.YtkoghgnjjfnamaaGreatDoorGd
set_option linter.unusedSimpArgs false
namespace Go.Proofs.YtkoghgnjjfnamaaGreatDoor
set_option maxRecDepth 100000
set_option maxHeartbeats 2000000
open Go.RowKit Go.Shelf
def onceR (A : List Tok → Res T) (ss : List ByteArray) (a : T) (us : List Tok) : Res T := if anyP ss us then (match us with
 | t :: vs => (match A vs with | .ok (b, xs) => .ok (binT t a b, xs) | .error e => .error e)
 | [] => .ok (a, us)) else .ok (a, us)
def rightR (RW : List Tok → Res T) (s : ByteArray) (a : T) (us : List Tok) : Res T := if isP s us then (match us with
 | t :: vs => (match RW vs with | .ok (b, xs) => .ok (binT t a b, xs) | .error e => .error e)
 | [] => .ok (a, us)) else .ok (a, us)
section
variable {w w' : World} {pb g n : Nat} {t : Tok} {us ts : List Tok}
theorem onceR_stop {A : List Tok → Res T} {ss : List ByteArray} {a : T} (h : anyP ss ts = false) : onceR A ss a ts = .ok (a, ts) := by unfold onceR; rw [h]; rfl
theorem onceR_go {A : List Tok → Res T} {ss : List ByteArray} {a : T} (h : anyP ss (t :: us) = true) : onceR A ss a (t :: us) = match A us with | .ok (b, xs) => .ok (binT t a b, xs) | .error e => .error e := by unfold onceR; rw [h]; rfl
theorem rightR_stop {RW : List Tok → Res T} {s : ByteArray} {a : T} (h : isP s ts = false) : rightR RW s a ts = .ok (a, ts) := by unfold rightR; rw [h]; rfl
theorem rightR_go {RW : List Tok → Res T} {s : ByteArray} {a : T} (h : isP s (t :: us) = true) : rightR RW s a (t :: us) = match RW us with | .ok (b, xs) => .ok (binT t a b, xs) | .error e => .error e := by unfold rightR; rw [h]; rfl
theorem once_any {f : Nat} {lb cap : Array Value} {A : List Tok → Res T} {ss : List ByteArray} {b c : Nat} (ef : Enters Tryz.prog f) (hA : Reads pb g n f (lb ++ cap) A) (hss : ss.length ≤ 10) (hs0 : 0 < ss.length) (hbp : b ≠ pb)
 (h : PS w pb g n ts) (hsg : SG w b ss) :
 Calls Tryz.prog 127 #[.pointer (some ⟨pb, 0, none⟩), .func (.func f) lb cap, .slice (some ⟨b, 0, none⟩) ss.length c] w fun e w' => RdPost pb g n w (onceP A ss ts) e w' := by
 have he : ∀ (a : Array Value) (w : World), (callFunc f a).run Tryz.prog w = .ok (.enter f a) w := ef; have hf0 := store_f64; have HA := Lib.hid hA; have HSG := Lib.hid hsg; have HBP := Lib.hid hbp; have hbl := hsg.lt hs0; have HSS := Lib.hid hss; have HC := Lib.hid (hA w ts h); have hpl := h.lt; obtain ⟨l, hl⟩ : ∃ l, ss.length = l := ⟨_, rfl⟩; have HL := Lib.hid hl; rw [hl]; clear hA h hsg hbp hss hs0 hl; go_enter Tryz.func127, Tryz.ntmps127; cases hF : A ts with
 | error x =>
   rw [hF] at HC; have hR : onceP A ss ts = .error x := by unfold onceP; rw [hF]
   rw [hR]; clear hR hF
   go_wp2_with fail; refine HC.out.mono ?_; rintro e w1 ⟨rfl, hb1⟩; exact ⟨rfl, rfl, hb1⟩
 | ok r =>
   obtain ⟨a, us⟩ := r; rw [hF] at HC; have hR : onceP A ss ts = onceR A ss a us := by unfold onceP; rw [hF]; rfl
   rw [hR]; clear hR hF; obtain ⟨R, hR⟩ : ∃ R, onceR A ss a us = R := ⟨_, rfl⟩; rw [hR]; have HR := Lib.hid hR; clear hR
   go_wp2_with fail; refine HC.out.mono ?_; rintro e w1 ⟨⟨x, rfl, htr⟩, hp1, hb1⟩; clear HC; unfold ptr; have hsg1 := HSG.out.but hb1 hbl HBP.out; have hz1 := hb1.size; have HANY := Lib.hid (any_any ss b c hp1 hsg1 HSS.out); rw [HL.out] at HANY; have HP1 := Lib.hid hp1; have HTR := Lib.hid htr; have HB1 := Lib.hid hb1; have hpl1 := hp1.lt; clear hp1 htr hb1 hsg1; cases hany : anyP ss us with
   | false =>
     rw [hany] at HANY; have hR : R = .ok (a, us) := by rw [← HR.out, onceR_stop hany]
     subst hR; clear hany
     go_wp2_with fail; refine HANY.out.mono ?_; rintro e w2 ⟨rfl, hb2⟩
     go_wp2_with fail; go_ret; exact ⟨⟨x, rfl, HTR.out.keep (Below.keeps hb2)⟩, HP1.out.below hb2 HP1.out.lt, HB1.out.then hb2 hz1⟩
   | true =>
     rw [hany] at HANY; obtain ⟨t, us', rfl, hk5⟩ := anyP_cons hany; have hR := onceR_go (A := A) (a := a) hany; rw [HR.out] at hR; have HK5 := Lib.hid hk5; clear hany hk5 HR
     go_wp2_with fail; refine HANY.out.mono ?_; rintro e w2 ⟨rfl, hb2⟩; have hz2 := hb2.size
     go_wp2_with fail; refine (take_any (HP1.out.below hb2 HP1.out.lt) (by rw [HK5.out]; decide)).mono ?_; rintro e w3 ⟨rfl, hp3, hb3⟩; have hz3 := hb3.size
     go_wp2_with fail; have hz4 : w3.heap.size < (w3.alloc (Obj.cells #[.int .i64 t.kind, .string t.text, .int .i64 t.num, .float .f64 t.bits, .int .i64 t.place] 54)).heap.size := by simp
     have h4 := block_new w3 (Obj.cells #[.int .i64 t.kind, .string t.text, .int .i64 t.num, .float .f64 t.bits, .int .i64 t.place] 54) rfl; have hp4 := hp3.below (Below.alloc (Below.refl _ _) (Nat.le_refl _) (Obj.cells #[.int .i64 t.kind, .string t.text, .int .i64 t.num, .float .f64 t.bits, .int .i64 t.place] 54)) hp3.lt; have hb4 := ((HB1.out.then hb2 hz1).andThen hb3 (by omega)).alloc (by omega) (Obj.cells #[.int .i64 t.kind, .string t.text, .int .i64 t.num, .float .f64 t.bits, .int .i64 t.place] 54); have ht4 := HTR.out.keep (((But.of hb2).andThen hb3 hz2).alloc (by omega) (Obj.cells #[.int .i64 t.kind, .string t.text, .int .i64 t.num, .float .f64 t.bits, .int .i64 t.place] 54) |>.keeps (p := fun k => w.heap.size ≤ k) (Nat.le_refl _) (fun k hk => by omega)); have hzz : w3.heap.size ≠ pb := by have := hp3.lt; omega
     obtain ⟨z, hz⟩ : ∃ z, w3.heap.size = z := ⟨_, rfl⟩; rw [hz] at hz4 h4 hzz; rw [hz]; generalize (w3.alloc (Obj.cells #[.int .i64 t.kind, .string t.text, .int .i64 t.num, .float .f64 t.bits, .int .i64 t.place] 54)) = w4 at *; have keepS : ∀ w', But pb (z + 1) w4 w' → (w'.cell? ⟨z, 0, none⟩ = some (.int .i64 t.kind) ∧ w'.cell? ⟨z, 1, none⟩ = some (.string t.text) ∧ w'.cell? ⟨z, 2, none⟩ = some (.int .i64 t.num) ∧ w'.cell? ⟨z, 3, none⟩ = some (.float .f64 t.bits) ∧ w'.cell? ⟨z, 4, none⟩ = some (.int .i64 t.place)) := fun w' hb => by
      have h5 := hb.get (Nat.lt_succ_self z) hzz h4; exact ⟨block_cell h5 rfl, block_cell h5 rfl, block_cell h5 rfl, block_cell h5 rfl, block_cell h5 rfl⟩
     have HKS := Lib.hid keepS; have HB4 := Lib.hid hb4; have HT4 := Lib.hid ht4; have HP4 := Lib.hid hp4.drew; have HRR := Lib.hid hR; clear keepS hb4 ht4 hp4 hp3 hb3 hb2 hR h4; refine wp_region_held_drew (S := fun w' => w'.cell? ⟨z, 0, none⟩ = some (.int .i64 t.kind) ∧ w'.cell? ⟨z, 1, none⟩ = some (.string t.text) ∧ w'.cell? ⟨z, 2, none⟩ = some (.int .i64 t.num) ∧ w'.cell? ⟨z, 3, none⟩ = some (.float .f64 t.bits) ∧ w'.cell? ⟨z, 4, none⟩ = some (.int .i64 t.place)) (by kernel_rfl) (HKS.out _ (But.refl _ _ _).drew) (fun hHeld => ?_); refine wpAnyH_take (i := 0) (v := ?_) rfl (by kernel_rfl) (by kernel_rfl) (by kernel_rfl) (fun _ _ _ h => h) (Or.inl ⟨by rfl, (by intro w hSw; (try dsimp only at hSw); go_simp; (with_reducible rfl))⟩) (by assumption) ?_
     try simp only [Act.put, List.setIfInBounds_toArray, List.set_cons_succ, List.set_cons_zero]
     refine wpAnyH_take (i := 1) (v := ?_) rfl (by kernel_rfl) (by kernel_rfl) (by kernel_rfl) (fun _ _ _ h => h) (Or.inl ⟨by rfl, (by intro w hSw; (try dsimp only at hSw); go_simp; (with_reducible rfl))⟩) (by assumption) ?_
     try simp only [Act.put, List.setIfInBounds_toArray, List.set_cons_succ, List.set_cons_zero]
     refine wpAnyH_take (i := 2) (v := ?_) rfl (by kernel_rfl) (by kernel_rfl) (by kernel_rfl) (fun _ _ _ h => h) (Or.inl ⟨by rfl, (by intro w hSw; (try dsimp only at hSw); go_simp; (with_reducible rfl))⟩) (by assumption) ?_
     try simp only [Act.put, List.setIfInBounds_toArray, List.set_cons_succ, List.set_cons_zero]
     refine wpAnyH_ready (rs := [3]) (by kernel_rfl) (by simp) ?_; refine AllReadyH.cons (o := _) rfl (fun K hK => ?_) AllReadyH.nil; go_simp
     refine (HA.out _ _ HP4.out).mono ?_; intro e w5 h5; cases hF2 : A us' with
     | error er =>
       rw [hF2] at h5; obtain ⟨rfl, hb5⟩ := h5; have hRx := HRR.out; rw [hF2] at hRx; subst hRx; exact ⟨rfl, rfl, HB4.out.drew.andThen hb5 (by simp; omega)⟩
     | ok r2 =>
       obtain ⟨b5, v5⟩ := r2; rw [hF2] at h5; obtain ⟨⟨y, rfl, hy5⟩, hp5, hb5⟩ := h5; have hRx := HRR.out; rw [hF2] at hRx; have HRX := Lib.hid hRx; have hk5 : But pb (z + 1) w4 w5 := (But.refl pb (z + 1) w4).drew.andThen hb5 (by simp; omega); have hx5 := HT4.out.keep (((But.refl pb w4.heap.size w4).drew.andThen hb5 (by simp)).keeps (p := fun k => w.heap.size ≤ k) (Nat.le_refl _) (fun k hk => by omega)); have hy5' : TR (fun k => w.heap.size ≤ k) w5 y b5 := hy5.mono (fun k hk _ => by simp at hk; omega); have hbA := HB4.out.drew.andThen hb5 (by simp; omega); have hzA := hbA.size; have HX5 := Lib.hid hx5; have HY5 := Lib.hid hy5'; have HK5 := Lib.hid hk5; have HP5 := Lib.hid hp5; have HBA := Lib.hid hbA; clear hRx hF2 hx5 hy5 hy5' hk5 hp5 hbA hb5; unfold ptr; refine hK.out _ _ (HKS.out _ HK5.out) (fun hHeld => ?_); clear hK K
       try simp only [Act.put, List.setIfInBounds_toArray, List.set_cons_succ, List.set_cons_zero]
       refine wpAnyH_ready (rs := [4]) (by kernel_rfl) (by simp) ?_; refine AllReadyH.cons (o := _) rfl (fun K hK => ?_) AllReadyH.nil; go_simp
       refine (binary_any (p := fun k => w.heap.size ≤ k) HX5.out HY5.out (fun k hk => by omega)).mono ?_; rintro e w6 ⟨⟨r6, rfl, ht6⟩, hb6⟩; unfold ptr; refine hK.out _ _ (HKS.out _ (HK5.out.then hb6 (World.block_lt_of_cell? _ _ hHeld.1))) (fun hHeld => ?_); clear hK K
       try simp only [Act.put, List.setIfInBounds_toArray, List.set_cons_succ, List.set_cons_zero]
       refine wpAnyH_take (i := 5) (v := ?_) rfl (by kernel_rfl) (by kernel_rfl) (by kernel_rfl) (fun _ _ _ h => h) (Or.inl ⟨by rfl, (by intro w hSw; (try dsimp only at hSw); go_simp; (with_reducible rfl))⟩) (by assumption) ?_
       try simp only [Act.put, List.setIfInBounds_toArray, List.set_cons_succ, List.set_cons_zero]
       refine wpAnyH_done (by kernel_rfl) ?_ _
       go_wp2_with fail; go_ret; have hRy := HRX.out; subst hRy; exact ⟨⟨r6, rfl, ht6⟩, HP5.out.below hb6 HP5.out.lt, HBA.out.then hb6 hzA⟩
theorem right_any {f : Nat} {lb cap : Array Value} {rv : Value} {A RW : List Tok → Res T} {s : ByteArray} (ef : Enters Tryz.prog f) (hA : Reads pb g n f (lb ++ cap) A) (hW : Reads pb g n 34 #[.pointer (some ⟨pb, 0, none⟩), rv] RW)
 (h : PS w pb g n ts) :
 Calls Tryz.prog 195 #[.pointer (some ⟨pb, 0, none⟩), rv, .func (.func f) lb cap, .string s] w fun e w' => RdPost pb g n w (rightP' RW A s ts) e w' := by
 have he : ∀ (a : Array Value) (w : World), (callFunc f a).run Tryz.prog w = .ok (.enter f a) w := ef; have hf0 := store_f64; have HW := Lib.hid hW; have HC := Lib.hid (hA w ts h); have hpl := h.lt; clear hA h hW; go_enter Tryz.func195, Tryz.ntmps195; cases hF : A ts with
 | error x =>
   rw [hF] at HC; have hR : rightP' RW A s ts = .error x := by unfold rightP'; rw [hF]
   rw [hR]; clear hR hF
   go_wp2_with fail; refine HC.out.mono ?_; rintro e w1 ⟨rfl, hb1⟩; exact ⟨rfl, rfl, hb1⟩
 | ok r =>
   obtain ⟨a, us⟩ := r; rw [hF] at HC; have hR : rightP' RW A s ts = rightR RW s a us := by unfold rightP'; rw [hF]; rfl
   rw [hR]; clear hR hF; obtain ⟨R, hR⟩ : ∃ R, rightR RW s a us = R := ⟨_, rfl⟩; rw [hR]; have HR := Lib.hid hR; clear hR
   go_wp2_with fail; refine HC.out.mono ?_; rintro e w1 ⟨⟨x, rfl, htr⟩, hp1, hb1⟩; clear HC; unfold ptr; have hz1 := hb1.size; have HANY := Lib.hid (is_any s hp1); have HP1 := Lib.hid hp1; have HTR := Lib.hid htr; have HB1 := Lib.hid hb1; have hpl1 := hp1.lt; clear hp1 htr hb1; cases hany : isP s us with
   | false =>
     rw [hany] at HANY; have hR : R = .ok (a, us) := by rw [← HR.out, rightR_stop hany]
     subst hR; clear hany
     go_wp2_with fail; refine HANY.out.mono ?_; rintro e w2 ⟨rfl, hb2⟩
     go_wp2_with fail; go_ret; exact ⟨⟨x, rfl, HTR.out.keep (Below.keeps hb2)⟩, HP1.out.below hb2 HP1.out.lt, HB1.out.then hb2 hz1⟩
   | true =>
     rw [hany] at HANY; obtain ⟨t, us', rfl, hk5⟩ := isP_cons hany; have hR := rightR_go (RW := RW) (a := a) hany; rw [HR.out] at hR; have HK5 := Lib.hid (isT_kind hk5); clear hany hk5 HR
     go_wp2_with fail; refine HANY.out.mono ?_; rintro e w2 ⟨rfl, hb2⟩; have hz2 := hb2.size
     go_wp2_with fail; refine (take_any (HP1.out.below hb2 HP1.out.lt) HK5.out).mono ?_; rintro e w3 ⟨rfl, hp3, hb3⟩; have hz3 := hb3.size
     go_wp2_with fail; have hz4 : w3.heap.size < (w3.alloc (Obj.cells #[.int .i64 t.kind, .string t.text, .int .i64 t.num, .float .f64 t.bits, .int .i64 t.place] 54)).heap.size := by simp
     have h4 := block_new w3 (Obj.cells #[.int .i64 t.kind, .string t.text, .int .i64 t.num, .float .f64 t.bits, .int .i64 t.place] 54) rfl; have hp4 := hp3.below (Below.alloc (Below.refl _ _) (Nat.le_refl _) (Obj.cells #[.int .i64 t.kind, .string t.text, .int .i64 t.num, .float .f64 t.bits, .int .i64 t.place] 54)) hp3.lt; have hb4 := ((HB1.out.then hb2 hz1).andThen hb3 (by omega)).alloc (by omega) (Obj.cells #[.int .i64 t.kind, .string t.text, .int .i64 t.num, .float .f64 t.bits, .int .i64 t.place] 54); have ht4 := HTR.out.keep (((But.of hb2).andThen hb3 hz2).alloc (by omega) (Obj.cells #[.int .i64 t.kind, .string t.text, .int .i64 t.num, .float .f64 t.bits, .int .i64 t.place] 54) |>.keeps (p := fun k => w.heap.size ≤ k) (Nat.le_refl _) (fun k hk => by omega)); have hzz : w3.heap.size ≠ pb := by have := hp3.lt; omega
     obtain ⟨z, hz⟩ : ∃ z, w3.heap.size = z := ⟨_, rfl⟩; rw [hz] at hz4 h4 hzz; rw [hz]; generalize (w3.alloc (Obj.cells #[.int .i64 t.kind, .string t.text, .int .i64 t.num, .float .f64 t.bits, .int .i64 t.place] 54)) = w4 at *; have keepS : ∀ w', But pb (z + 1) w4 w' → (w'.cell? ⟨z, 0, none⟩ = some (.int .i64 t.kind) ∧ w'.cell? ⟨z, 1, none⟩ = some (.string t.text) ∧ w'.cell? ⟨z, 2, none⟩ = some (.int .i64 t.num) ∧ w'.cell? ⟨z, 3, none⟩ = some (.float .f64 t.bits) ∧ w'.cell? ⟨z, 4, none⟩ = some (.int .i64 t.place)) := fun w' hb => by
      have h5 := hb.get (Nat.lt_succ_self z) hzz h4; exact ⟨block_cell h5 rfl, block_cell h5 rfl, block_cell h5 rfl, block_cell h5 rfl, block_cell h5 rfl⟩
     have HKS := Lib.hid keepS; have HB4 := Lib.hid hb4; have HT4 := Lib.hid ht4; have HP4 := Lib.hid hp4.drew; have HRR := Lib.hid hR; clear keepS hb4 ht4 hp4 hp3 hb3 hb2 hR h4; refine wp_region_held_drew (S := fun w' => w'.cell? ⟨z, 0, none⟩ = some (.int .i64 t.kind) ∧ w'.cell? ⟨z, 1, none⟩ = some (.string t.text) ∧ w'.cell? ⟨z, 2, none⟩ = some (.int .i64 t.num) ∧ w'.cell? ⟨z, 3, none⟩ = some (.float .f64 t.bits) ∧ w'.cell? ⟨z, 4, none⟩ = some (.int .i64 t.place)) (by kernel_rfl) (HKS.out _ (But.refl _ _ _).drew) (fun hHeld => ?_); refine wpAnyH_take (i := 0) (v := ?_) rfl (by kernel_rfl) (by kernel_rfl) (by kernel_rfl) (fun _ _ _ h => h) (Or.inl ⟨by rfl, (by intro w hSw; (try dsimp only at hSw); go_simp; (with_reducible rfl))⟩) (by assumption) ?_
     try simp only [Act.put, List.setIfInBounds_toArray, List.set_cons_succ, List.set_cons_zero]
     refine wpAnyH_take (i := 1) (v := ?_) rfl (by kernel_rfl) (by kernel_rfl) (by kernel_rfl) (fun _ _ _ h => h) (Or.inl ⟨by rfl, (by intro w hSw; (try dsimp only at hSw); go_simp; (with_reducible rfl))⟩) (by assumption) ?_
     try simp only [Act.put, List.setIfInBounds_toArray, List.set_cons_succ, List.set_cons_zero]
     refine wpAnyH_take (i := 2) (v := ?_) rfl (by kernel_rfl) (by kernel_rfl) (by kernel_rfl) (fun _ _ _ h => h) (Or.inl ⟨by rfl, (by intro w hSw; (try dsimp only at hSw); go_simp; (with_reducible rfl))⟩) (by assumption) ?_
     try simp only [Act.put, List.setIfInBounds_toArray, List.set_cons_succ, List.set_cons_zero]
     refine wpAnyH_take (i := 3) (v := ?_) rfl (by kernel_rfl) (by kernel_rfl) (by kernel_rfl) (fun _ _ _ h => h) (Or.inl ⟨by rfl, (by intro w hSw; (try dsimp only at hSw); go_simp; (with_reducible rfl))⟩) (by assumption) ?_
     try simp only [Act.put, List.setIfInBounds_toArray, List.set_cons_succ, List.set_cons_zero]
     refine wpAnyH_ready (rs := [4]) (by kernel_rfl) (by simp) ?_; refine AllReadyH.cons (o := _) rfl (fun K hK => ?_) AllReadyH.nil; go_simp
     refine (HW.out _ _ HP4.out).mono ?_; intro e w5 h5; cases hF2 : RW us' with
     | error er =>
       rw [hF2] at h5; obtain ⟨rfl, hb5⟩ := h5; have hRx := HRR.out; rw [hF2] at hRx; subst hRx; exact ⟨rfl, rfl, HB4.out.drew.andThen hb5 (by simp; omega)⟩
     | ok r2 =>
       obtain ⟨b5, v5⟩ := r2; rw [hF2] at h5; obtain ⟨⟨y, rfl, hy5⟩, hp5, hb5⟩ := h5; have hRx := HRR.out; rw [hF2] at hRx; have HRX := Lib.hid hRx; have hk5 : But pb (z + 1) w4 w5 := (But.refl pb (z + 1) w4).drew.andThen hb5 (by simp; omega); have hx5 := HT4.out.keep (((But.refl pb w4.heap.size w4).drew.andThen hb5 (by simp)).keeps (p := fun k => w.heap.size ≤ k) (Nat.le_refl _) (fun k hk => by omega)); have hy5' : TR (fun k => w.heap.size ≤ k) w5 y b5 := hy5.mono (fun k hk _ => by simp at hk; omega); have hbA := HB4.out.drew.andThen hb5 (by simp; omega); have hzA := hbA.size; have HX5 := Lib.hid hx5; have HY5 := Lib.hid hy5'; have HK5 := Lib.hid hk5; have HP5 := Lib.hid hp5; have HBA := Lib.hid hbA; clear hRx hF2 hx5 hy5 hy5' hk5 hp5 hbA hb5; unfold ptr; refine hK.out _ _ (HKS.out _ HK5.out) (fun hHeld => ?_); clear hK K
       try simp only [Act.put, List.setIfInBounds_toArray, List.set_cons_succ, List.set_cons_zero]
       refine wpAnyH_ready (rs := [5]) (by kernel_rfl) (by simp) ?_; refine AllReadyH.cons (o := _) rfl (fun K hK => ?_) AllReadyH.nil; go_simp
       refine (binary_any (p := fun k => w.heap.size ≤ k) HX5.out HY5.out (fun k hk => by omega)).mono ?_; rintro e w6 ⟨⟨r6, rfl, ht6⟩, hb6⟩; unfold ptr; refine hK.out _ _ (HKS.out _ (HK5.out.then hb6 (World.block_lt_of_cell? _ _ hHeld.1))) (fun hHeld => ?_); clear hK K
       try simp only [Act.put, List.setIfInBounds_toArray, List.set_cons_succ, List.set_cons_zero]
       refine wpAnyH_take (i := 6) (v := ?_) rfl (by kernel_rfl) (by kernel_rfl) (by kernel_rfl) (fun _ _ _ h => h) (Or.inl ⟨by rfl, (by intro w hSw; (try dsimp only at hSw); go_simp; (with_reducible rfl))⟩) (by assumption) ?_
       try simp only [Act.put, List.setIfInBounds_toArray, List.set_cons_succ, List.set_cons_zero]
       refine wpAnyH_done (by kernel_rfl) ?_ _
       go_wp2_with fail; go_ret; have hRy := HRX.out; subst hRy; exact ⟨⟨r6, rfl, ht6⟩, HP5.out.below hb6 HP5.out.lt, HBA.out.then hb6 hzA⟩
end
section
variable {p : Nat → Prop} {w : World} {x y : Nat} {kind int : Int} {text : ByteArray} {flt place : Nat} {a b : T}
theorem node_leaf (hp : ∀ k, w.heap.size ≤ k → p k) :
 TR p (w.alloc (.cells #[.int .i64 kind, .string text, .int .i64 int, .float .f64 flt, .slice none 0 0, .slice none 0 0, .int .i64 (place : Int), .slice none 0 0] 85)) w.heap.size (.mk kind text int flt [] place []) :=
 TR.leaf (block_new _ _ rfl) (hp _ (Nat.le_refl _))
theorem node_one (hx : TR p w x a) (hp : ∀ k, w.heap.size ≤ k → p k) :
 TR p ((w.alloc (.cells #[.pointer (some ⟨x, 0, none⟩)] 51)).alloc (.cells #[.int .i64 kind, .string text, .int .i64 int, .float .f64 flt, .slice none 0 0, .slice none 0 0, .int .i64 (place : Int), .slice (some ⟨w.heap.size, 0, none⟩) 1 1] 85)) (w.heap.size + 1) (.mk kind text int flt [] place [a]) := by
 have hk : Keeps p w ((w.alloc (.cells #[.pointer (some ⟨x, 0, none⟩)] 51)).alloc (.cells #[.int .i64 kind, .string text, .int .i64 int, .float .f64 flt, .slice none 0 0, .slice none 0 0, .int .i64 (place : Int), .slice (some ⟨w.heap.size, 0, none⟩) 1 1] 85)) := Below.keeps (by (repeat' first | (with_reducible first | exact Below.refl _ _ | assumption | refine below_drewN ?_ _ | refine Below.drew ?_ | refine Below.alloc ?_ ?_ _ | refine Below.setCell ?_ ?_ _) | omega | (simp; done) | (simp; omega))); exact TR.one (block_new _ _ (by simp)) (hp _ (by omega)) (block_alloc (block_new _ _ rfl) _) (hp _ (by omega)) (hx.keep hk)
theorem node_two (hx : TR p w x a) (hy : TR p w y b) (hp : ∀ k, w.heap.size ≤ k → p k) :
 TR p ((w.alloc (.cells #[.pointer (some ⟨x, 0, none⟩), .pointer (some ⟨y, 0, none⟩)] 51)).alloc (.cells #[.int .i64 kind, .string text, .int .i64 int, .float .f64 flt, .slice none 0 0, .slice none 0 0, .int .i64 (place : Int), .slice (some ⟨w.heap.size, 0, none⟩) 2 2] 85)) (w.heap.size + 1) (.mk kind text int flt [] place [a, b]) := by
 have hk : Keeps p w ((w.alloc (.cells #[.pointer (some ⟨x, 0, none⟩), .pointer (some ⟨y, 0, none⟩)] 51)).alloc (.cells #[.int .i64 kind, .string text, .int .i64 int, .float .f64 flt, .slice none 0 0, .slice none 0 0, .int .i64 (place : Int), .slice (some ⟨w.heap.size, 0, none⟩) 2 2] 85)) := Below.keeps (by (repeat' first | (with_reducible first | exact Below.refl _ _ | assumption | refine below_drewN ?_ _ | refine Below.drew ?_ | refine Below.alloc ?_ ?_ _ | refine Below.setCell ?_ ?_ _) | omega | (simp; done) | (simp; omega))); exact TR.two (block_new _ _ (by simp)) (hp _ (by omega)) (block_alloc (block_new _ _ rfl) _) (hp _ (by omega)) (hx.keep hk) (hy.keep hk)
end
theorem below_two (w : World) (o o2 : Obj) : Below w.heap.size w ((w.alloc o).alloc o2) := (by (repeat' first | (with_reducible first | exact Below.refl _ _ | assumption | refine below_drewN ?_ _ | refine Below.drew ?_ | refine Below.alloc ?_ ?_ _ | refine Below.setCell ?_ ?_ _) | omega | (simp; done) | (simp; omega)))
section
variable {w w' : World} {pb g n : Nat} {t : Tok} {us ts : List Tok}
theorem enters_prefix1 : Enters Tryz.prog 211 := enters_of Tryz.func211 (by kernel_rfl) rfl
theorem prefix1_any {f b5 b6 : Nat} {lb cap : Array Value} {RW : List Tok → Res T} (ef : Enters Tryz.prog f) (hW : Reads pb g n f (lb ++ cap) RW) (h : PS w pb g n (t :: us)) (hk : t.kind ≠ 0)
 (c5 : w.cell? ⟨b5, 0, none⟩ = some (.pointer (some ⟨pb, 0, none⟩))) (c6 : w.cell? ⟨b6, 0, none⟩ = some (.func (.func f) lb cap)) (h6 : b6 ≠ pb) :
 Calls Tryz.prog 211 #[.pointer (some ⟨b5, 0, none⟩), .pointer (some ⟨b6, 0, none⟩)] w fun e w' => RdPost pb g n w (RW us) e w' := by
 have he : ∀ (a : Array Value) (w : World), (callFunc f a).run Tryz.prog w = .ok (.enter f a) w := ef; have HP := Lib.hid h; have HK := Lib.hid hk; have HW := Lib.hid hW; have hl6 := World.block_lt_of_cell? w _ c6; obtain ⟨R, hR⟩ : ∃ R, RW us = R := ⟨_, rfl⟩; have HR := Lib.hid hR; rw [hR]; clear h hk hW hR; go_enter Tryz.func211, Tryz.ntmps211
 go_wp2_with fail; refine (take_any HP.out HK.out).mono ?_; rintro e w1 ⟨rfl, hp1, hb1⟩; have hz1 := hb1.size; have d6 := hb1.cell (p := ⟨b6, 0, none⟩) hl6 h6 c6; have HC := Lib.hid (HW.out w1 us hp1); rw [HR.out] at HC; cases R with
 | error er =>
   go_wp2_with fail; refine HC.out.mono ?_; rintro e w2 ⟨rfl, hb2⟩; exact ⟨rfl, rfl, hb1.andThen hb2 hz1⟩
 | ok r =>
   obtain ⟨a, vs⟩ := r
   go_wp2_with fail; refine HC.out.mono ?_; rintro e w2 ⟨⟨x, rfl, ht2⟩, hp2, hb2⟩; unfold ptr
   go_wp2_with fail; go_ret; exact ⟨⟨x, rfl, ht2.mono (fun k hk _ => Nat.le_trans hz1 hk)⟩, hp2, hb1.andThen hb2 hz1⟩
theorem prefixR_any {f fr : Nat} {lb cap lr cr : Array Value} {A RT : List Tok → Res T} {s : ByteArray} {kind : Int} (ef : Enters Tryz.prog f) (er : Enters Tryz.prog fr) (hA : Reads pb g n f (lb ++ cap) A)
 (h0 : n = 0 → RT = deepP) (hm : ∀ m, n = m + 1 → ∃ RW, RT = (fun ts => RW ts.tail) ∧ Reads pb g m fr (lr ++ cr) RW) (h : PS w pb g n ts) :
 Calls Tryz.prog 203 #[.pointer (some ⟨pb, 0, none⟩), .func (.func fr) lr cr, .func (.func f) lb cap, .string s, .int .i64 kind] w fun e w' => RdPost pb g n w (prefixP RT A s kind ts) e w' := by
 have he : ∀ (a : Array Value) (w : World), (callFunc f a).run Tryz.prog w = .ok (.enter f a) w := ef; have hmf : ∀ (fn : Fn) (first cap : Array Value) (w : World), (Instr.makeFunc fn first cap).run Tryz.prog w = .ok (.func fn first cap) w := fun _ _ _ _ => rfl
 have hf4 := fld4; have HP := Lib.hid h; have HA := Lib.hid hA; have hpl := h.lt; have hbA : Below w.heap.size w ((w.alloc (.cells #[.pointer (some ⟨pb, 0, none⟩)] 48)).alloc (.cells #[.func (.func fr) lr cr] 52)) := (by (repeat' first | (with_reducible first | exact Below.refl _ _ | assumption | refine below_drewN ?_ _ | refine Below.drew ?_ | refine Below.alloc ?_ ?_ _ | refine Below.setCell ?_ ?_ _) | omega | (simp; done) | (simp; omega))); have h5 := block_alloc (block_new w (.cells #[.pointer (some ⟨pb, 0, none⟩)] 48) rfl) (.cells #[.func (.func fr) lr cr] 52); have h6 := block_new (w.alloc (.cells #[.pointer (some ⟨pb, 0, none⟩)] 48)) (.cells #[.func (.func fr) lr cr] 52) (g := w.heap.size + 1) (by simp); generalize hw1 : (w.alloc (.cells #[.pointer (some ⟨pb, 0, none⟩)] 48)).alloc (.cells #[.func (.func fr) lr cr] 52) = w1 at *; have HW1 := Lib.hid hw1; clear hw1; have hz1 := hbA.size; have hp1 := h.below hbA h.lt; have HI := Lib.hid (is_any s hp1); have HP1 := Lib.hid hp1; have c5 := block_cell (i := 0) h5 rfl; have c6 := block_cell (i := 0) h6 rfl; have hl6 := block_lt h6; clear h h5 h6 hA; cases hi : isP s ts with
 | false =>
   rw [show prefixP RT A s kind ts = A ts by unfold prefixP; rw [hi]; rfl]; rw [hi] at HI; obtain ⟨R, hR⟩ : ∃ R, A ts = R := ⟨_, rfl⟩; have HR := Lib.hid hR; rw [hR]; clear hR hi; go_enter Tryz.func203, Tryz.ntmps203
   go_wp2_with fail; rw [HW1.out]; refine HI.out.mono ?_; rintro e w2 ⟨rfl, hb2⟩; have hz2 := hb2.size; have hb3 := hbA.trans (hb2.mono hz1)
   go_wp2_with fail; have HC := Lib.hid (HA.out w2 ts (HP1.out.below hb2 HP1.out.lt)); rw [HR.out] at HC; cases R with
   | error er =>
     refine HC.out.mono ?_; rintro e w4 ⟨rfl, hb4⟩; exact ⟨rfl, rfl, (But.of hb3).andThen hb4 (by omega)⟩
   | ok r =>
     obtain ⟨a, vs⟩ := r; refine HC.out.mono ?_; rintro e w4 ⟨⟨x, rfl, ht4⟩, hp4, hb4⟩; unfold ptr
     go_wp2_with fail; go_ret; exact ⟨⟨x, rfl, ht4.mono (fun k hk _ => by omega)⟩, hp4, (But.of hb3).andThen hb4 (by omega)⟩
 | true =>
   obtain ⟨t, us, rfl, hk5⟩ := isP_cons hi; have HK := Lib.hid (isT_kind hk5); rw [show prefixP RT A s kind (t :: us) = (match RT (t :: us) with | .ok (a, vs) => .ok (.mk kind ⟨#[]⟩ 0 0 [] t.place [a], vs) | .error e => .error e) by unfold prefixP; rw [hi]; rfl]; rw [hi] at HI; obtain ⟨R, hR⟩ : ∃ R, RT (t :: us) = R := ⟨_, rfl⟩; have HR := Lib.hid hR; rw [hR]; have HM := Lib.hid hm; have H0 := Lib.hid h0; clear hR hi hk5 hm h0; go_enter Tryz.func203, Tryz.ntmps203
   go_wp2_with fail; rw [HW1.out]; refine HI.out.mono ?_; rintro e w2 ⟨rfl, hb2⟩; have hz2 := hb2.size; have hb3 := hbA.trans (hb2.mono hz1); have d5 := cell_keeps hb2 c5
   go_wp2_with fail; refine (next_any (HP1.out.below hb2 HP1.out.lt)).mono ?_; rintro e w3 ⟨rfl, hb3'⟩; have hz3 := hb3'.size; have e5 := cell_keeps hb3' d5; have e6 := cell_keeps hb3' (cell_keeps hb2 c6)
   go_wp2_with fail; have hp3 := (HP1.out.below hb2 HP1.out.lt).below hb3' (HP1.out.below hb2 HP1.out.lt).lt; have HC := Lib.hid (level_at (f := 211) (lb := #[]) (cap := #[.pointer (some ⟨w.heap.size, 0, none⟩), .pointer (some ⟨w.heap.size + 1, 0, none⟩)]) (F := RT) enters_prefix1 H0.out hp3 (fun m hnm w' hb' hp' => by
    obtain ⟨RW, hRT, hRd⟩ := HM.out m hnm; rw [hRT]; exact prefix1_any er hRd hp' HK.out (hb'.cell (World.block_lt_of_cell? _ _ e5) (by simp; omega) e5) (hb'.cell (World.block_lt_of_cell? _ _ e6) (by simp; omega) e6) (by omega)))
   rw [HR.out] at HC; have hb6 := hb3.trans (hb3'.mono (by omega)); cases R with
   | error er =>
     refine HC.out.mono ?_; rintro e w4 ⟨rfl, hb4⟩; exact ⟨rfl, rfl, (But.of hb6).andThen hb4 (by omega)⟩
   | ok r =>
     obtain ⟨a, vs⟩ := r; refine HC.out.mono ?_; rintro e w4 ⟨⟨x, rfl, ht4⟩, hp4, hb4⟩; have hz4 := hb4.size; unfold ptr
     go_wp2_with fail; go_ret; exact ⟨⟨_, rfl, node_one (ht4.mono (fun k hk _ => by omega)) (fun k hk => by omega)⟩, hp4.below (below_two _ _ _) hp4.lt, ((But.of hb6).andThen hb4 (by omega)).then (below_two _ _ _) (by omega)⟩
end
section
variable {pb g n : Nat}
theorem enters_top : Enters Tryz.prog 35 := enters_of Tryz.func35 (by kernel_rfl) rfl
theorem enters_list : Enters Tryz.prog 242 := enters_of Tryz.func242 (by kernel_rfl) rfl
theorem enters_upd : Enters Tryz.prog 165 := enters_of Tryz.func165 (by kernel_rfl) rfl
theorem enters_cat : Enters Tryz.prog 219 := enters_of Tryz.func219 (by kernel_rfl) rfl
theorem enters_sel : Enters Tryz.prog 239 := enters_of Tryz.func239 (by kernel_rfl) rfl
theorem enters_not : Enters Tryz.prog 196 := enters_of Tryz.func196 (by kernel_rfl) rfl
theorem enters_neg : Enters Tryz.prog 229 := enters_of Tryz.func229 (by kernel_rfl) rfl
theorem enters_and : Enters Tryz.prog 84 := enters_of Tryz.func84 (by kernel_rfl) rfl
theorem enters_eq : Enters Tryz.prog 108 := enters_of Tryz.func108 (by kernel_rfl) rfl
theorem enters_cmp : Enters Tryz.prog 128 := enters_of Tryz.func128 (by kernel_rfl) rfl
theorem enters_add : Enters Tryz.prog 204 := enters_of Tryz.func204 (by kernel_rfl) rfl
theorem enters_mul : Enters Tryz.prog 212 := enters_of Tryz.func212 (by kernel_rfl) rfl
theorem enters_has : Enters Tryz.prog 237 := enters_of Tryz.func237 (by kernel_rfl) rfl
theorem neg_any {A RT : List Tok → Res T} (hA : Reads pb g n 237 #[.pointer (some ⟨pb, 0, none⟩)] A) (h0 : n = 0 → RT = deepP) (hm : ∀ m, n = m + 1 → ∃ RW, RT = (fun ts => RW ts.tail) ∧ Reads pb g m 229 #[.pointer (some ⟨pb, 0, none⟩)] RW) : Reads pb g n 229 #[.pointer (some ⟨pb, 0, none⟩)] (prefixP RT A ⟨#[45]⟩ 17) := by
 intro w ts h; have hmf : ∀ (fn : Fn) (first cap : Array Value) (w : World), (Instr.makeFunc fn first cap).run Tryz.prog w = .ok (.func fn first cap) w := fun _ _ _ _ => rfl
 have HC := Lib.hid (prefixR_any (f := 237) (fr := 229) (lb := #[.pointer (some ⟨pb, 0, none⟩)]) (cap := #[]) (lr := #[.pointer (some ⟨pb, 0, none⟩)]) (cr := #[]) (s := ⟨#[45]⟩) (kind := 17) enters_has enters_neg (by simpa using hA) h0 (by simpa using hm) h); obtain ⟨R, hR⟩ : ∃ R, prefixP RT A ⟨#[45]⟩ 17 ts = R := ⟨_, rfl⟩; rw [hR] at HC; rw [hR]; clear hR h; go_enter Tryz.func229, Tryz.ntmps229
 go_wp2_with fail; cases R with
 | error er =>
   refine HC.out.mono ?_; rintro e w2 ⟨rfl, hb2⟩; exact ⟨rfl, rfl, hb2⟩
 | ok r =>
   obtain ⟨a, vs⟩ := r; refine HC.out.mono ?_; rintro e w2 ⟨⟨x, rfl, ht2⟩, hp2, hb2⟩; unfold ptr
   go_wp2_with fail; go_ret; exact ⟨⟨x, rfl, ht2.mono (fun k hk _ => hk)⟩, hp2, hb2⟩
theorem cat_any {A RW : List Tok → Res T} (hA : Reads pb g n 229 #[.pointer (some ⟨pb, 0, none⟩)] A) (hW : Reads pb g n 34 #[.pointer (some ⟨pb, 0, none⟩), .func (.func 219) #[.pointer (some ⟨pb, 0, none⟩)] #[]] RW) : Reads pb g n 219 #[.pointer (some ⟨pb, 0, none⟩)] (rightP' RW A ⟨#[43, 43]⟩) := by
 intro w ts h; have hmf : ∀ (fn : Fn) (first cap : Array Value) (w : World), (Instr.makeFunc fn first cap).run Tryz.prog w = .ok (.func fn first cap) w := fun _ _ _ _ => rfl
 have HC := Lib.hid (right_any (f := 229) (lb := #[.pointer (some ⟨pb, 0, none⟩)]) (cap := #[]) (s := ⟨#[43, 43]⟩) enters_neg (by simpa using hA) hW h); obtain ⟨R, hR⟩ : ∃ R, rightP' RW A ⟨#[43, 43]⟩ ts = R := ⟨_, rfl⟩; rw [hR] at HC; rw [hR]; clear hR h; go_enter Tryz.func219, Tryz.ntmps219
 go_wp2_with fail; cases R with
 | error er =>
   refine HC.out.mono ?_; rintro e w2 ⟨rfl, hb2⟩; exact ⟨rfl, rfl, hb2⟩
 | ok r =>
   obtain ⟨a, vs⟩ := r; refine HC.out.mono ?_; rintro e w2 ⟨⟨x, rfl, ht2⟩, hp2, hb2⟩; unfold ptr
   go_wp2_with fail; go_ret; exact ⟨⟨x, rfl, ht2.mono (fun k hk _ => hk)⟩, hp2, hb2⟩
theorem mul_any {A : List Tok → Res T} (hA : Reads pb g n 219 #[.pointer (some ⟨pb, 0, none⟩)] A) (hsA : Sh A) : Reads pb g n 212 #[.pointer (some ⟨pb, 0, none⟩)] (leftP A [⟨#[42]⟩, ⟨#[47]⟩]) := by
 intro w ts h; have hmf : ∀ (fn : Fn) (first cap : Array Value) (w : World), (Instr.makeFunc fn first cap).run Tryz.prog w = .ok (.func fn first cap) w := fun _ _ _ _ => rfl
 have hb : Below w.heap.size w (w.alloc (.cells #[.string ⟨#[42]⟩, .string ⟨#[47]⟩] 9)) := (Below.refl _ _).alloc (Nat.le_refl _) _; have hz := hb.size; have hbn := block_new w (.cells #[.string ⟨#[42]⟩, .string ⟨#[47]⟩] 9) rfl; have hsg : SG (w.alloc (.cells #[.string ⟨#[42]⟩, .string ⟨#[47]⟩] 9)) w.heap.size [⟨#[42]⟩, ⟨#[47]⟩] := fun j hj => by
  match j, hj with
  | 0, _ => exact block_cell (i := 0) hbn rfl
  | 1, _ => exact block_cell (i := 1) hbn rfl
 have hlt := h.lt; have HC := Lib.hid (left_any (c := 2) (f := 219) (lb := #[.pointer (some ⟨pb, 0, none⟩)]) (cap := #[]) enters_cat (by simpa using hA) hsA (by decide) (by decide) (by omega) (h.below hb h.lt) hsg); obtain ⟨R, hR⟩ : ∃ R, leftP A [⟨#[42]⟩, ⟨#[47]⟩] ts = R := ⟨_, rfl⟩; rw [hR] at HC; rw [hR]; clear hR hbn hsg h; go_enter Tryz.func212, Tryz.ntmps212
 go_wp2_with fail; cases R with
 | error er =>
   refine HC.out.mono ?_; rintro e w2 ⟨rfl, hb2⟩; exact ⟨rfl, rfl, (But.of hb).andThen hb2 hz⟩
 | ok r =>
   obtain ⟨a, vs⟩ := r; refine HC.out.mono ?_; rintro e w2 ⟨⟨x, rfl, ht2⟩, hp2, hb2⟩; unfold ptr
   go_wp2_with fail; go_ret; exact ⟨⟨x, rfl, ht2.mono (fun k hk _ => Nat.le_trans hz hk)⟩, hp2, (But.of hb).andThen hb2 hz⟩
theorem add_any {A : List Tok → Res T} (hA : Reads pb g n 212 #[.pointer (some ⟨pb, 0, none⟩)] A) (hsA : Sh A) : Reads pb g n 204 #[.pointer (some ⟨pb, 0, none⟩)] (leftP A [⟨#[43]⟩, ⟨#[45]⟩]) := by
 intro w ts h; have hmf : ∀ (fn : Fn) (first cap : Array Value) (w : World), (Instr.makeFunc fn first cap).run Tryz.prog w = .ok (.func fn first cap) w := fun _ _ _ _ => rfl
 have hb : Below w.heap.size w (w.alloc (.cells #[.string ⟨#[43]⟩, .string ⟨#[45]⟩] 9)) := (Below.refl _ _).alloc (Nat.le_refl _) _; have hz := hb.size; have hbn := block_new w (.cells #[.string ⟨#[43]⟩, .string ⟨#[45]⟩] 9) rfl; have hsg : SG (w.alloc (.cells #[.string ⟨#[43]⟩, .string ⟨#[45]⟩] 9)) w.heap.size [⟨#[43]⟩, ⟨#[45]⟩] := fun j hj => by
  match j, hj with
  | 0, _ => exact block_cell (i := 0) hbn rfl
  | 1, _ => exact block_cell (i := 1) hbn rfl
 have hlt := h.lt; have HC := Lib.hid (left_any (c := 2) (f := 212) (lb := #[.pointer (some ⟨pb, 0, none⟩)]) (cap := #[]) enters_mul (by simpa using hA) hsA (by decide) (by decide) (by omega) (h.below hb h.lt) hsg); obtain ⟨R, hR⟩ : ∃ R, leftP A [⟨#[43]⟩, ⟨#[45]⟩] ts = R := ⟨_, rfl⟩; rw [hR] at HC; rw [hR]; clear hR hbn hsg h; go_enter Tryz.func204, Tryz.ntmps204
 go_wp2_with fail; cases R with
 | error er =>
   refine HC.out.mono ?_; rintro e w2 ⟨rfl, hb2⟩; exact ⟨rfl, rfl, (But.of hb).andThen hb2 hz⟩
 | ok r =>
   obtain ⟨a, vs⟩ := r; refine HC.out.mono ?_; rintro e w2 ⟨⟨x, rfl, ht2⟩, hp2, hb2⟩; unfold ptr
   go_wp2_with fail; go_ret; exact ⟨⟨x, rfl, ht2.mono (fun k hk _ => Nat.le_trans hz hk)⟩, hp2, (But.of hb).andThen hb2 hz⟩
theorem not_any {A RT : List Tok → Res T} (hA : Reads pb g n 204 #[.pointer (some ⟨pb, 0, none⟩)] A) (h0 : n = 0 → RT = deepP) (hm : ∀ m, n = m + 1 → ∃ RW, RT = (fun ts => RW ts.tail) ∧ Reads pb g m 196 #[.pointer (some ⟨pb, 0, none⟩)] RW) : Reads pb g n 196 #[.pointer (some ⟨pb, 0, none⟩)] (prefixP RT A ⟨#[33]⟩ 16) := by
 intro w ts h; have hmf : ∀ (fn : Fn) (first cap : Array Value) (w : World), (Instr.makeFunc fn first cap).run Tryz.prog w = .ok (.func fn first cap) w := fun _ _ _ _ => rfl
 have HC := Lib.hid (prefixR_any (f := 204) (fr := 196) (lb := #[.pointer (some ⟨pb, 0, none⟩)]) (cap := #[]) (lr := #[.pointer (some ⟨pb, 0, none⟩)]) (cr := #[]) (s := ⟨#[33]⟩) (kind := 16) enters_add enters_not (by simpa using hA) h0 (by simpa using hm) h); obtain ⟨R, hR⟩ : ∃ R, prefixP RT A ⟨#[33]⟩ 16 ts = R := ⟨_, rfl⟩; rw [hR] at HC; rw [hR]; clear hR h; go_enter Tryz.func196, Tryz.ntmps196
 go_wp2_with fail; cases R with
 | error er =>
   refine HC.out.mono ?_; rintro e w2 ⟨rfl, hb2⟩; exact ⟨rfl, rfl, hb2⟩
 | ok r =>
   obtain ⟨a, vs⟩ := r; refine HC.out.mono ?_; rintro e w2 ⟨⟨x, rfl, ht2⟩, hp2, hb2⟩; unfold ptr
   go_wp2_with fail; go_ret; exact ⟨⟨x, rfl, ht2.mono (fun k hk _ => hk)⟩, hp2, hb2⟩
theorem upd_any {A RW : List Tok → Res T} (hA : Reads pb g n 196 #[.pointer (some ⟨pb, 0, none⟩)] A) (hW : Reads pb g n 34 #[.pointer (some ⟨pb, 0, none⟩), .func (.func 165) #[.pointer (some ⟨pb, 0, none⟩)] #[]] RW) : Reads pb g n 165 #[.pointer (some ⟨pb, 0, none⟩)] (rightP' RW A ⟨#[47, 47]⟩) := by
 intro w ts h; have hmf : ∀ (fn : Fn) (first cap : Array Value) (w : World), (Instr.makeFunc fn first cap).run Tryz.prog w = .ok (.func fn first cap) w := fun _ _ _ _ => rfl
 have HC := Lib.hid (right_any (f := 196) (lb := #[.pointer (some ⟨pb, 0, none⟩)]) (cap := #[]) (s := ⟨#[47, 47]⟩) enters_not (by simpa using hA) hW h); obtain ⟨R, hR⟩ : ∃ R, rightP' RW A ⟨#[47, 47]⟩ ts = R := ⟨_, rfl⟩; rw [hR] at HC; rw [hR]; clear hR h; go_enter Tryz.func165, Tryz.ntmps165
 go_wp2_with fail; cases R with
 | error er =>
   refine HC.out.mono ?_; rintro e w2 ⟨rfl, hb2⟩; exact ⟨rfl, rfl, hb2⟩
 | ok r =>
   obtain ⟨a, vs⟩ := r; refine HC.out.mono ?_; rintro e w2 ⟨⟨x, rfl, ht2⟩, hp2, hb2⟩; unfold ptr
   go_wp2_with fail; go_ret; exact ⟨⟨x, rfl, ht2.mono (fun k hk _ => hk)⟩, hp2, hb2⟩
theorem cmp_any {A : List Tok → Res T} (hA : Reads pb g n 165 #[.pointer (some ⟨pb, 0, none⟩)] A) : Reads pb g n 128 #[.pointer (some ⟨pb, 0, none⟩)] (onceP A [⟨#[60]⟩, ⟨#[60, 61]⟩, ⟨#[62]⟩, ⟨#[62, 61]⟩]) := by
 intro w ts h; have hmf : ∀ (fn : Fn) (first cap : Array Value) (w : World), (Instr.makeFunc fn first cap).run Tryz.prog w = .ok (.func fn first cap) w := fun _ _ _ _ => rfl
 have hb : Below w.heap.size w (w.alloc (.cells #[.string ⟨#[60]⟩, .string ⟨#[60, 61]⟩, .string ⟨#[62]⟩, .string ⟨#[62, 61]⟩] 9)) := (Below.refl _ _).alloc (Nat.le_refl _) _; have hz := hb.size; have hbn := block_new w (.cells #[.string ⟨#[60]⟩, .string ⟨#[60, 61]⟩, .string ⟨#[62]⟩, .string ⟨#[62, 61]⟩] 9) rfl; have hsg : SG (w.alloc (.cells #[.string ⟨#[60]⟩, .string ⟨#[60, 61]⟩, .string ⟨#[62]⟩, .string ⟨#[62, 61]⟩] 9)) w.heap.size [⟨#[60]⟩, ⟨#[60, 61]⟩, ⟨#[62]⟩, ⟨#[62, 61]⟩] := fun j hj => by
  match j, hj with
  | 0, _ => exact block_cell (i := 0) hbn rfl
  | 1, _ => exact block_cell (i := 1) hbn rfl
  | 2, _ => exact block_cell (i := 2) hbn rfl
  | 3, _ => exact block_cell (i := 3) hbn rfl
 have hlt := h.lt; have HC := Lib.hid (once_any (c := 4) (f := 165) (lb := #[.pointer (some ⟨pb, 0, none⟩)]) (cap := #[]) enters_upd (by simpa using hA) (by decide) (by decide) (by omega) (h.below hb h.lt) hsg); obtain ⟨R, hR⟩ : ∃ R, onceP A [⟨#[60]⟩, ⟨#[60, 61]⟩, ⟨#[62]⟩, ⟨#[62, 61]⟩] ts = R := ⟨_, rfl⟩; rw [hR] at HC; rw [hR]; clear hR hbn hsg h; go_enter Tryz.func128, Tryz.ntmps128
 go_wp2_with fail; cases R with
 | error er =>
   refine HC.out.mono ?_; rintro e w2 ⟨rfl, hb2⟩; exact ⟨rfl, rfl, (But.of hb).andThen hb2 hz⟩
 | ok r =>
   obtain ⟨a, vs⟩ := r; refine HC.out.mono ?_; rintro e w2 ⟨⟨x, rfl, ht2⟩, hp2, hb2⟩; unfold ptr
   go_wp2_with fail; go_ret; exact ⟨⟨x, rfl, ht2.mono (fun k hk _ => Nat.le_trans hz hk)⟩, hp2, (But.of hb).andThen hb2 hz⟩
theorem eq_any {A : List Tok → Res T} (hA : Reads pb g n 128 #[.pointer (some ⟨pb, 0, none⟩)] A) : Reads pb g n 108 #[.pointer (some ⟨pb, 0, none⟩)] (onceP A [⟨#[61, 61]⟩, ⟨#[33, 61]⟩]) := by
 intro w ts h; have hmf : ∀ (fn : Fn) (first cap : Array Value) (w : World), (Instr.makeFunc fn first cap).run Tryz.prog w = .ok (.func fn first cap) w := fun _ _ _ _ => rfl
 have hb : Below w.heap.size w (w.alloc (.cells #[.string ⟨#[61, 61]⟩, .string ⟨#[33, 61]⟩] 9)) := (Below.refl _ _).alloc (Nat.le_refl _) _; have hz := hb.size; have hbn := block_new w (.cells #[.string ⟨#[61, 61]⟩, .string ⟨#[33, 61]⟩] 9) rfl; have hsg : SG (w.alloc (.cells #[.string ⟨#[61, 61]⟩, .string ⟨#[33, 61]⟩] 9)) w.heap.size [⟨#[61, 61]⟩, ⟨#[33, 61]⟩] := fun j hj => by
  match j, hj with
  | 0, _ => exact block_cell (i := 0) hbn rfl
  | 1, _ => exact block_cell (i := 1) hbn rfl
 have hlt := h.lt; have HC := Lib.hid (once_any (c := 2) (f := 128) (lb := #[.pointer (some ⟨pb, 0, none⟩)]) (cap := #[]) enters_cmp (by simpa using hA) (by decide) (by decide) (by omega) (h.below hb h.lt) hsg); obtain ⟨R, hR⟩ : ∃ R, onceP A [⟨#[61, 61]⟩, ⟨#[33, 61]⟩] ts = R := ⟨_, rfl⟩; rw [hR] at HC; rw [hR]; clear hR hbn hsg h; go_enter Tryz.func108, Tryz.ntmps108
 go_wp2_with fail; cases R with
 | error er =>
   refine HC.out.mono ?_; rintro e w2 ⟨rfl, hb2⟩; exact ⟨rfl, rfl, (But.of hb).andThen hb2 hz⟩
 | ok r =>
   obtain ⟨a, vs⟩ := r; refine HC.out.mono ?_; rintro e w2 ⟨⟨x, rfl, ht2⟩, hp2, hb2⟩; unfold ptr
   go_wp2_with fail; go_ret; exact ⟨⟨x, rfl, ht2.mono (fun k hk _ => Nat.le_trans hz hk)⟩, hp2, (But.of hb).andThen hb2 hz⟩
theorem and_any {A : List Tok → Res T} (hA : Reads pb g n 108 #[.pointer (some ⟨pb, 0, none⟩)] A) (hsA : Sh A) : Reads pb g n 84 #[.pointer (some ⟨pb, 0, none⟩)] (leftP A [⟨#[38, 38]⟩]) := by
 intro w ts h; have hmf : ∀ (fn : Fn) (first cap : Array Value) (w : World), (Instr.makeFunc fn first cap).run Tryz.prog w = .ok (.func fn first cap) w := fun _ _ _ _ => rfl
 have hb : Below w.heap.size w (w.alloc (.cells #[.string ⟨#[38, 38]⟩] 9)) := (Below.refl _ _).alloc (Nat.le_refl _) _; have hz := hb.size; have hbn := block_new w (.cells #[.string ⟨#[38, 38]⟩] 9) rfl; have hsg : SG (w.alloc (.cells #[.string ⟨#[38, 38]⟩] 9)) w.heap.size [⟨#[38, 38]⟩] := fun j hj => by
  match j, hj with
  | 0, _ => exact block_cell (i := 0) hbn rfl
 have hlt := h.lt; have HC := Lib.hid (left_any (c := 1) (f := 108) (lb := #[.pointer (some ⟨pb, 0, none⟩)]) (cap := #[]) enters_eq (by simpa using hA) hsA (by decide) (by decide) (by omega) (h.below hb h.lt) hsg); obtain ⟨R, hR⟩ : ∃ R, leftP A [⟨#[38, 38]⟩] ts = R := ⟨_, rfl⟩; rw [hR] at HC; rw [hR]; clear hR hbn hsg h; go_enter Tryz.func84, Tryz.ntmps84
 go_wp2_with fail; cases R with
 | error er =>
   refine HC.out.mono ?_; rintro e w2 ⟨rfl, hb2⟩; exact ⟨rfl, rfl, (But.of hb).andThen hb2 hz⟩
 | ok r =>
   obtain ⟨a, vs⟩ := r; refine HC.out.mono ?_; rintro e w2 ⟨⟨x, rfl, ht2⟩, hp2, hb2⟩; unfold ptr
   go_wp2_with fail; go_ret; exact ⟨⟨x, rfl, ht2.mono (fun k hk _ => Nat.le_trans hz hk)⟩, hp2, (But.of hb).andThen hb2 hz⟩
theorem or_any {A : List Tok → Res T} (hA : Reads pb g n 84 #[.pointer (some ⟨pb, 0, none⟩)] A) (hsA : Sh A) : Reads pb g n 63 #[.pointer (some ⟨pb, 0, none⟩)] (leftP A [⟨#[124, 124]⟩]) := by
 intro w ts h; have hmf : ∀ (fn : Fn) (first cap : Array Value) (w : World), (Instr.makeFunc fn first cap).run Tryz.prog w = .ok (.func fn first cap) w := fun _ _ _ _ => rfl
 have hb : Below w.heap.size w (w.alloc (.cells #[.string ⟨#[124, 124]⟩] 9)) := (Below.refl _ _).alloc (Nat.le_refl _) _; have hz := hb.size; have hbn := block_new w (.cells #[.string ⟨#[124, 124]⟩] 9) rfl; have hsg : SG (w.alloc (.cells #[.string ⟨#[124, 124]⟩] 9)) w.heap.size [⟨#[124, 124]⟩] := fun j hj => by
  match j, hj with
  | 0, _ => exact block_cell (i := 0) hbn rfl
 have hlt := h.lt; have HC := Lib.hid (left_any (c := 1) (f := 84) (lb := #[.pointer (some ⟨pb, 0, none⟩)]) (cap := #[]) enters_and (by simpa using hA) hsA (by decide) (by decide) (by omega) (h.below hb h.lt) hsg); obtain ⟨R, hR⟩ : ∃ R, leftP A [⟨#[124, 124]⟩] ts = R := ⟨_, rfl⟩; rw [hR] at HC; rw [hR]; clear hR hbn hsg h; go_enter Tryz.func63, Tryz.ntmps63
 go_wp2_with fail; cases R with
 | error er =>
   refine HC.out.mono ?_; rintro e w2 ⟨rfl, hb2⟩; exact ⟨rfl, rfl, (But.of hb).andThen hb2 hz⟩
 | ok r =>
   obtain ⟨a, vs⟩ := r; refine HC.out.mono ?_; rintro e w2 ⟨⟨x, rfl, ht2⟩, hp2, hb2⟩; unfold ptr
   go_wp2_with fail; go_ret; exact ⟨⟨x, rfl, ht2.mono (fun k hk _ => Nat.le_trans hz hk)⟩, hp2, (But.of hb).andThen hb2 hz⟩
end
end Go.Proofs.YtkoghgnjjfnamaaGreatDoor
