/- Gg: what is used of them. -/
import Derived.Test.YtkoghgnjjfnamaaGreatDoorGf
import Derived.LaidEqlPtr
import Derived.MapKept
import Derived.ChangeMaps
set_option linter.unusedSimpArgs false
namespace Go.Proofs.YtkoghgnjjfnamaaGreatDoor
set_option maxRecDepth 100000
set_option maxHeartbeats 8000000
open Go.RowKit Go.Shelf
structure N8 (lo : Nat) (w : World) (x8 kb xa : Nat) (s : ByteArray) (place : Nat) (a : T) : Prop where
 node : w.heap[x8]? = some (.cells #[.int .i64 8, .string s, .int .i64 0, .float .f64 0, .slice none 0 0, .slice none 0 0, .int .i64 (place : Int), .slice (some ⟨kb, 0, none⟩) 1 1] 85 (0, 0))
 row : w.heap[kb]? = some (.cells #[.pointer (some ⟨xa, 0, none⟩)] 51 (0, 0))
 kid : TR (fun k => lo ≤ k ∧ k < kb) w xa a
 lo1 : lo ≤ kb
 lt : kb < x8
section
variable {lo x8 kb xa : Nat} {w w' : World} {s : ByteArray} {place : Nat} {a b : T}
theorem N8.tr (h : N8 lo w x8 kb xa s place a) : TR (fun k => lo ≤ k) w x8 (.mk 8 s 0 0 [] place [a]) :=
 TR.one h.node (by have := h.lo1; have := h.lt; omega) h.row h.lo1 (h.kid.mono fun k hk _ => hk.1)
theorem N8.keep (h : N8 lo w x8 kb xa s place a) (hk : Keeps (fun k => lo ≤ k) w w') : N8 lo w' x8 kb xa s place a :=
 ⟨(hk _ (by have := h.lo1; have := h.lt; omega) (block_lt h.node)).trans h.node, (hk _ h.lo1 (block_lt h.row)).trans h.row, h.kid.keep fun k h1 h2 => hk k h1.1 h2, h.lo1, h.lt⟩
theorem n8_new (hx : TR (fun k => lo ≤ k) w xa a) (hl : lo ≤ w.heap.size) :
 N8 lo ((w.alloc (.cells #[.pointer (some ⟨xa, 0, none⟩)] 51)).alloc (.cells #[.int .i64 8, .string s, .int .i64 0, .float .f64 0, .slice none 0 0, .slice none 0 0, .int .i64 (place : Int), .slice (some ⟨w.heap.size, 0, none⟩) 1 1] 85)) (w.heap.size + 1) w.heap.size xa s place a :=
 ⟨block_new _ _ (by simp), block_alloc (block_new _ _ rfl) _, (hx.mono fun k h1 h2 => ⟨h1, h2⟩).keep (Below.keeps (below_two _ _ _)), hl, Nat.lt_succ_self _⟩
theorem n8_old (hx : TR (fun k => lo ≤ k ∧ k < kb) w xa a) (hk : w.heap[kb]? = some (.cells #[.pointer (some ⟨xa, 0, none⟩)] 51 (0, 0))) (hl : lo ≤ kb) (hlt : kb < w.heap.size) :
 N8 lo (w.alloc (.cells #[.int .i64 8, .string s, .int .i64 0, .float .f64 0, .slice none 0 0, .slice none 0 0, .int .i64 (place : Int), .slice (some ⟨kb, 0, none⟩) 1 1] 85)) w.heap.size kb xa s place a :=
 ⟨block_new _ _ rfl, block_alloc hk _, hx.keep (Below.keeps ((Below.refl _ _).alloc (Nat.le_refl _) _)), hl, hlt⟩
theorem N8.own (h : N8 lo w x8 kb xa s place a) : w.ownsRow lo 51 1 (.slice (some ⟨kb, 0, none⟩) 1 1) 1 [.pointer (some ⟨xa, 0, none⟩)] :=
 ⟨rfl, Or.inr ⟨kb, 1, _, rfl, h.lo1, h.row, Nat.le_refl _, by decide, rfl, rfl⟩⟩
theorem N8.app {y : Nat} {v : Value} (h : N8 lo w x8 kb xa s place a) (hy : TR (fun k => x8 < k) w y b) (hown : w'.ownsRow lo 51 1 v 2 ([.pointer (some ⟨xa, 0, none⟩)] ++ [.pointer (some ⟨y, 0, none⟩)])) (hg : w.grownBy w' (some kb)) (hv : v.ownBlock = some kb ∨ v.ownBlock = some w.heap.size) :
 TR (fun k => lo ≤ k) (w'.setCell ⟨x8, 7, none⟩ v) x8 (.mk 8 s 0 0 [] place [a, b]) := by
 have h1 := h.lo1; have h2 := h.lt; have h3 := block_lt h.node; have hn := hg.block x8 h3 (by simp; omega); have hk1 : Keeps (fun k => k ≠ kb ∧ k ≠ x8) w (w'.setCell ⟨x8, 7, none⟩ v) := fun k hk hl => (Below.heap_setCell _ _ _ _ hk.2).trans (hg.block k hl (by simp; exact hk.1))
 refine .mk (.slice none 0 0) v [xa, y] (show lo ≤ x8 by omega) (block_set (hn.trans h.node) v) (Or.inl ⟨rfl, rfl⟩) ?_ rfl ?_
 · have hr := RowR.own (p := fun k => lo ≤ k ∧ k ≠ x8) hown rfl (fun g hb e => ⟨hb, by
    rcases hv with hv | hv <;> (rw [hv] at e; cases e; omega)⟩)
   exact (hr.keep (fun k hk _ => Below.heap_setCell _ _ _ _ hk.2)).mono fun k hk _ => hk.1
 · intro i c u hi hu
   match i, hi, hu with
   | 0, hi, hu =>
     simp at hi hu; subst hi; subst hu; exact ((h.kid.mono (q := fun k => (lo ≤ k) ∧ k ≠ kb ∧ k ≠ x8) fun k hk _ => ⟨hk.1, by omega, by omega⟩).keep fun k hk hl => hk1 k hk.2 hl).mono fun k hk _ => hk.1
   | 1, hi, hu =>
     simp at hi hu; subst hi; subst hu; exact ((hy.mono (q := fun k => (lo ≤ k) ∧ k ≠ kb ∧ k ≠ x8) fun k hk _ => ⟨by omega, by omega, by omega⟩).keep fun k hk hl => hk1 k hk.2 hl).mono fun k hk _ => hk.1
   | i + 2, hi, _ => simp at hi
end
section
variable {w w' : World} {pb g n : Nat} {t : Tok} {us ts : List Tok} {L : PF}
theorem selL_stop {k : Nat} {a : T} (h : isP ⟨#[46]⟩ ts = false) : selL L k a ts = .ok (a, ts) := by
 cases k with
 | zero => rfl
 | succ k => unfold selL; rw [h]; rfl
def selN (L : PF) (k : Nat) (a : T) (place : Nat) (r : Res ByteArray) : Res T := match r with
 | .error e => .error e
 | .ok (n, us) => if isP ⟨#[111, 114]⟩ us then (match L.sel us.tail with
  | .error e => .error e
  | .ok (b, us) => selL L k (.mk 8 n 0 0 [] place [a, b]) us)
   else selL L k (.mk 8 n 0 0 [] place [a]) us
theorem selL_go {k : Nat} {a : T} (h : isP ⟨#[46]⟩ (t :: us) = true) (hk : (t :: us).length ≤ k) : selL L k a (t :: us) = selN L (k - 1) a t.place (attrP us) := by
 cases k with
 | zero => simp at hk
 | succ k =>
   conv => lhs; unfold selL
   rw [h]; rfl
theorem selN_no {k place : Nat} {a : T} {n : ByteArray} {us : List Tok} (h : isP ⟨#[111, 114]⟩ us = false) : selN L k a place (.ok (n, us)) = selL L k (.mk 8 n 0 0 [] place [a]) us := by
 show (if isP _ us = true then _ else _) = _; rw [h]; rfl
theorem selN_yes {k place : Nat} {a : T} {n : ByteArray} {t : Tok} {us : List Tok} (h : isP ⟨#[111, 114]⟩ (t :: us) = true) :
 selN L k a place (.ok (n, t :: us)) = (match L.sel us with | .error e => .error e | .ok (b, us) => selL L k (.mk 8 n 0 0 [] place [a, b]) us) := by
 show (if isP _ (t :: us) = true then _ else _) = _; rw [h]; rfl
theorem sel_any (hA : Reads pb g n 241 #[.pointer (some ⟨pb, 0, none⟩)] (atomP L)) (hW : Reads pb g n 34 #[.pointer (some ⟨pb, 0, none⟩), .func (.func 239) #[.pointer (some ⟨pb, 0, none⟩)] #[]] L.sel) (hsW : Sh L.sel) : Reads pb g n 239 #[.pointer (some ⟨pb, 0, none⟩)] (selP L) := by
 intro w ts h; have hf0 := store_f64; have hmf : ∀ (fn : Fn) (first cap : Array Value) (w : World), (Instr.makeFunc fn first cap).run Tryz.prog w = .ok (.func fn first cap) w := fun _ _ _ _ => rfl
 have HW := Lib.hid hW; have HSW := Lib.hid hsW; have HC := Lib.hid (hA w ts h); have hpl := h.lt; obtain ⟨R0, hR0⟩ : ∃ R, atomP L ts = R := ⟨_, rfl⟩; rw [hR0] at HC; obtain ⟨R, hR⟩ : ∃ R, selP L ts = R := ⟨_, rfl⟩; rw [hR]; have HR0 := Lib.hid hR0; have HRA := Lib.hid hR; clear hA h hR0 hR hW hsW; cases R0 with
 | error x =>
   have hR : R = .error x := by rw [← HRA.out]; unfold selP; rw [HR0.out]
   subst hR; go_enter Tryz.func239, Tryz.ntmps239
   go_wp2_with fail; refine HC.out.mono ?_; rintro e w1 ⟨rfl, hb1⟩; exact ⟨rfl, rfl, hb1⟩
 | ok r =>
   obtain ⟨a, us⟩ := r; have HR := Lib.hid (show selL L us.length a us = R by rw [← HRA.out]; unfold selP; rw [HR0.out]); clear HRA HR0; go_enter Tryz.func239, Tryz.ntmps239
   go_wp2_with fail; refine HC.out.mono ?_; rintro e w1 ⟨⟨x, rfl, htr⟩, hp1, hb1⟩; clear HC; unfold ptr
   go_wp2_with fail; go_loopw [3] (fun v wr => ∃ (x k : Nat) (a : T) (us : List Tok), v = .pointer (some ⟨x, 0, none⟩) ∧ TR (fun k => w.heap.size ≤ k) wr x a ∧ PS wr pb g n us ∧ But pb w.heap.size w wr ∧ us.length ≤ k ∧ Hid (selL L k a us = R)) (fun _ wr => lenP wr pb)
   case atStart => exact ⟨x, _, a, us, rfl, htr, hp1, hb1, Nat.le_refl _, HR.out⟩
   case round =>
    clear hb1 hp1 htr HR; obtain ⟨x, k, a, us, rfl, htr, hp1, hb1, hk, HR⟩ := hrel; have hz1 := hb1.size; have HANY := Lib.hid (is_any ⟨#[46]⟩ hp1); have HP1 := Lib.hid hp1; have HTR := Lib.hid htr; have HB1 := Lib.hid hb1; have HK := Lib.hid hk; have HLEN := Lib.hid hp1.lenP; have hpl1 := hp1.lt; clear hp1 htr hb1 hk; cases hany : isP ⟨#[46]⟩ us with
    | false =>
      rw [hany] at HANY; have hR : R = .ok (a, us) := by rw [← HR.out, selL_stop hany]
      subst hR; clear hany
      go_wp2_with fail; refine HANY.out.mono ?_; rintro e w2 ⟨rfl, hb2⟩
      go_wp2_with fail; go_ret; exact ⟨⟨x, rfl, HTR.out.keep (Below.keeps hb2)⟩, HP1.out.below hb2 HP1.out.lt, HB1.out.then hb2 hz1⟩
    | true =>
      rw [hany] at HANY; obtain ⟨t, us', rfl, hk5⟩ := isP_cons hany; have hR := selL_go (L := L) (a := a) hany HK.out; rw [HR.out] at hR; have HRR := Lib.hid hR; have HK5 := Lib.hid (isT_kind hk5); clear hany hk5 HR hR
      go_wp2_with fail; refine HANY.out.mono ?_; rintro e w2 ⟨rfl, hb2⟩; have hz2 := hb2.size
      go_wp2_with fail; refine (take_any (HP1.out.below hb2 HP1.out.lt) HK5.out).mono ?_; rintro e w3 ⟨rfl, hp3, hb3⟩; have hz3 := hb3.size; have HAL := Lib.hid (show ∀ s v, attrP us' = .ok (s, v) → v.length < us'.length from fun s v e => (attrP_ok hp3.good e).1)
      go_wp2_with fail; go_cut [3] from 7 to 36 (fun v3 wx => ∃ (x8 kb xa : Nat) (s5 : ByteArray) (v5 : List Tok), v3 = .pointer (some ⟨x8, 0, none⟩) ∧ Hid (attrP us' = .ok (s5, v5)) ∧ N8 w.heap.size wx x8 kb xa s5 t.place a ∧ PS wx pb g n v5 ∧ But pb w.heap.size w wx)
      case first =>
       have hz4 : w3.heap.size < (w3.alloc (Obj.cells #[.int .i64 t.kind, .string t.text, .int .i64 t.num, .float .f64 t.bits, .int .i64 t.place] 54)).heap.size := by simp
       have h4 := block_new w3 (Obj.cells #[.int .i64 t.kind, .string t.text, .int .i64 t.num, .float .f64 t.bits, .int .i64 t.place] 54) rfl; have hp4 := hp3.below (Below.alloc (Below.refl _ _) (Nat.le_refl _) (Obj.cells #[.int .i64 t.kind, .string t.text, .int .i64 t.num, .float .f64 t.bits, .int .i64 t.place] 54)) hp3.lt; have hb4 := ((HB1.out.then hb2 hz1).andThen hb3 (by omega)).alloc (by omega) (Obj.cells #[.int .i64 t.kind, .string t.text, .int .i64 t.num, .float .f64 t.bits, .int .i64 t.place] 54); have ht4 := HTR.out.keep (((But.of hb2).andThen hb3 hz2).alloc (by omega) (Obj.cells #[.int .i64 t.kind, .string t.text, .int .i64 t.num, .float .f64 t.bits, .int .i64 t.place] 54) |>.keeps (p := fun k => w.heap.size ≤ k) (Nat.le_refl _) (fun k hk => by omega)); have hzz : w3.heap.size ≠ pb := by have := hp3.lt; omega
       obtain ⟨z, hz⟩ : ∃ z, w3.heap.size = z := ⟨_, rfl⟩; rw [hz] at hz4 h4 hzz; rw [hz]; generalize (w3.alloc (Obj.cells #[.int .i64 t.kind, .string t.text, .int .i64 t.num, .float .f64 t.bits, .int .i64 t.place] 54)) = w4 at *; have keepS : ∀ w', But pb (z + 1) w4 w' → (w'.cell? ⟨z, 0, none⟩ = some (.int .i64 t.kind) ∧ w'.cell? ⟨z, 1, none⟩ = some (.string t.text) ∧ w'.cell? ⟨z, 2, none⟩ = some (.int .i64 t.num) ∧ w'.cell? ⟨z, 3, none⟩ = some (.float .f64 t.bits) ∧ w'.cell? ⟨z, 4, none⟩ = some (.int .i64 t.place)) := fun w' hb => by
        have h5 := hb.get (Nat.lt_succ_self z) hzz h4; exact ⟨block_cell h5 rfl, block_cell h5 rfl, block_cell h5 rfl, block_cell h5 rfl, block_cell h5 rfl⟩
       have HKS := Lib.hid keepS; have HB4 := Lib.hid hb4; have HT4 := Lib.hid ht4; have HP4 := Lib.hid hp4.drew; clear keepS hb4 ht4 hp4 hp3 hb3 hb2 h4; refine wp_region_held_drew (S := fun w' => w'.cell? ⟨z, 0, none⟩ = some (.int .i64 t.kind) ∧ w'.cell? ⟨z, 1, none⟩ = some (.string t.text) ∧ w'.cell? ⟨z, 2, none⟩ = some (.int .i64 t.num) ∧ w'.cell? ⟨z, 3, none⟩ = some (.float .f64 t.bits) ∧ w'.cell? ⟨z, 4, none⟩ = some (.int .i64 t.place)) (by kernel_rfl) (HKS.out _ (But.refl _ _ _).drew) (fun hHeld => ?_); refine wpAnyH_take (i := 0) (v := ?_) rfl (by kernel_rfl) (by kernel_rfl) (by kernel_rfl) (fun _ _ _ h => h) (Or.inl ⟨by rfl, (by intro w hSw; (try dsimp only at hSw); go_simp; (with_reducible rfl))⟩) (by assumption) ?_
       try simp only [Act.put, List.setIfInBounds_toArray, List.set_cons_succ, List.set_cons_zero]
       refine wpAnyH_take (i := 2) (v := ?_) rfl (by kernel_rfl) (by kernel_rfl) (by kernel_rfl) (fun _ _ _ h => h) (Or.inl ⟨by rfl, (by intro w hSw; (try dsimp only at hSw); go_simp; (with_reducible rfl))⟩) (by assumption) ?_
       try simp only [Act.put, List.setIfInBounds_toArray, List.set_cons_succ, List.set_cons_zero]
       refine wpAnyH_take (i := 3) (v := ?_) rfl (by kernel_rfl) (by kernel_rfl) (by kernel_rfl) (fun _ _ _ h => h) (Or.inl ⟨by rfl, (by intro w hSw; (try dsimp only at hSw); go_simp; (with_reducible rfl))⟩) (by assumption) ?_
       try simp only [Act.put, List.setIfInBounds_toArray, List.set_cons_succ, List.set_cons_zero]
       refine wpAnyH_take (i := 5) (v := ?_) rfl (by kernel_rfl) (by kernel_rfl) (by kernel_rfl) (fun _ _ _ h => h) (Or.inl ⟨by rfl, (by intro w hSw; (try dsimp only at hSw); go_simp; (with_reducible rfl))⟩) (by assumption) ?_
       try simp only [Act.put, List.setIfInBounds_toArray, List.set_cons_succ, List.set_cons_zero]
       refine wpAnyH_ready (rs := [1, 6]) (by kernel_rfl) (by simp) ?_; refine AllReadyH.cons (o := _) rfl (fun K hK => ?_) (AllReadyH.cons (o := _) rfl (fun K hK => ?_) AllReadyH.nil)
       · go_simp
         refine (attr_any HP4.out).mono ?_; intro e w5 h5; cases hF2 : attrP us' with
         | error er =>
           rw [hF2] at h5; obtain ⟨rfl, hb5⟩ := h5; have hbA := HB4.out.drew.andThen hb5 (by simp; omega); have hRx := HRR.out; rw [hF2] at hRx; subst hRx; exact ⟨rfl, rfl, hbA⟩
         | ok r2 =>
           obtain ⟨s5, v5⟩ := r2; rw [hF2] at h5; obtain ⟨rfl, hp5, hb5⟩ := h5; have HF2 := Lib.hid hF2; have HK5 : Hid (But pb (z + 1) w4 w5) := (But.refl pb (z + 1) w4).drew.andThen hb5 (by simp; omega); have HX5 := Lib.hid (HT4.out.keep (((But.refl pb w4.heap.size w4).drew.andThen hb5 (by simp)).keeps (p := fun k => w.heap.size ≤ k) (Nat.le_refl _) (fun k hk => by omega))); have hbA := HB4.out.drew.andThen hb5 (by simp; omega); have hzA := hbA.size; have HP5 := Lib.hid hp5; have HBA := Lib.hid hbA; have hzB : z < w5.heap.size := by have := hb5.size; simp at this; omega
           clear hF2 hp5 hbA hb5; refine hK.out _ _ (HKS.out _ HK5.out) (fun hHeld => ?_); clear hK K
           try simp only [Act.put, List.setIfInBounds_toArray, List.set_cons_succ, List.set_cons_zero]
           refine wpAnyH_take (i := 4) (v := ?_) rfl (by kernel_rfl) (by kernel_rfl) (by kernel_rfl) (fun _ _ _ h => h) (Or.inl ⟨by rfl, (by intro w hSw; (try dsimp only at hSw); go_simp; (with_reducible rfl))⟩) (by assumption) ?_
           try simp only [Act.put, List.setIfInBounds_toArray, List.set_cons_succ, List.set_cons_zero]
           refine wpAnyH_ready (rs := [6]) (by kernel_rfl) (by simp) ?_; refine AllReadyH.cons (o := _) rfl (fun K hK => ?_) AllReadyH.nil; go_simp
           refine hK.out _ _ (HKS.out _ (HK5.out.alloc (by omega) _)) (fun hHeld => ?_); clear hK K
           try simp only [Act.put, List.setIfInBounds_toArray, List.set_cons_succ, List.set_cons_zero]
           refine wpAnyH_take (i := 7) (v := ?_) rfl (by kernel_rfl) (by kernel_rfl) (by kernel_rfl) (fun _ _ _ h => h) (Or.inl ⟨by rfl, (by intro w hSw; (try dsimp only at hSw); go_simp; (with_reducible rfl))⟩) (by assumption) ?_
           try simp only [Act.put, List.setIfInBounds_toArray, List.set_cons_succ, List.set_cons_zero]
           refine wpAnyH_ready (rs := [8]) (by kernel_rfl) (by simp) ?_; refine AllReadyH.cons (o := _) rfl (fun K hK => ?_) AllReadyH.nil; go_simp
           refine hK.out _ _ (HKS.out _ ((HK5.out.alloc (by omega) _).alloc (by simp; omega) _)) (fun hHeld => ?_); clear hK K
           try simp only [Act.put, List.setIfInBounds_toArray, List.set_cons_succ, List.set_cons_zero]
           refine wpAnyH_take (i := 9) (v := ?_) rfl (by kernel_rfl) (by kernel_rfl) (by kernel_rfl) (fun _ _ _ h => h) (Or.inl ⟨by rfl, (by intro w hSw; (try dsimp only at hSw); go_simp; (with_reducible rfl))⟩) (by assumption) ?_
           try simp only [Act.put, List.setIfInBounds_toArray, List.set_cons_succ, List.set_cons_zero]
           refine wpAnyH_done (by kernel_rfl) ?_ _; have HN := Lib.hid (n8_new (s := s5) (place := t.place) HX5.out (by omega)); have HP8 := Lib.hid (HP5.out.below (below_two w5 (.cells #[.pointer (some ⟨x, 0, none⟩)] 51) (.cells #[.int .i64 8, .string s5, .int .i64 0, .float .f64 0, .slice none 0 0, .slice none 0 0, .int .i64 t.place, .slice (some ⟨w5.heap.size, 0, none⟩) 1 1] 85)) HP5.out.lt); have HB8 := Lib.hid (HBA.out.then (below_two w5 (.cells #[.pointer (some ⟨x, 0, none⟩)] 51) (.cells #[.int .i64 8, .string s5, .int .i64 0, .float .f64 0, .slice none 0 0, .slice none 0 0, .int .i64 t.place, .slice (some ⟨w5.heap.size, 0, none⟩) 1 1] 85)) (by omega))
           try simp only [List.getElem_toArray, List.getElem_cons_succ, List.getElem_cons_zero, Act.put, List.setIfInBounds_toArray]
           repeat (first | simp only [List.set_cons_succ] | simp only [List.set_cons_zero])
           go_wp2_with fail; subst hz; go_meet; exact ⟨(w5.heap.size + 1), _, x, s5, v5, rfl, HF2.out, HN.out, HP8.out, HB8.out⟩
       · go_simp
         refine hK.out _ _ (HKS.out _ ((But.refl pb (z + 1) w4).drew.alloc (by simp; omega) _)) (fun hHeld => ?_); clear hK K
         try simp only [Act.put, List.setIfInBounds_toArray, List.set_cons_succ, List.set_cons_zero]
         have HT6 := Lib.hid (HT4.out.keep (Below.keeps (w' := (w4.alloc (.cells #[.pointer (some ⟨x, 0, none⟩)] 51)).drew) (by (repeat' first | (with_reducible first | exact Below.refl _ _ | assumption | refine below_drewN ?_ _ | refine Below.drew ?_ | refine Below.alloc ?_ ?_ _ | refine Below.setCell ?_ ?_ _) | omega | (simp; done) | (simp; omega))))); have HA6 := Lib.hid (show ((w4.alloc (.cells #[.pointer (some ⟨x, 0, none⟩)] 51)).drew).heap[w4.heap.size]? = _ from block_new w4 _ rfl); have HP6 := Lib.hid ((HP4.out).below (w' := (w4.alloc (.cells #[.pointer (some ⟨x, 0, none⟩)] 51)).drew) (B := w4.heap.size) (Below.alloc (Below.refl _ _) (by simp) _) HP4.out.lt); have HB6 : Hid (But pb w.heap.size w (w4.alloc (.cells #[.pointer (some ⟨x, 0, none⟩)] 51)).drew) := (HB4.out.alloc (by omega) _).drew; have HKL : Hid (But pb w4.heap.size w4 (w4.alloc (.cells #[.pointer (some ⟨x, 0, none⟩)] 51)).drew) := (But.refl pb w4.heap.size w4).drew.alloc (by simp) _; have hz6 : w4.heap.size < (w4.alloc (.cells #[.pointer (some ⟨x, 0, none⟩)] 51)).drew.heap.size := by simp
         have HKK : Hid (But pb (z + 1) w4 (w4.alloc (.cells #[.pointer (some ⟨x, 0, none⟩)] 51)).drew) := (But.refl pb (z + 1) w4).drew.alloc (by simp; omega) _; refine wpAnyH_ready (rs := [1]) (by kernel_rfl) (by simp) ?_; refine AllReadyH.cons (o := _) rfl (fun K hK => ?_) AllReadyH.nil; go_simp
         generalize (w4.alloc (.cells #[.pointer (some ⟨x, 0, none⟩)] 51)).drew = w6 at *; refine (attr_any HP6.out).mono ?_; intro e w5 h5; cases hF2 : attrP us' with
         | error er =>
           rw [hF2] at h5; obtain ⟨rfl, hb5⟩ := h5; have hbA := HB6.out.andThen hb5 (by omega); have hRx := HRR.out; rw [hF2] at hRx; subst hRx; exact ⟨rfl, rfl, hbA⟩
         | ok r2 =>
           obtain ⟨s5, v5⟩ := r2; rw [hF2] at h5; obtain ⟨rfl, hp5, hb5⟩ := h5; have HF2 := Lib.hid hF2; have HK5 : Hid (But pb (z + 1) w4 w5) := HKK.out.andThen hb5 (by omega); have HX5 := Lib.hid (HT6.out.keep (hb5.keeps (p := fun k => w.heap.size ≤ k) (Nat.le_refl _) (fun k hk => by omega))); have HTA5 := Lib.hid ((HT4.out.mono (q := fun k => w.heap.size ≤ k ∧ k < w4.heap.size) (fun k h1 h2 => ⟨h1, h2⟩)).keep ((HKL.out.andThen hb5 (by omega)).keeps (Nat.le_refl _) (fun k hk => by omega))); have HA5 := Lib.hid (hb5.get (by omega) (by have := HP4.out.lt; simp at this; omega) HA6.out); have hbA := HB6.out.andThen hb5 (by omega); have hzA := hbA.size; have hzB := hb5.size; have HP5 := Lib.hid hp5; have HBA := Lib.hid hbA; clear hF2 hp5 hbA hb5; refine hK.out _ _ (HKS.out _ HK5.out) (fun hHeld => ?_); clear hK K
           try simp only [Act.put, List.setIfInBounds_toArray, List.set_cons_succ, List.set_cons_zero]
           refine wpAnyH_take (i := 4) (v := ?_) rfl (by kernel_rfl) (by kernel_rfl) (by kernel_rfl) (fun _ _ _ h => h) (Or.inl ⟨by rfl, (by intro w hSw; (try dsimp only at hSw); go_simp; (with_reducible rfl))⟩) (by assumption) ?_
           try simp only [Act.put, List.setIfInBounds_toArray, List.set_cons_succ, List.set_cons_zero]
           refine wpAnyH_take (i := 7) (v := ?_) rfl (by kernel_rfl) (by kernel_rfl) (by kernel_rfl) (fun _ _ _ h => h) (Or.inl ⟨by rfl, (by intro w hSw; (try dsimp only at hSw); go_simp; (with_reducible rfl))⟩) (by assumption) ?_
           try simp only [Act.put, List.setIfInBounds_toArray, List.set_cons_succ, List.set_cons_zero]
           refine wpAnyH_ready (rs := [8]) (by kernel_rfl) (by simp) ?_; refine AllReadyH.cons (o := _) rfl (fun K hK => ?_) AllReadyH.nil; go_simp
           refine hK.out _ _ (HKS.out _ (HK5.out.alloc (by omega) _)) (fun hHeld => ?_); clear hK K
           try simp only [Act.put, List.setIfInBounds_toArray, List.set_cons_succ, List.set_cons_zero]
           refine wpAnyH_take (i := 9) (v := ?_) rfl (by kernel_rfl) (by kernel_rfl) (by kernel_rfl) (fun _ _ _ h => h) (Or.inl ⟨by rfl, (by intro w hSw; (try dsimp only at hSw); go_simp; (with_reducible rfl))⟩) (by assumption) ?_
           try simp only [Act.put, List.setIfInBounds_toArray, List.set_cons_succ, List.set_cons_zero]
           refine wpAnyH_done (by kernel_rfl) ?_ _; have HN := Lib.hid (n8_old (s := s5) (place := t.place) HTA5.out HA5.out (by omega) (by omega)); have HP8 := Lib.hid (HP5.out.below (Below.alloc (Below.refl _ _) (Nat.le_refl _) (.cells #[.int .i64 8, .string s5, .int .i64 0, .float .f64 0, .slice none 0 0, .slice none 0 0, .int .i64 t.place, .slice (some ⟨w4.heap.size, 0, none⟩) 1 1] 85)) HP5.out.lt); have HB8 := Lib.hid (HBA.out.alloc hzA (.cells #[.int .i64 8, .string s5, .int .i64 0, .float .f64 0, .slice none 0 0, .slice none 0 0, .int .i64 t.place, .slice (some ⟨w4.heap.size, 0, none⟩) 1 1] 85))
           try simp only [List.getElem_toArray, List.getElem_cons_succ, List.getElem_cons_zero, Act.put, List.setIfInBounds_toArray]
           repeat (first | simp only [List.set_cons_succ] | simp only [List.set_cons_zero])
           go_wp2_with fail; subst hz; go_meet; exact ⟨w5.heap.size, _, x, s5, v5, rfl, HF2.out, HN.out, HP8.out, HB8.out⟩
      case rest =>
       clear hb2 hb3 hp3 HANY HTR; obtain ⟨x8, kb, xa, s5, v5, rfl, HF2, ht8, hp8, hb8⟩ := hcut; have hz8 := hb8.size; have hRx := HRR.out; rw [HF2.out] at hRx; have HI8 := Lib.hid (is_any ⟨#[111, 114]⟩ hp8); have HP8 := Lib.hid hp8; have HT8 := Lib.hid ht8; have HB8 := Lib.hid hb8; have hL5 := HAL.out s5 v5 HF2.out; have HL5 := Lib.hid hL5; clear hp8 ht8 hb8 hL5; cases hor : isP ⟨#[111, 114]⟩ v5 with
       | false =>
         rw [hor] at HI8; have HRX := Lib.hid (show R = selL L (k - 1) (.mk 8 s5 0 0 [] t.place [a]) v5 from hRx.trans (selN_no hor)); clear hRx hor
         go_wp2_with fail; refine HI8.out.mono ?_; rintro e w9 ⟨rfl, hb9⟩; have hp9 := HP8.out.below hb9 HP8.out.lt; have HP9 := Lib.hid hp9; have HL9 := Lib.hid hp9.lenP; clear hp9
         go_wp2_with fail; refine ⟨⟨x8, k - 1, .mk 8 s5 0 0 [] t.place [a], v5, rfl, HT8.out.tr.keep (Below.keeps hb9), HP9.out, HB8.out.then hb9 hz8, ?_, HRX.out.symm⟩, ?_⟩
         · have h1 := HL5.out
           have h2 := HK.out; simp at h2; omega
         · have h1 := HL5.out
           have h3 := HLEN.out; have h4 := HL9.out; simp at h3; omega
       | true =>
         rw [hor] at HI8; obtain ⟨t6, v6, rfl, hk6⟩ := isP_cons hor; have HK6 := Lib.hid (isT_kind hk6); have HRX := Lib.hid (show R = (match L.sel v6 with | .error e => .error e | .ok (b, us) => selL L (k - 1) (.mk 8 s5 0 0 [] t.place [a, b]) us) from hRx.trans (selN_yes hor)); clear hRx hor hk6
         go_wp2_with fail; refine HI8.out.mono ?_; rintro e w9 ⟨rfl, hb9⟩; have hz9 := hb9.size
         go_wp2_with fail; refine (take_any (HP8.out.below hb9 HP8.out.lt) HK6.out).mono ?_; rintro e wA ⟨rfl, hpA, hbA'⟩; have hzA' := hbA'.size; have HTA := Lib.hid ((HT8.out.keep (Below.keeps hb9)).keep (hbA'.keeps (Nat.le_refl _) (fun k hk => by omega))); have HBA := Lib.hid ((HB8.out.then hb9 hz8).andThen hbA' (by omega)); have HPA := Lib.hid hpA.drew; clear hpA hbA' hb9
         go_wp2_with fail; have hna := HTA.out.node; have hx8l := block_lt hna; have c7A := block_cell (i := 7) hna rfl; have hkx := HTA.out.lt; have hkb1 := HTA.out.lo1; have hplA : pb < wA.heap.size := by have := HPA.out.lt; simpa using this
         clear hna; go_region_law (first
          | (
           refine step_append_ptr rfl _ _ (by rfl) w.heap.size (.slice (some ⟨kb, 0, none⟩) 1 1) 1 [.pointer (some ⟨xa, 0, none⟩)] (by rfl) (own_below HN5.out.own ((Below.refl _ _).alloc (Nat.le_refl _) _)) _ _ y (by rfl) (block_new _ _ (by rfl)) (by omega) (by simp; omega) ?_; intro v' w' hown' hg' hv'; have hN' := hg'.block x8 (by simp; omega) (by simp [Value.ownBlock]; omega); have hN'' := hN'.trans (block_alloc HN5.out.node _); have c7' := block_cell (i := 7) hN'' rfl; have f7' := block_free (i := 7) hN''; obtain ⟨va, vc, rfl⟩ := own_shape hown'; clear hN' hN'')
          | (
           go_simp
           refine (HW.out _ _ HPA.out).mono ?_; intro e w5 h5; rcases hF3 : L.sel v6 with ⟨p6, e6⟩ | ⟨b6, v7⟩
           · rw [hF3] at h5
             obtain ⟨rfl, hb5⟩ := h5; have hRy := HRX.out; rw [hF3] at hRy; subst hRy; exact ⟨rfl, rfl, HBA.out.drew.andThen hb5 (by simp; omega)⟩
           rw [hF3] at h5; obtain ⟨⟨y, rfl, hy5⟩, hp5, hb5⟩ := h5; have hRy := HRX.out; rw [hF3] at hRy; have HRY := Lib.hid hRy; have HV7 := Lib.hid (HSW.out v6 b6 v7 HPA.out.good hF3); have HN5 := Lib.hid (HTA.out.keep (((But.refl pb wA.heap.size wA).drew.andThen hb5 (by simp)).keeps (Nat.le_refl _) (fun k hk => by omega))); have HY5 := Lib.hid (hy5.mono (q := fun k => x8 < k) (fun k hk _ => by simp at hk; omega)); have hbA := HBA.out.drew.andThen hb5 (by simp; omega); have HBB := Lib.hid hbA; have HP5 := Lib.hid hp5; have hz5 : wA.heap.size ≤ w5.heap.size := by have := hb5.size; simpa using this
           have c75 := block_cell (i := 7) HN5.out.node rfl; have hx85 : x8 < w5.heap.size := by omega
           unfold ptr; clear hRy hF3 hbA hp5 hy5 hb5))
         all_goals
          have hplw : pb < w5.heap.size := by omega
          have hlo : w.heap.size ≤ kb := hkb1; have hbw : Below (pb + 1) w5 (w'.setCell ⟨x8, 7, none⟩ (.slice va 2 vc)) := (Below.grown (((Below.refl (pb + 1) w5).alloc hplw (.cells #[.pointer (some ⟨y, 0, none⟩)] 51))) hg' (by simp; omega) (fun j hj => by simp [Value.ownBlock] at hj; omega)).setCell (by simp; omega) _; have hbB : But pb w.heap.size w (w'.setCell ⟨x8, 7, none⟩ (.slice va 2 vc)) := ((HBB.out.alloc (by omega) (.cells #[.pointer (some ⟨y, 0, none⟩)] 51)).grown hg' (by simp; omega) (fun j hj => by simp [Value.ownBlock] at hj; omega)).setCell (Or.inr (by simp; omega)) _; have hp9 := HP5.out.below hbw (Nat.lt_succ_self pb); have hFIN := N8.app (HN5.out.keep (Below.keeps ((Below.refl _ _).alloc (Nat.le_refl _) (.cells #[.pointer (some ⟨y, 0, none⟩)] 51)))) (HY5.out.keep (Below.keeps ((Below.refl _ _).alloc (Nat.le_refl _) _))) hown' hg' hv'; have HFIN := Lib.hid hFIN; have HP9 := Lib.hid hp9; have HL9 := Lib.hid hp9.lenP; have HB9 := Lib.hid hbB; clear hbw hbB hp9 hFIN hown' hg' hv' c7' f7'
          go_wp2_with fail; refine ⟨⟨x8, k - 1, .mk 8 s5 0 0 [] t.place [a, b6], v7, rfl, HFIN.out, HP9.out, HB9.out, ?_, HRY.out.symm⟩, ?_⟩
          · have h0 := HV7.out.1
            have h1 := HL5.out; have h2 := HK.out; simp at h1 h2; omega
          · have h0 := HV7.out.1
            have h1 := HL5.out; have h3 := HLEN.out; have h4 := HL9.out; simp at h1 h3; omega
end
def KR (q : Nat → Prop) (lo : Nat) (w : World) (vk : Value) (ks : List T) : Prop :=
 ∃ is : List Nat, is.length = ks.length ∧ w.ownsRow lo 51 1 vk ks.length (is.map ptr) ∧ (∀ g, vk.ownBlock = some g → q g) ∧
   ∀ (i b : Nat) (t : T), is[i]? = some b → ks[i]? = some t → TR (fun k => q k ∧ lo ≤ k ∧ some k ≠ vk.ownBlock) w b t
section
variable {q : Nat → Prop} {lo : Nat} {w w' : World} {vk : Value} {ks : List T}
theorem KR.nil (q : Nat → Prop) (lo : Nat) (w : World) : KR q lo w (.slice none 0 0) [] :=
 ⟨[], rfl, World.ownsRow_nil _ _ _ _, fun g h => (by cases h), fun i b t h => (by simp at h)⟩
theorem KR.shape (h : KR q lo w vk ks) : ∃ a c, vk = .slice a ks.length c := by
 obtain ⟨is, h1, h2, _⟩ := h; exact own_shape h2
theorem KR.keep (h : KR q lo w vk ks) (hk : Keeps (fun k => q k ∧ lo ≤ k) w w') : KR q lo w' vk ks := by
 obtain ⟨is, h1, h2, h3, h4⟩ := h; refine ⟨is, h1, ?_, h3, fun i b t hi ht => (h4 i b t hi ht).keep fun k hk1 hk2 => hk k ⟨hk1.1, hk1.2.1⟩ hk2⟩; obtain ⟨hl, h2 | ⟨g, cap, cur, hv, hg, hh, r⟩⟩ := h2
 · exact ⟨hl, Or.inl h2⟩
 · exact ⟨hl, Or.inr ⟨g, cap, cur, hv, hg, (hk g ⟨h3 g (by rw [hv]; rfl), hg⟩ (block_lt hh)).trans hh, r⟩⟩
theorem KR.but {pb B : Nat} (h : KR q lo w vk ks) (hb : But pb B w w') (hB : w.heap.size ≤ B) (hp : pb < lo) : KR q lo w' vk ks := h.keep (hb.keeps hB fun k hk => by omega)
theorem KR.set {tb i : Nat} (h : KR q lo w vk ks) (v : Value) (hq : ¬ q tb) : KR q lo (w.setCell ⟨tb, i, none⟩ v) vk ks :=
 h.keep fun k hk _ => Below.heap_setCell _ _ _ _ (fun e => hq (by have := hk.1; rw [e] at this; exact this))
theorem KR.app {y : Nat} {b : T} {xs : List Value} {v' : Value} (h : KR q lo w vk ks) (hy : TR (fun k => q k ∧ lo ≤ k ∧ some k ≠ vk.ownBlock) w y b) (hx : ∃ is : List Nat, xs = is.map ptr ∧ is.length = ks.length ∧ (∀ (i b : Nat) (t : T), is[i]? = some b → ks[i]? = some t → TR (fun k => q k ∧ lo ≤ k ∧ some k ≠ vk.ownBlock) w b t))
 (hown : w'.ownsRow lo 51 1 v' (ks.length + 1) (xs ++ [.pointer (some ⟨y, 0, none⟩)])) (hg : w.grownBy w' vk.ownBlock) (hv : v'.ownBlock = vk.ownBlock ∨ v'.ownBlock = some w.heap.size) (hq : q w.heap.size) : KR q lo w' v' (ks ++ [b]) := by
 obtain ⟨_, _, _, h3, _⟩ := h; obtain ⟨is, rfl, h1, h4⟩ := hx; have hke : ∀ {c : Nat} {u : T}, TR (fun k => q k ∧ lo ≤ k ∧ some k ≠ vk.ownBlock) w c u → TR (fun k => q k ∧ lo ≤ k ∧ some k ≠ v'.ownBlock) w' c u := fun {c u} h => by
  have h9 := h.mono (q := fun k => (q k ∧ lo ≤ k ∧ some k ≠ v'.ownBlock) ∧ some k ≠ vk.ownBlock) (fun k hk hl => ⟨⟨hk.1, hk.2.1, by
   rcases hv with hv | hv
   · rw [hv]; exact hk.2.2
   · rw [hv]; simp; omega⟩, hk.2.2⟩)
  exact (h9.keep fun k hk hl => hg.block k hl hk.2).mono fun k hk _ => hk.1
 refine ⟨is ++ [y], by simp [h1], by simpa [ptr] using hown, fun g hg' => ?_, fun i c u hi hu => ?_⟩
 · rcases hv with hv | hv
   · exact h3 g (hv ▸ hg')
   · rw [hv] at hg'
     cases hg'; exact hq
 · by_cases hlt : i < is.length
   · rw [List.getElem?_append_left hlt] at hi
     rw [List.getElem?_append_left (by omega)] at hu; exact hke (h4 i c u hi hu)
   · rw [List.getElem?_append_right (by omega)] at hi
     rw [List.getElem?_append_right (by omega)] at hu; have e : i - is.length = 0 := by
      rcases Nat.eq_zero_or_pos (i - is.length) with h | h
      · exact h
      · rw [List.getElem?_eq_none (by simp; omega)] at hi; cases hi
     rw [← h1, e] at hu; rw [e] at hi; simp at hi hu; subst hi; subst hu; exact hke hy
theorem KR.node {tb : Nat} {kind int : Int} {text : ByteArray} {flt place : Nat} {names : List ByteArray} {vn : Value} (h : KR q lo w vk ks) (hn : w.heap[tb]? = some (.cells #[.int .i64 kind, .string text, .int .i64 int, .float .f64 flt, vn, .slice none 0 0, .int .i64 (place : Int), vk] 85 (0, 0)))
 (hr : RowR (fun k => lo ≤ k) w vn (names.map Value.string)) (hlo : lo ≤ tb) : TR (fun k => lo ≤ k) w tb (.mk kind text int flt names place ks) := by
 obtain ⟨is, h1, h2, h3, h4⟩ := h; exact .mk vn vk is hlo hn hr (RowR.own h2 rfl (fun g hg _ => hg)) h1 fun i b t hi ht => (h4 i b t hi ht).mono fun k hk _ => hk.2.1
end
section
variable {w w' : World} {pb g n : Nat} {t : Tok} {us ts : List Tok} {L : PF}
theorem listL_stop {k : Nat} {ks : List T} (h : isP ⟨#[93]⟩ ts = true) : listL L k ks ts = .ok (ks, ts) := by
 cases k with
 | zero => rfl
 | succ k => unfold listL; rw [h]; rfl
theorem listL_go {k : Nat} {ks : List T} (h : isP ⟨#[93]⟩ ts = false) (hg : Good ts) (hk : ts.length ≤ k) :
 listL L k ks ts = match selP L ts with | .error e => .error e | .ok (a, us) => listL L (k - 1) (ks ++ [a]) us := by
 cases k with
 | zero => exact absurd (List.length_eq_zero_iff.1 (by omega)) hg.ne
 | succ k =>
   conv => lhs; unfold listL
   rw [h]; cases selP L ts <;> rfl
def listF (place : Nat) (r : Res (List T)) : Res T := match r with | .error e => .error e | .ok (ks, us) => .ok (.mk 5 ⟨#[]⟩ 0 0 [] place ks, us.tail)
theorem listP_is (t : Tok) (us : List Tok) : listP L (t :: us) = listF t.place (listL L (t :: us).length [] us) := by
 unfold listP listF; show (match listL L (t :: us).length [] us with | .error e => _ | .ok (ks, us) => _) = _; cases listL L (t :: us).length [] us <;> rfl
theorem list_any (hA : Reads pb g n 239 #[.pointer (some ⟨pb, 0, none⟩)] (selP L)) (hsA : Sh (selP L)) (h : PS w pb g n (t :: us)) (hk0 : t.kind ≠ 0) : Calls Tryz.prog 242 #[.pointer (some ⟨pb, 0, none⟩)] w fun e w' => RdPost pb g n w (listP L (t :: us)) e w' := by
 have hf4 := fld4; rw [listP_is]; have HA := Lib.hid hA; have HSA := Lib.hid hsA; have HP := Lib.hid h; have HK0 := Lib.hid hk0; have hpl := h.lt; obtain ⟨R0, hR0⟩ : ∃ R, listL L (t :: us).length [] us = R := ⟨_, rfl⟩; rw [hR0]; obtain ⟨R, hR⟩ : ∃ R, listF t.place R0 = R := ⟨_, rfl⟩; rw [hR]; have HR0 := Lib.hid hR0; have HRA := Lib.hid hR; clear hA h hR0 hR hsA hk0; go_enter Tryz.func242, Tryz.ntmps242
 go_wp2_with fail; refine (take_any HP.out HK0.out).mono ?_; rintro e w1 ⟨rfl, hp1, hb1⟩; have hz1 := hb1.size; have hn1 := block_new w1 (.cells #[.int .i64 5, .string ⟨#[]⟩, .int .i64 0, .float .f64 0, .slice none 0 0, .slice none 0 0, .int .i64 (t.place : Int), .slice none 0 0] 85) rfl; have hp2 := hp1.below ((Below.refl _ _).alloc (Nat.le_refl _) (.cells #[.int .i64 5, .string ⟨#[]⟩, .int .i64 0, .float .f64 0, .slice none 0 0, .slice none 0 0, .int .i64 (t.place : Int), .slice none 0 0] 85)) hp1.lt; have hb2 := hb1.alloc hz1 (.cells #[.int .i64 5, .string ⟨#[]⟩, .int .i64 0, .float .f64 0, .slice none 0 0, .slice none 0 0, .int .i64 (t.place : Int), .slice none 0 0] 85); have HL1 := Lib.hid (show us.length ≤ (t :: us).length by simp)
 go_wp2_with fail; generalize hw2 : w1.alloc (.cells #[.int .i64 5, .string ⟨#[]⟩, .int .i64 0, .float .f64 0, .slice none 0 0, .slice none 0 0, .int .i64 (t.place : Int), .slice none 0 0] 85) = w2 at *; obtain ⟨tb, htb⟩ : ∃ tb, w1.heap.size = tb := ⟨_, rfl⟩; rw [htb] at hn1 hz1; rw [htb]; clear hw2; go_loopw [] (fun wr => ∃ (k : Nat) (ks : List T) (us : List Tok) (vk : Value), wr.heap[tb]? = some (.cells #[.int .i64 5, .string ⟨#[]⟩, .int .i64 0, .float .f64 0, .slice none 0 0, .slice none 0 0, .int .i64 (t.place : Int), vk] 85 (0, 0)) ∧ KR (fun k => k ≠ tb) w.heap.size wr vk ks ∧ PS wr pb g n us ∧ But pb w.heap.size w wr ∧ us.length ≤ k ∧ ks.length + us.length ≤ 5000 ∧ Hid (listL L k ks us = R0)) (fun wr => lenP wr pb)
 case atStart => exact ⟨_, [], us, _, hn1, KR.nil _ _ _, hp2, hb2, HL1.out, by have := hp2.len; simp; omega, HR0.out⟩
 case round =>
  clear hb2 hp2 hn1 hb1 hp1 HR0 HL1; obtain ⟨k, ks, us, vk, hn, hkr, hp1, hb1, hk, hk5, HR⟩ := hrel; have hz2 := hb1.size; have HANY := Lib.hid (is_any ⟨#[93]⟩ hp1); have HP1 := Lib.hid hp1; have HN := Lib.hid hn; have HKR := Lib.hid hkr; have HB1 := Lib.hid hb1; have HK := Lib.hid hk; have HK5 := Lib.hid hk5; have HLEN := Lib.hid hp1.lenP; have hpl1 := hp1.lt; have htl := block_lt hn; clear hp1 hn hkr hb1 hk hk5; cases hany : isP ⟨#[93]⟩ us with
  | true =>
    rw [hany] at HANY; have HR0 := Lib.hid (show R0 = .ok (ks, us) by rw [← HR.out, listL_stop hany]); obtain ⟨t', us', rfl, hk5⟩ := isP_cons hany; have HKK := Lib.hid (isT_kind hk5); have hR : R = .ok (.mk 5 ⟨#[]⟩ 0 0 [] t.place ks, us') := by rw [← HRA.out, HR0.out]; rfl
    subst hR; clear hany hk5
    go_wp2_with fail; refine HANY.out.mono ?_; rintro e w2 ⟨rfl, hb2⟩; have hz3 := hb2.size
    go_wp2_with fail; refine (take_any (HP1.out.below hb2 HP1.out.lt) HKK.out).mono ?_; rintro e w3 ⟨rfl, hp3, hb3⟩
    go_wp2_with fail; go_ret; have hbb := (But.of hb2).andThen hb3 (by omega) (pb := pb); refine ⟨⟨tb, rfl, ?_⟩, hp3, (HB1.out.then hb2 hz2).andThen hb3 (by omega)⟩; exact KR.node (names := []) (HKR.out.but hbb (Nat.le_refl _) hpl) (hbb.get htl (by omega) HN.out) (Or.inl ⟨rfl, rfl⟩) (by omega)
  | false =>
    rw [hany] at HANY; have HRR := Lib.hid (HR.out.symm.trans (listL_go (L := L) (ks := ks) hany HP1.out.good HK.out)); clear hany HR
    go_wp2_with fail; refine HANY.out.mono ?_; rintro e w2 ⟨rfl, hb2⟩; have hz3 := hb2.size; have HP2 := Lib.hid ((HP1.out.below hb2 HP1.out.lt).drew); have HB2 := Lib.hid (HB1.out.then hb2 hz2); have HKR2 := Lib.hid (HKR.out.keep (Below.keeps hb2)); have HN2 := Lib.hid (block_below HN.out hb2); have htl2 := block_lt HN2.out; have c72 := block_cell (i := 7) HN2.out rfl
    go_wp2_with fail; obtain ⟨oa, oc, hsh⟩ := HKR2.out.shape; subst hsh; have hlo : ∀ g, (Value.slice oa ks.length oc).ownBlock = some g → w.heap.size ≤ g ∧ g < w2.heap.size := fun g hg => by
     obtain ⟨is, _, h2, _⟩ := HKR2.out; exact World.ownsRow.lt h2 g hg
    have HLO := Lib.hid hlo; have hplA : pb < w2.heap.size := by omega
    have hkl : ks.length + 1 ≤ 1000000000 := by have := HK5.out; omega
    clear hlo; go_region_law (first
     | (
      refine step_append_ptr rfl _ _ (by rfl) w.heap.size (.slice oa ks.length oc) ks.length (HIS.out.choose.map ptr) (by rfl) (own_below HIS.out.choose_spec.2.1 ((Below.refl _ _).alloc (Nat.le_refl _) _)) _ _ y (by rfl) (block_new _ _ (by rfl)) hkl (by simp; omega) ?_; intro v' w' hown' hg' hv'; have hN' := hg'.block tb (by simp; omega) (fun e => HIS.out.choose_spec.2.2.1 tb e.symm rfl); have hN'' := hN'.trans (block_alloc HN5.out _); have c7' := block_cell (i := 7) hN'' rfl; have f7' := block_free (i := 7) hN''; obtain ⟨va, vc, rfl⟩ := own_shape hown'; clear hN')
     | (
      go_simp
      refine (HA.out _ _ HP2.out).mono ?_; intro e w5 h5; rcases hF3 : selP L us with ⟨p6, e6⟩ | ⟨b6, v7⟩
      · rw [hF3] at h5
        obtain ⟨rfl, hb5⟩ := h5; have hRy := HRR.out; rw [hF3] at hRy; have hRz : R = .error (p6, e6) := by rw [← HRA.out, hRy]; rfl
        subst hRz; exact ⟨rfl, rfl, HB2.out.drew.andThen hb5 (by simp; omega)⟩
      rw [hF3] at h5; obtain ⟨⟨y, rfl, hy5⟩, hp5, hb5⟩ := h5; have hRy := HRR.out; rw [hF3] at hRy; have HRY := Lib.hid hRy; have HV7 := Lib.hid (HSA.out us b6 v7 HP2.out.good hF3); have hbt : But pb w2.heap.size w2 w5 := (But.refl pb w2.heap.size w2).drew.andThen hb5 (by simp); have HIS := Lib.hid (HKR2.out.but hbt (Nat.le_refl _) hpl); have HN5 := Lib.hid (hbt.get htl2 (by omega) HN2.out); have HY5 := Lib.hid (hy5.mono (q := fun k => k ≠ tb ∧ w.heap.size ≤ k ∧ some k ≠ (Value.slice oa ks.length oc).ownBlock) (fun k hk _ => ⟨by simp at hk; omega, by simp at hk; omega, fun e => by have := (HLO.out k e.symm).2; simp at hk; omega⟩)); have HBB := Lib.hid (HB2.out.drew.andThen hb5 (by simp; omega)); have HP5 := Lib.hid hp5; have hz5 : w2.heap.size ≤ w5.heap.size := by have := hb5.size; simpa using this
      have c75 := block_cell (i := 7) HN5.out rfl; have htl5 : tb < w5.heap.size := by omega
      unfold ptr; clear hRy hF3 hp5 hy5 hb5 hbt))
    all_goals
     have hplw : pb < w5.heap.size := by omega
     have hne : ∀ j, (Value.slice oa ks.length oc).ownBlock = some j → w.heap.size ≤ j := fun j hj => (HLO.out j hj).1
     have hbw : Below (pb + 1) w5 (w'.setCell ⟨tb, 7, none⟩ (.slice va (ks.length + 1) vc)) := (Below.grown (((Below.refl (pb + 1) w5).alloc hplw (.cells #[.pointer (some ⟨y, 0, none⟩)] 51))) hg' (by simp; omega) (fun j hj => by have := hne j hj; omega)).setCell (by simp; omega) _; have hbB : But pb w.heap.size w (w'.setCell ⟨tb, 7, none⟩ (.slice va (ks.length + 1) vc)) := ((HBB.out.alloc (by omega) (.cells #[.pointer (some ⟨y, 0, none⟩)] 51)).grown hg' (by simp; omega) (fun j hj => Or.inr (hne j hj))).setCell (Or.inr (by simp; omega)) _; have hp9 := HP5.out.below hbw (Nat.lt_succ_self pb); have hbe : Below w5.heap.size w5 (w5.alloc (.cells #[.pointer (some ⟨y, 0, none⟩)] 51)) := (Below.refl _ _).alloc (Nat.le_refl _) _; have hkr := KR.app (HIS.out.keep (Below.keeps hbe)) (HY5.out.keep (Below.keeps hbe)) (xs := HIS.out.choose.map ptr) ⟨HIS.out.choose, rfl, HIS.out.choose_spec.1, fun i b t hi ht => (HIS.out.choose_spec.2.2.2 i b t hi ht).keep (Below.keeps hbe)⟩ hown' hg' hv' (by simp; omega); have HKR9 := Lib.hid (hkr.set (i := 7) (.slice va (ks.length + 1) vc) (tb := tb) (fun h => h rfl)); have HN9 := Lib.hid (block_set (i := 7) hN'' (.slice va (ks.length + 1) vc)); have HP9 := Lib.hid hp9; have HL9 := Lib.hid hp9.lenP; have HB9 := Lib.hid hbB; clear hbw hbB hp9 hkr hown' hg' hv' c7' f7' hN'' hbe hne
     go_wp2_with fail; refine ⟨⟨k - 1, ks ++ [b6], v7, .slice va (ks.length + 1) vc, HN9.out, HKR9.out, HP9.out, HB9.out, ?_, ?_, HRY.out.symm⟩, ?_⟩
     · have h0 := HV7.out.1
       have h2 := HK.out; omega
     · have h0 := HV7.out.1
       have h2 := HK5.out; simp
       omega
     · have h0 := HV7.out.1
       have h3 := HLEN.out; have h4 := HL9.out; omega
end
def MP (w : World) (m : Nat) (ps : List Nat) : Prop :=
 ∃ es clock, w.heap[m]? = some (.map es clock) ∧ es.toList.map (fun e => (e.key, e.val)) = ps.map fun b => (ptr b, Value.bool true)
def Cel (w : World) (b : Nat) : Prop := ∃ c t, w.heap[b]? = some (.cells c t (0, 0))
section
variable {w w' : World} {m b : Nat} {ps : List Nat}
theorem MP.lt (h : MP w m ps) : m < w.heap.size := by
 obtain ⟨es, clock, h1, _⟩ := h; exact block_lt h1
theorem MP.made (w : World) : MP (w.alloc (.map #[] 0)) w.heap.size [] := ⟨#[], 0, block_new _ _ rfl, rfl⟩
theorem MP.same (h : MP w m ps) (hb : w'.heap[m]? = w.heap[m]?) : MP w' m ps := by
 obtain ⟨es, clock, h1, h2⟩ := h; exact ⟨es, clock, hb.trans h1, h2⟩
theorem eql_ptr_same (b : Nat) (w : World) : (Op.equal 51 (ptr b) (ptr b)).run Tryz.prog w = .ok true w := by
 obtain ⟨j, hj⟩ : ∃ j, Tryz.prog.info? 85 = some j := Option.isSome_iff_exists.1 (by kernel_rfl); have h : ∀ d : Nat, (Op.equalIn (d + 1) 51 (ptr b) (ptr b)).run Tryz.prog w = .ok true w := fun d => by
  simp [ptr, Op.equalIn, run_underlying Tryz.underlying51, sizeOf, typeInfo, hj, run_sameAddr_same]
 exact h 9999
theorem eql_ptr_other {a b : Nat} {w : World} (hne : a ≠ b) (ha : Cel w a) (hb : Cel w b) : (Op.equal 51 (ptr a) (ptr b)).run Tryz.prog w = .ok false w := by
 obtain ⟨ca, ta, ha⟩ := ha; obtain ⟨cb, tb, hb⟩ := hb; obtain ⟨j, hj⟩ : ∃ j, Tryz.prog.info? 85 = some j := Option.isSome_iff_exists.1 (by kernel_rfl); have hsz : (Tryz.prog.info? 85).map (·.size) = some 8 := by kernel_rfl
 rw [hj] at hsz; simp at hsz; have h : ∀ d : Nat, (Op.equalIn (d + 1) 51 (ptr a) (ptr b)).run Tryz.prog w = .ok false w := fun d => by
  simp [ptr, Op.equalIn, run_underlying Tryz.underlying51, sizeOf, typeInfo, hj, hsz, run_sameAddr_other w (a := ⟨a, 0, none⟩) (b := ⟨b, 0, none⟩) (fun e => hne (congrArg Addr.block e)) ha hb]
 exact h 9999
theorem find_ptr {w : World} {b : Nat} (hb : Cel w b) : ∀ (l : List MapEntry) (ps : List Nat) (i : Nat), l.map (fun e => (e.key, e.val)) = ps.map (fun b => (ptr b, Value.bool true)) → (∀ p ∈ ps, Cel w p) →
 ∃ r, (Instr.findAsking 51 (ptr b) l i).run Tryz.prog w = .ok r w ∧ (b ∈ ps → ∃ j, r = some (j, .bool true)) ∧ (b ∉ ps → r = none)
 | [], ps, i, h, _ => by
   have : ps = [] := by cases ps with | nil => rfl | cons a r => simp at h
   subst this; exact ⟨none, by simp [Instr.findAsking], fun h => (by simp at h), fun _ => rfl⟩
 | e :: l, [], i, h, _ => by simp at h
 | e :: l, p :: ps, i, h, hc => by
   simp only [List.map_cons, List.cons.injEq, Prod.mk.injEq] at h; obtain ⟨⟨h1, h2⟩, h3⟩ := h; by_cases hp : b = p
   · subst hp
     refine ⟨some (i, .bool true), ?_, fun _ => ⟨i, rfl⟩, fun h => absurd (by simp) h⟩; simp [Instr.findAsking, h1, h2, eql_ptr_same]
   · obtain ⟨r, hr1, hr2, hr3⟩ := find_ptr hb l ps (i + 1) h3 (fun q hq => hc q (by simp [hq]))
     refine ⟨r, ?_, fun h => hr2 (by simp [hp] at h; exact h), fun h => hr3 (fun h' => h (by simp [h']))⟩; simp [Instr.findAsking, h1, eql_ptr_other hp hb (hc p (by simp)), hr1]
theorem findKey_ptr {w : World} {b : Nat} (hb : Cel w b) (l : List MapEntry) (ps : List Nat) (h : l.map (fun e => (e.key, e.val)) = ps.map (fun b => (ptr b, Value.bool true))) (hc : ∀ p ∈ ps, Cel w p) :
 ∃ r, (Instr.findKey 51 (ptr b) l).run Tryz.prog w = .ok r w ∧ (b ∈ ps → ∃ j, r = some (j, .bool true)) ∧ (b ∉ ps → r = none) := by
 cases l with
 | nil =>
   have : ps = [] := by cases ps with | nil => rfl | cons a r => simp at h
   subst this; exact ⟨none, by simp [Instr.findKey, Instr.findNow, run_underlying Tryz.underlying51], fun h => (by simp at h), fun _ => rfl⟩
 | cons e l =>
   obtain ⟨r, h1, h2, h3⟩ := find_ptr hb (e :: l) ps 0 h hc; refine ⟨r, ?_, h2, h3⟩; rw [← h1]; simp [Instr.findKey, Instr.findNow, Instr.sameNow, run_underlying Tryz.underlying51]
theorem checkKey_ptr (e : Bool) (b : Nat) (w : World) : (Instr.checkKey e 10000 51 (ptr b)).run Tryz.prog w = .ok () w := by
 have h : ∀ n : Nat, (Instr.checkKey e (n + 1) 51 (ptr b)).run Tryz.prog w = .ok () w := fun n => by
  simp [Instr.checkKey, ptr, run_underlying Tryz.underlying51]
 exact h 9999
theorem MP.look (h : MP w m ps) (hb : Cel w b) (hc : ∀ p ∈ ps, Cel w p) : (Instr.lookup 126 (.map (some m)) (ptr b) false).run Tryz.prog w = .ok (.bool (decide (b ∈ ps))) w := by
 obtain ⟨es, clock, h1, h2⟩ := h; obtain ⟨r, hr, hin, hout⟩ := findKey_ptr hb es.toList ps h2 hc; have hzz : (zeroValue 4).run Tryz.prog w = .ok (.bool false) w := by simp [Tryz.zeroValue4]
 by_cases hm : b ∈ ps
 · obtain ⟨j, rfl⟩ := hin hm
   simp [Instr.lookup, run_underlying Tryz.underlying126, MapKept.run_getObj_map h1, checkKey_ptr, hr, hm]
 · have := hout hm
   subst this; simp [Instr.lookup, run_underlying Tryz.underlying126, MapKept.run_getObj_map h1, checkKey_ptr, hr, hm, hzz]
theorem MP.put (h : MP w m ps) (hb : Cel w b) (hc : ∀ p ∈ ps, Cel w p) (hn : b ∉ ps) :
 ∃ w', (Instr.mapUpdate 126 (.map (some m)) (ptr b) (.bool true)).run Tryz.prog w = .ok () w' ∧ MP w' m (ps ++ [b]) ∧ w.grownBy w' (some m) ∧ w'.heap.size = w.heap.size := by
 obtain ⟨es, clock, h1, h2⟩ := h; obtain ⟨r, hr, _, hout⟩ := findKey_ptr hb es.toList ps h2 hc
 have := hout hn; subst this; have hlt := block_lt h1; obtain ⟨w', hw', hrun⟩ : ∃ w', w' = ({ w with heap := w.heap.setIfInBounds m (.map (es.push { key := ptr b, val := .bool true, born := clock }) (clock + 1)) } : World) ∧ (setObj m (.map (es.push { key := ptr b, val := .bool true, born := clock }) (clock + 1))).run Tryz.prog w = .ok () w' :=
  ⟨_, rfl, MapKept.run_setObj_map _ h1⟩
 refine ⟨w', ?_, ⟨es.push { key := ptr b, val := .bool true, born := clock }, clock + 1, ?_, ?_⟩, ⟨?_, ?_, ?_, ?_, ?_⟩, ?_⟩
 · simp [Instr.mapUpdate, run_underlying Tryz.underlying126, MapKept.run_getObj_map h1, checkKey_ptr, hr, hrun]
 · subst hw'; simp [hlt]
 · simp [h2]
 · subst hw'; rfl
 · subst hw'; rfl
 · subst hw'; rfl
 · subst hw'; simp
 · intro k hk hne
   subst hw'; have hne' : m ≠ k := fun e => hne (by rw [e])
   simp [hne']
 · subst hw'; simp
end
end Go.Proofs.YtkoghgnjjfnamaaGreatDoor
