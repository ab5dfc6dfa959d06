/- ParX: what is used of them. -/
import Derived.Test.YtkoghgnjjfnamaaGreatDoorParW
set_option linter.unusedSimpArgs false
namespace Go.Proofs.YtkoghgnjjfnamaaGreatDoor
set_option maxRecDepth 100000
set_option maxHeartbeats 8000000
open Go.RowKit Go.Shelf
def lamR (t : Tok) (r : Res T) : Res T := match r with | .error e => .error e | .ok (a, vs) => .ok (.mk 11 t.text 0 0 [] t.place [a], vs)
def letQ (t : Tok) (ar : Ar) (r : Res T) : Res T := match r with | .error e => .error e | .ok (b, vs) => .ok (rootOf 12 t.place [b] ar, vs)
def letP (L : PF) (t : Tok) (ar : Ar) (r : Except Er (List Tok)) : Res T := match r with | .error e => .error e | .ok vs => letQ t ar (L.top vs)
def letR (L : PF) (t : Tok) (r : Except Er (Ar × List Tok)) : Res T := match r with | .error e => .error e | .ok (ar, vs) => letP L t ar (needP ⟨#[105, 110]⟩ vs)
def twoR (kind : Int) (place : Nat) (a : T) (r : Res T) : Res T := match r with | .error e => .error e | .ok (b, us) => .ok (.mk kind ⟨#[]⟩ 0 0 [] place [a, b], us)
def twoQ (L : PF) (kind : Int) (place : Nat) (a : T) (r : Except Er (List Tok)) : Res T := match r with | .error e => .error e | .ok us => twoR kind place a (L.top us)
def twoS (L : PF) (kind : Int) (place : Nat) (r : Res T) : Res T := match r with | .error e => .error e | .ok (a, us) => twoQ L kind place a (needP ⟨#[59]⟩ us)
theorem ix0 (a b c : Value) (w : World) : (Instr.index 111 (.agg #[a, b, c]) (.int .i64 0)).run Tryz.prog w = .ok a w := by kernel_rfl
theorem ix1 (a b c : Value) (w : World) : (Instr.index 111 (.agg #[a, b, c]) (.int .i64 1)).run Tryz.prog w = .ok b w := by kernel_rfl
theorem ix2 (a b c : Value) (w : World) : (Instr.index 111 (.agg #[a, b, c]) (.int .i64 2)).run Tryz.prog w = .ok c w := by kernel_rfl
def ifA (L : PF) (ss : List ByteArray) (ks : List T) (r : Res T) : Res (List T) := match r with | .error e => .error e | .ok (a, us) => ifL L ss (ks ++ [a]) us
def ifB (L : PF) (ss : List ByteArray) (ks : List T) (r : Except Er (List Tok)) : Res (List T) := match r with | .error e => .error e | .ok us => ifA L ss ks (L.top us)
theorem ifL_go (L : PF) (s : ByteArray) (ss : List ByteArray) (ks : List T) (ts : List Tok) : ifL L (s :: ss) ks ts = ifB L ss ks (needP s ts) := by
 conv => lhs; unfold ifL
 unfold ifB; cases needP s ts with
 | error e => rfl
 | ok us =>
   show (match L.top us with | .error e => _ | .ok (a, us) => _) = ifA L ss ks (L.top us); unfold ifA; cases L.top us <;> rfl
def ifR (place : Nat) (r : Res (List T)) : Res T := match r with | .error e => .error e | .ok (ks, vs) => .ok (.mk 14 ⟨#[]⟩ 0 0 [] place ks, vs)
section
variable {L : PF} {t : Tok} {us : List Tok}
theorem isT_text {s : ByteArray} (h : isT s t = true) : t.text.toList = s.toList := by
 unfold isT at h; rw [Bool.and_eq_true, beq_iff_eq] at h; exact h.1
theorem topP_is : topP L (t :: us) = if (nameT t && colonP (t :: us)) = true then lamR t (L.top us.tail) else if isT ⟨#[108, 101, 116]⟩ t = true then letR L t (bindsL L.top us.length [⟨[], [], t.place⟩] us)
 else if isT ⟨#[119, 105, 116, 104]⟩ t = true then twoS L 13 t.place (L.top us) else if isT ⟨#[97, 115, 115, 101, 114, 116]⟩ t = true then twoS L 15 t.place (L.top us)
 else if isT ⟨#[105, 102]⟩ t = true then ifR t.place (ifL L [⟨#[105, 102]⟩, ⟨#[116, 104, 101, 110]⟩, ⟨#[101, 108, 115, 101]⟩] [] (t :: us)) else orP L (t :: us) := by
 have h2 : ∀ k, twoP L k (t :: us) = twoS L k t.place (L.top us) := fun k => by
  unfold twoP twoS; show (match L.top us with | .error e => _ | .ok (a, us) => _) = _; cases L.top us with
  | error e => rfl
  | ok r =>
    obtain ⟨a, us⟩ := r; show (match needP ⟨#[59]⟩ us with | .error e => _ | .ok us => _) = twoQ L k t.place a (needP ⟨#[59]⟩ us); unfold twoQ; cases needP ⟨#[59]⟩ us with
    | error e => rfl
    | ok us =>
      show (match L.top us with | .error e => _ | .ok (b, us) => _) = twoR k t.place a (L.top us); unfold twoR; cases L.top us <;> rfl
 unfold topP; simp only [h2]; split
 · unfold lamR
   cases L.top us.tail <;> rfl
 · split
   · unfold letR
     cases bindsL L.top us.length [⟨[], [], t.place⟩] us with
     | error e => rfl
     | ok r =>
       obtain ⟨ar, vs⟩ := r; show (match needP ⟨#[105, 110]⟩ vs with | .error e => _ | .ok vs => _) = letP L t ar (needP ⟨#[105, 110]⟩ vs); unfold letP; cases needP ⟨#[105, 110]⟩ vs with
       | error e => rfl
       | ok vs =>
         show (match L.top vs with | .error e => _ | .ok (b, vs) => _) = letQ t ar (L.top vs); unfold letQ; cases L.top vs <;> rfl
   · split
     · rfl
     · split
       · rfl
       · split
         · unfold ifR
           cases ifL L [⟨#[105, 102]⟩, ⟨#[116, 104, 101, 110]⟩, ⟨#[101, 108, 115, 101]⟩] [] (t :: us) <;> rfl
         · rfl
end
section
variable {w w' : World} {pb g n : Nat} {t : Tok} {us ts : List Tok} {L : PF}
theorem top_any (hE : Reads pb g n 14 #[.pointer (some ⟨pb, 0, none⟩)] L.top) (hsF : Sh L.top) (hO : Reads pb g n 63 #[.pointer (some ⟨pb, 0, none⟩)] (orP L)) : Reads pb g n 35 #[.pointer (some ⟨pb, 0, none⟩)] (topP L) := by
 intro w ts h; obtain ⟨t, us, rfl⟩ := h.split; have hsf := store_f64; have hf1 := fld1; have hpl := h.lt; have HE := Lib.hid hE; have HSF := Lib.hid hsF; have HOR := Lib.hid hO; have HP0 := Lib.hid h; rw [topP_is]; obtain ⟨C, hC⟩ : ∃ C, (nameT t && colonP (t :: us)) = C := ⟨_, rfl⟩; rw [hC]; have HC := Lib.hid hC; obtain ⟨R, hR⟩ : ∃ R, (if C = true then lamR t (L.top us.tail) else if isT ⟨#[108, 101, 116]⟩ t = true then letR L t (bindsL L.top us.length [⟨[], [], t.place⟩] us)
  else if isT ⟨#[119, 105, 116, 104]⟩ t = true then twoS L 13 t.place (L.top us) else if isT ⟨#[97, 115, 115, 101, 114, 116]⟩ t = true then twoS L 15 t.place (L.top us)
  else if isT ⟨#[105, 102]⟩ t = true then ifR t.place (ifL L [⟨#[105, 102]⟩, ⟨#[116, 104, 101, 110]⟩, ⟨#[101, 108, 115, 101]⟩] [] (t :: us)) else orP L (t :: us)) = R := ⟨_, rfl⟩
 rw [hR]; have HR := Lib.hid hR; clear hE hsF hO h hC hR; go_enter Tryz.func35, Tryz.ntmps35
 go_wp2_with fail; refine (next_any HP0.out).mono ?_; rintro e w1 ⟨rfl, hb1⟩; have hz1 := hb1.size; have hb2 : Below w.heap.size w (w1.alloc (.cells #[.int .i64 t.kind, .string t.text, .int .i64 t.num, .float .f64 t.bits, .int .i64 t.place] 54)) := hb1.alloc hz1 _; have ht2 := block_new w1 (.cells #[.int .i64 t.kind, .string t.text, .int .i64 t.num, .float .f64 t.bits, .int .i64 t.place] 54) rfl; have hp2 := HP0.out.below hb2 hpl; have hzz2 := hb2.size; obtain ⟨z, hz⟩ : ∃ z, w1.heap.size = z := ⟨_, rfl⟩; rw [hz] at ht2; go_upto_region 2 with fail
 generalize (w1.alloc (.cells #[.int .i64 t.kind, .string t.text, .int .i64 t.num, .float .f64 t.bits, .int .i64 t.place] 54)) = w2 at *; have HP2 := Lib.hid hp2; have HB2 := Lib.hid hb2; have HT2 := Lib.hid ht2; have hzl := block_lt ht2; have hzw : w.heap.size ≤ z := by omega
 have hzp : z ≠ pb := by omega
 have k0 := block_cell (i := 0) ht2 rfl; have k1 := block_cell (i := 1) ht2 rfl; have k2 := block_cell (i := 2) ht2 rfl; have k3 := block_cell (i := 3) ht2 rfl; have k4 := block_cell (i := 4) ht2 rfl; clear hb1 hb2 ht2 hp2; go_cut [12] from 13 to 34 (fun v wx => v = .bool C ∧ Below w2.heap.size w2 wx)
 case first =>
  cases hnm : nameT t with
  | false =>
    have HNM := Lib.hid (fun W => hnm ▸ name_any t W); have hCf : C = false := by rw [← HC.out, hnm]; rfl
    subst hCf; clear hnm
    go_wp2_with fail; refine (HNM.out _).mono ?_; rintro e w3 ⟨rfl, hb3⟩
    go_wp2_with fail; go_meet; exact ⟨rfl, hb3⟩
  | true =>
    have HNM := Lib.hid (fun W => hnm ▸ name_any t W); have hgu := HP2.out.good.cons (by rw [nameT_kind hnm]; decide); obtain ⟨t2, us2, hus⟩ : ∃ t2 us2, us = t2 :: us2 := by
     cases us with
     | nil => exact absurd rfl hgu.ne
     | cons a b => exact ⟨a, b, rfl⟩
    have hCe : C = (decide (t2.kind = 5) && (t2.text.toList == ([58] : List UInt8))) := by
     rw [← HC.out, hnm, hus]; show (true && (decide (t2.kind = 5) && (t2.text.toList == (⟨#[58]⟩ : ByteArray).toList))) = _; rw [show (⟨#[58]⟩ : ByteArray).toList = ([58] : List UInt8) from Lib.toList_data _]; rfl
    have HCE := Lib.hid hCe; have HUS := Lib.hid hus; clear hnm hgu hus hCe
    go_wp2_with fail; refine (HNM.out _).mono ?_; rintro e w3 ⟨rfl, hb3⟩; obtain ⟨off, cap, c1, c2, c3, c4⟩ := (HP2.out.below hb3 HP2.out.lt).cells; have hlow := HP2.out.low; have p0 := block_cell (i := 0) c1 rfl; rw [HUS.out] at c4; obtain ⟨m0, m1, _, _, _⟩ := c4.tail.head; obtain ⟨l, hl, hl1⟩ : ∃ l : Nat, l = (t :: us).length ∧ (1 : Int) < (l : Int) := ⟨_, rfl, by rw [HUS.out]; simp; omega⟩; rw [← hl] at p0; clear c1 c2 c4 hl; cases h5 : t2.kind == 5 with
    | false =>
      have hCf : C = false := by rw [HCE.out]; have := h5; simp at this; simp [this]
      subst hCf
      go_wp2_with fail; go_meet; exact ⟨rfl, hb3⟩
    | true =>
      cases h6 : t2.text.toList == ([58] : List UInt8) with
      | false =>
        have hCf : C = false := by rw [HCE.out, h6]; simp
        subst hCf
        go_wp2_with fail; go_meet; exact ⟨rfl, hb3⟩
      | true =>
        have hCf : C = true := by rw [HCE.out, h6]; have := h5; simp at this; simp [this]
        subst hCf
        go_wp2_with fail; go_meet; exact ⟨rfl, hb3⟩
 case rest =>
  obtain ⟨rfl, hb3⟩ := hcut; have hz3 := hb3.size; have HP3 := Lib.hid (HP2.out.below hb3 HP2.out.lt); have HB3 := Lib.hid (HB2.out.trans (hb3.mono hzz2)); have hzz3 := HB3.out.size; have HT3 := Lib.hid (block_below HT2.out hb3); clear hb3 k0 k1 k2 k3 k4 HP2 HB2 HT2 HP0 hz; generalize wc = w3 at *; have hzl3 := block_lt HT3.out; have hpl3 := HP3.out.lt; cases C with
  | true =>
    have hcc := HC.out; rw [Bool.and_eq_true] at hcc; obtain ⟨hnm, hcol⟩ := hcc; obtain ⟨t2, us2, hus⟩ : ∃ t2 us2, us = t2 :: us2 := by
     cases us with
     | nil => cases hcol
     | cons a b => exact ⟨a, b, rfl⟩
    subst hus; have hk2 : t2.kind = 5 := by
     have : (decide (t2.kind = 5) && _) = true := hcol; rw [Bool.and_eq_true, decide_eq_true_eq] at this; exact this.1
    have hR : lamR t (L.top us2) = R := HR.out; have hgu := (HP3.out.good.cons (by rw [nameT_kind hnm]; decide)).cons (by rw [hk2]; decide); obtain ⟨off, cap, c1, c2, c3, c4⟩ := HP3.out.cells; have p0 := block_cell (i := 0) c1 rfl; have f0 := block_free (i := 0) c1; have hul : 0 < us2.length := by
     cases us2 with
     | nil => exact absurd rfl hgu.ne
     | cons a b => simp
    simp at c2; have hc2 : ¬ cap = 2 := by omega
    have HT10 := Lib.hid c4.tail.tail; have C1 := Lib.hid c1; have C2 := Lib.hid c2; have C3 := Lib.hid c3; obtain ⟨l, hl⟩ : ∃ l : Nat, l = (t :: t2 :: us2).length := ⟨_, rfl⟩; have hl1 : (2 : Int) ≤ (l : Int) := by rw [hl]; simp; omega
    have HL := Lib.hid hl; rw [← hl] at p0; have HGU := Lib.hid hgu; obtain ⟨R1, hR1⟩ : ∃ R, L.top us2 = R := ⟨_, rfl⟩; rw [hR1] at hR; have HR1 := Lib.hid hR1; have HRR := Lib.hid hR; clear c1 c2 c3 c4 hl hcol hnm hk2 hgu hul hR hR1 HR HC
    go_wp2_with fail; have hb4 : But pb w.heap.size w (w3.setCell ⟨pb, 0, none⟩ (.slice (some ⟨g, off + 10, none⟩) (l - 2) (cap - 2))) := (But.of (pb := pb) HB3.out).setCell (p := ⟨pb, 0, none⟩) (Or.inl rfl) _; have hp4 : PS (w3.setCell ⟨pb, 0, none⟩ (.slice (some ⟨g, off + 10, none⟩) (l - 2) (cap - 2))) pb g n us2 := HP3.out.set (fun k hk => Below.heap_setCell _ _ _ _ (Nat.ne_of_lt hk)) (off := off + 10) (cap := cap - 2) (by
     have := HL.out; simp at this; rw [show l - 2 = us2.length by omega]; exact block_set C1.out _) (by have := C2.out; omega) (by have := C3.out; omega) HT10.out HGU.out (by have := HP3.out.len; simp at this; omega) HP3.out.lev
    have ht4 : (w3.setCell ⟨pb, 0, none⟩ (.slice (some ⟨g, off + 10, none⟩) (l - 2) (cap - 2))).heap[z]? = _ := block_setCell HT3.out hzp _; have hz4 : z < (w3.setCell ⟨pb, 0, none⟩ (.slice (some ⟨g, off + 10, none⟩) (l - 2) (cap - 2))).heap.size := block_lt ht4; generalize (w3.setCell ⟨pb, 0, none⟩ (.slice (some ⟨g, off + 10, none⟩) (l - 2) (cap - 2))) = w4 at *; have hzz4 := hb4.size; have HKS := Lib.hid (show ∀ w', But pb (z + 1) w4 w' → (w'.cell? ⟨z, 1, none⟩ = some (.string t.text) ∧ w'.cell? ⟨z, 4, none⟩ = some (.int .i64 t.place)) from fun w' hb => by
     have h5 := hb.get (Nat.lt_succ_self z) hzp ht4; exact ⟨block_cell h5 rfl, block_cell h5 rfl⟩)
    have HB4 := Lib.hid hb4; have HP4 := Lib.hid hp4.drew; clear hb4 hp4 ht4 HL C1 C2 C3 HT10 HGU p0 f0 hl1 hc2; refine wp_region_held_drew (S := fun w' => w'.cell? ⟨z, 1, none⟩ = some (.string t.text) ∧ w'.cell? ⟨z, 4, none⟩ = some (.int .i64 t.place)) (by kernel_rfl) (HKS.out _ (But.refl _ _ _).drew) (fun hHeld => ?_); refine wpAnyH_take (i := 0) (v := ?_) rfl (by kernel_rfl) (by kernel_rfl) (by kernel_rfl) (fun _ _ _ h => h) (Or.inl ⟨by rfl, (by intro w hSw; (try dsimp only at hSw); go_simp; (with_reducible rfl))⟩) (by assumption) ?_
    try simp only [Act.put, List.setIfInBounds_toArray, List.set_cons_succ, List.set_cons_zero]
    refine wpAnyH_take (i := 1) (v := ?_) rfl (by kernel_rfl) (by kernel_rfl) (by kernel_rfl) (fun _ _ _ h => h) (Or.inl ⟨by rfl, (by intro w hSw; (try dsimp only at hSw); go_simp; (with_reducible rfl))⟩) (by assumption) ?_
    try simp only [Act.put, List.setIfInBounds_toArray, List.set_cons_succ, List.set_cons_zero]
    refine wpAnyH_take (i := 2) (v := ?_) rfl (by kernel_rfl) (by kernel_rfl) (by kernel_rfl) (fun _ _ _ h => h) (Or.inl ⟨by rfl, (by intro w hSw; (try dsimp only at hSw); go_simp; (with_reducible rfl))⟩) (by assumption) ?_
    try simp only [Act.put, List.setIfInBounds_toArray, List.set_cons_succ, List.set_cons_zero]
    refine wpAnyH_take (i := 3) (v := ?_) rfl (by kernel_rfl) (by kernel_rfl) (by kernel_rfl) (fun _ _ _ h => h) (Or.inl ⟨by rfl, (by intro w hSw; (try dsimp only at hSw); go_simp; (with_reducible rfl))⟩) (by assumption) ?_
    try simp only [Act.put, List.setIfInBounds_toArray, List.set_cons_succ, List.set_cons_zero]
    refine wpAnyH_take (i := 4) (v := ?_) rfl (by kernel_rfl) (by kernel_rfl) (by kernel_rfl) (fun _ _ _ h => h) (Or.inl ⟨by rfl, (by intro w hSw; (try dsimp only at hSw); go_simp; (with_reducible rfl))⟩) (by assumption) ?_
    try simp only [Act.put, List.setIfInBounds_toArray, List.set_cons_succ, List.set_cons_zero]
    refine wpAnyH_take (i := 5) (v := ?_) rfl (by kernel_rfl) (by kernel_rfl) (by kernel_rfl) (fun _ _ _ h => h) (Or.inl ⟨by rfl, (by intro w hSw; (try dsimp only at hSw); go_simp; (with_reducible rfl))⟩) (by assumption) ?_
    try simp only [Act.put, List.setIfInBounds_toArray, List.set_cons_succ, List.set_cons_zero]
    refine wpAnyH_ready (rs := [6]) (by kernel_rfl) (by simp) ?_; refine AllReadyH.cons (o := _) rfl (fun K hK => ?_) AllReadyH.nil; go_simp
    refine (HE.out _ _ HP4.out).mono ?_; intro e w5 h5; have hRf := HRR.out; rw [HR1.out] at h5; cases R1 with
    | error er =>
      obtain ⟨rfl, hb5⟩ := h5; have hRx : R = .error er := by rw [← hRf]; rfl
      subst hRx; exact ⟨rfl, rfl, HB4.out.drew.andThen hb5 (by simp; omega)⟩
    | ok r1 =>
      obtain ⟨a5, v5⟩ := r1; obtain ⟨⟨y, rfl, hy5⟩, hp5, hb5⟩ := h5; have hRx : R = .ok (.mk 11 t.text 0 0 [] t.place [a5], v5) := by rw [← hRf]; rfl
      subst hRx; have HK5 : Hid (But pb (z + 1) w4 w5) := (But.refl pb (z + 1) w4).drew.andThen hb5 (by simp; omega); have HY5 : Hid (TR (fun k => w.heap.size ≤ k) w5 y a5) := hy5.mono (fun k hk _ => by simp at hk; omega); have HBA := Lib.hid (HB4.out.drew.andThen hb5 (by simp; omega)); have hzA := HBA.out.size; have HP5 := Lib.hid hp5; have hzB : z < w5.heap.size := by have := hb5.size; simp at this; omega
      clear hRf hy5 hp5 hb5; unfold ptr; refine hK.out _ _ (HKS.out _ HK5.out) (fun hHeld => ?_); clear hK K
      try simp only [Act.put, List.setIfInBounds_toArray, List.set_cons_succ, List.set_cons_zero]
      refine wpAnyH_ready (rs := [7]) (by kernel_rfl) (by simp) ?_; refine AllReadyH.cons (o := _) rfl (fun K hK => ?_) AllReadyH.nil; go_simp
      refine hK.out _ _ (HKS.out _ (HK5.out.alloc (by omega) _)) (fun hHeld => ?_); clear hK K
      try simp only [Act.put, List.setIfInBounds_toArray, List.set_cons_succ, List.set_cons_zero]
      refine wpAnyH_take (i := 8) (v := ?_) rfl (by kernel_rfl) (by kernel_rfl) (by kernel_rfl) (fun _ _ _ h => h) (Or.inl ⟨by rfl, (by intro w hSw; (try dsimp only at hSw); go_simp; (with_reducible rfl))⟩) (by assumption) ?_
      try simp only [Act.put, List.setIfInBounds_toArray, List.set_cons_succ, List.set_cons_zero]
      refine wpAnyH_ready (rs := [9]) (by kernel_rfl) (by simp) ?_; refine AllReadyH.cons (o := _) rfl (fun K hK => ?_) AllReadyH.nil; go_simp
      refine hK.out _ _ (HKS.out _ ((HK5.out.alloc (by omega) _).alloc (by simp; omega) _)) (fun hHeld => ?_); clear hK K
      try simp only [Act.put, List.setIfInBounds_toArray, List.set_cons_succ, List.set_cons_zero]
      refine wpAnyH_take (i := 10) (v := ?_) rfl (by kernel_rfl) (by kernel_rfl) (by kernel_rfl) (fun _ _ _ h => h) (Or.inl ⟨by rfl, (by intro w hSw; (try dsimp only at hSw); go_simp; (with_reducible rfl))⟩) (by assumption) ?_
      try simp only [Act.put, List.setIfInBounds_toArray, List.set_cons_succ, List.set_cons_zero]
      refine wpAnyH_done (by kernel_rfl) ?_ _
      try simp only [List.getElem_toArray, List.getElem_cons_succ, List.getElem_cons_zero, Act.put, List.setIfInBounds_toArray]
      repeat (first | simp only [List.set_cons_succ] | simp only [List.set_cons_zero])
      go_wp2_with fail; go_ret; exact ⟨⟨_, rfl, node_one HY5.out (fun k hk => by omega)⟩, HP5.out.below (below_two _ _ _) HP5.out.lt, HBA.out.then (below_two _ _ _) hzA⟩
  | false =>
    have HRf := Lib.hid (show (if isT ⟨#[108, 101, 116]⟩ t = true then letR L t (bindsL L.top us.length [⟨[], [], t.place⟩] us)
     else if isT ⟨#[119, 105, 116, 104]⟩ t = true then twoS L 13 t.place (L.top us) else if isT ⟨#[97, 115, 115, 101, 114, 116]⟩ t = true then twoS L 15 t.place (L.top us)
     else if isT ⟨#[105, 102]⟩ t = true then ifR t.place (ifL L [⟨#[105, 102]⟩, ⟨#[116, 104, 101, 110]⟩, ⟨#[101, 108, 115, 101]⟩] [] (t :: us)) else orP L (t :: us)) = R from HR.out)
    clear HR HC; cases hlet : isT ⟨#[108, 101, 116]⟩ t with
    | true =>
      obtain ⟨R1, hR1⟩ : ∃ R, bindsL L.top us.length [⟨[], [], t.place⟩] us = R := ⟨_, rfl⟩; have HRR := Lib.hid (show letR L t R1 = R by
       have := HRf.out; rw [hlet, hR1] at this; exact this)
      have HIlet := Lib.hid hlet; have HKL := Lib.hid (isT_kind hlet); have HRB := Lib.hid hR1; clear hlet HRf hR1; have HQ4 := Lib.hid ((show isP ⟨#[108, 101, 116]⟩ (t :: us) = true from HIlet.out) ▸ is_any ⟨#[108, 101, 116]⟩ HP3.out)
      go_wp2_with fail; refine HQ4.out.mono ?_; rintro e w4 ⟨rfl, hb4⟩; have hz4 := hb4.size; have hp4 := HP3.out.below hb4 HP3.out.lt
      go_wp2_with fail; refine (take_any hp4 HKL.out).mono ?_; rintro e w5 ⟨rfl, hp5, hb5⟩; have hz5 := hb5.size; have hb35 := (But.of (pb := pb) hb4).andThen hb5 hz4; have q4 := block_cell (i := 4) (hb35.get hzl3 hzp HT3.out) rfl; have HB5 := Lib.hid ((But.of (pb := pb) HB3.out).andThen hb35 (by omega)); have HBD := Lib.hid (HRB.out ▸ bindings_any (kind := 12) (place := t.place) HE.out HSF.out hp5); clear hb4 hp4 hb5 hb35 hp5
      go_wp2_with fail; refine HBD.out.mono ?_; intro e w6 h6; cases R1 with
      | error x =>
        have hRx : R = .error x := by rw [← HRR.out]; rfl
        subst hRx; obtain ⟨rfl, hb6⟩ := h6; exact ⟨rfl, rfl, HB5.out.andThen hb6 (by omega)⟩
      | ok r1 =>
        obtain ⟨ar, us6⟩ := r1; obtain ⟨⟨b, o, rfl, ho, hkn, hn⟩, hp6, hb6⟩ := h6; have HKN := Lib.hid hkn; unfold ptr; have hz6 := hb6.size; obtain ⟨RS, hRS⟩ : ∃ R, needP ⟨#[105, 110]⟩ us6 = R := ⟨_, rfl⟩; have HND := Lib.hid (hRS ▸ need_any ⟨#[105, 110]⟩ hp6); have HRR2 := Lib.hid (show letP L t ar RS = R by rw [← HRR.out, ← hRS]; rfl); have HO := Lib.hid ho; have HB6 := Lib.hid (HB5.out.andThen hb6 (by omega)); have hn' := hn; have HNR := Lib.hid hn; clear hRS ho hn hkn hp6 hb6 HRR HBD hn'
        go_wp2_with fail; cases RS with
        | error x =>
          have hRx : R = .error x := by rw [← HRR2.out]; rfl
          subst hRx; refine HND.out.mono ?_; rintro e w7 ⟨rfl, hb7⟩; exact ⟨rfl, rfl, HB6.out.andThen hb7 (by omega)⟩
        | ok us7 =>
          refine HND.out.mono ?_; rintro e w7 ⟨rfl, hp7, hb7⟩; have hz7 := hb7.size; obtain ⟨hblo, vn, vk, hnode, hnames, hkr⟩ := HNR.out.keep (hb7.keeps (Nat.le_refl _) (fun k hk => by omega)); obtain ⟨oa, oc, hsh⟩ := hkr.shape; subst hsh; obtain ⟨RT, hRT⟩ : ∃ R, L.top us7 = R := ⟨_, rfl⟩; have HRT := Lib.hid hRT; have HRR3 := Lib.hid (show letQ t ar RT = R by rw [← HRR2.out, ← hRT]; rfl); have c7 := block_cell (i := 7) hnode rfl; have hbl := block_lt hnode; have HLO := Lib.hid (show ∀ g, (Value.slice oa (kidsOf ar o).length oc).ownBlock = some g → w5.heap.size ≤ g ∧ g < w7.heap.size from fun g hg => by
           obtain ⟨is, _, h2, _⟩ := hkr; exact World.ownsRow.lt h2 g hg)
          have HKR2 := Lib.hid hkr; have HN2 := Lib.hid hnode; have HNA := Lib.hid hnames; have HB2 := Lib.hid (HB6.out.andThen hb7 (by omega)); have HPA := Lib.hid hp7.drew; have hplA : pb < w7.heap.size := hp7.lt; obtain ⟨nk, hnk⟩ : ∃ nk, (kidsOf ar o).length = nk := ⟨_, rfl⟩; have HKB := Lib.hid (show nk ≤ 9000 from hnk ▸ HKN.out); have hkl : nk + 1 ≤ 1000000000 := by have := HKB.out; omega
          rw [hnk] at HKR2 HLO HN2 HNA c7; have HNK := Lib.hid hnk; clear hRT hkr hnode hnames hb7 hp7 HND HNR hnk
          go_wp2_with fail; go_region_law (first
           | (
            refine step_append_ptr rfl _ _ (by rfl) w5.heap.size (.slice oa nk oc) nk (HIS.out.choose.map ptr) (by rfl) (own_below (HNK.out ▸ HIS.out.choose_spec.2.1) ((Below.refl _ _).alloc (Nat.le_refl _) _)) _ _ y (by rfl) (block_new _ _ (by rfl)) hkl (by simp; omega) ?_; intro v' w' hown' hg' hv'; have hN' := hg'.block b (by simp; omega) (fun e => HIS.out.choose_spec.2.2.1 b e.symm rfl); have hN'' := hN'.trans (block_alloc HN5.out _); have c7' := block_cell (i := 7) hN'' rfl; have f7' := block_free (i := 7) hN''; obtain ⟨va, vc, rfl⟩ := own_shape hown'; clear hN')
           | (
            go_simp
            refine (HE.out _ _ HPA.out).mono ?_; intro e w8 h8; rw [HRT.out] at h8; rcases RT with ⟨p6, e6⟩ | ⟨b6, v7⟩
            · obtain ⟨rfl, hb8⟩ := h8
              have hRz : R = .error (p6, e6) := by rw [← HRR3.out]; rfl
              subst hRz; exact ⟨rfl, rfl, HB2.out.drew.andThen hb8 (by simp; omega)⟩
            obtain ⟨⟨y, rfl, hy8⟩, hp8, hb8⟩ := h8; have hbt : But pb w7.heap.size w7 w8 := (But.refl pb w7.heap.size w7).drew.andThen hb8 (by simp); have HIS := Lib.hid (HKR2.out.but hbt (Nat.le_refl _) (by omega)); have HN5 := Lib.hid (hbt.get hbl (by omega) HN2.out); have HNA5 := Lib.hid (HNA.out.keep (hbt.keeps (Nat.le_refl _) (fun k hk => by omega))); have HY5 := Lib.hid (hy8.mono (q := fun k => k ≠ b ∧ w5.heap.size ≤ k ∧ some k ≠ (Value.slice oa nk oc).ownBlock) (fun k hk _ => ⟨by simp at hk; omega, by simp at hk; omega, fun e => by have := (HLO.out k e.symm).2; simp at hk; omega⟩)); have HBB := Lib.hid (HB2.out.drew.andThen hb8 (by simp; omega)); have HP8 := Lib.hid hp8; have hz8 : w7.heap.size ≤ w8.heap.size := by have := hb8.size; simpa using this
            have c75 := block_cell (i := 7) HN5.out rfl; have htl8 : b < w8.heap.size := by omega
            unfold ptr; clear hp8 hy8 hb8 hbt))
          all_goals
           have hplw : pb < w8.heap.size := by omega
           have hne : ∀ j, (Value.slice oa nk oc).ownBlock = some j → w5.heap.size ≤ j := fun j hj => (HLO.out j hj).1
           have hbw : Below (pb + 1) w8 (w'.setCell ⟨b, 7, none⟩ (.slice va (nk + 1) vc)) := (Below.grown (((Below.refl (pb + 1) w8).alloc hplw (.cells #[.pointer (some ⟨y, 0, none⟩)] 51))) hg' (by simp; omega) (fun j hj => by have := hne j hj; omega)).setCell (by simp; omega) _; have hbB : But pb w.heap.size w (w'.setCell ⟨b, 7, none⟩ (.slice va (nk + 1) vc)) := ((HBB.out.alloc (by omega) (.cells #[.pointer (some ⟨y, 0, none⟩)] 51)).grown hg' (by simp; omega) (fun j hj => Or.inr (by have := hne j hj; omega))).setCell (Or.inr (by simp; omega)) _; have hp9 := HP8.out.below hbw (Nat.lt_succ_self pb); have hbe : Below w8.heap.size w8 (w8.alloc (.cells #[.pointer (some ⟨y, 0, none⟩)] 51)) := (Below.refl _ _).alloc (Nat.le_refl _) _; have hkr := KR.app (HIS.out.keep (Below.keeps hbe)) (HY5.out.keep (Below.keeps hbe)) (xs := HIS.out.choose.map ptr) ⟨HIS.out.choose, rfl, HIS.out.choose_spec.1, fun i b t hi ht => (HIS.out.choose_spec.2.2.2 i b t hi ht).keep (Below.keeps hbe)⟩ (HNK.out ▸ hown') hg' hv' (by simp; omega); have hkr9 := hkr.set (i := 7) (.slice va (nk + 1) vc) (tb := b) (fun h => h rfl); have hN9 := block_set (i := 7) hN'' (.slice va (nk + 1) vc); have hNA9 : RowR (fun k => w5.heap.size ≤ k) (w'.setCell ⟨b, 7, none⟩ (.slice va (nk + 1) vc)) vn (o.names.map Value.string) :=
            ((HNA5.out.keep (Below.keeps hbe)).keep (fun k hk hl => (Below.heap_setCell _ _ _ _ hk.2.1).trans (hg'.block k hl hk.2.2))).mono fun k hk _ => hk.1
           have hRx : R = .ok (.mk 12 ⟨#[]⟩ 0 0 o.names t.place (kidsOf ar o ++ [b6]), v7) := by
            rw [← HRR3.out]; show Except.ok (rootOf 12 t.place [b6] ar, v7) = _; rw [rootOf_is 12 t.place [b6] HO.out]
           subst hRx; have HFIN := Lib.hid ((KR.node (kind := 12) (int := 0) (text := ⟨#[]⟩) (flt := 0) (place := t.place) hkr9 hN9 hNA9 hblo).mono (q := fun k => w.heap.size ≤ k) (fun k hk _ => by omega)); have HP9 := Lib.hid hp9; have HB9 := Lib.hid hbB; clear hbw hbB hp9 hkr hkr9 hN9 hNA9 hown' hg' hv' c7' f7' hN'' hbe hne
           go_wp2_with fail; go_ret; exact ⟨⟨b, rfl, HFIN.out⟩, HP9.out, HB9.out⟩
    | false =>
      have HIlet := Lib.hid hlet; cases hwith : isT ⟨#[119, 105, 116, 104]⟩ t with
      | true =>
        have HIwith := Lib.hid hwith; have HQ4 := Lib.hid ((show isP ⟨#[108, 101, 116]⟩ (t :: us) = false from HIlet.out) ▸ is_any ⟨#[108, 101, 116]⟩ HP3.out)
        go_wp2_with fail; refine HQ4.out.mono ?_; rintro e w4 ⟨rfl, hb4⟩; have hz4 := hb4.size; have HP4 := Lib.hid (HP3.out.below hb4 HP3.out.lt); have HB4 := Lib.hid (HB3.out.trans (hb4.mono hzz3)); have hzz4 := HB4.out.size; have HT4 := Lib.hid (block_below HT3.out hb4); clear hb4; have HKI := Lib.hid (isT_kind HIwith.out); have hta : (t.text.toList == ([97, 115, 115, 101, 114, 116] : List UInt8)) = false := by
         have h1 := isT_text HIwith.out; rw [h1, Lib.toList_data]; rfl
        have HRT := Lib.hid (show twoS L 13 t.place (L.top us) = R by
         have := HRf.out; rw [hlet, hwith] at this; exact this)
        clear HRf hlet hwith; have HQX := Lib.hid ((show isP ⟨#[119, 105, 116, 104]⟩ (t :: us) = true from HIwith.out) ▸ is_any ⟨#[119, 105, 116, 104]⟩ HP4.out)
        go_wp2_with fail; refine HQX.out.mono ?_; rintro e x1 ⟨rfl, hx1⟩; have hxz1 := hx1.size; have hxp1 := HP4.out.below hx1 HP4.out.lt
        go_wp2_with fail; refine (take_any hxp1 HKI.out).mono ?_; rintro e x2 ⟨rfl, hxp2, hx2⟩; have hxz2 := hx2.size; have hb13 := (But.of (pb := pb) hx1).andThen hx2 hxz1; have HT2 := Lib.hid (hb13.get (block_lt HT4.out) hzp HT4.out); have HBX := Lib.hid ((But.of (pb := pb) HB4.out).andThen hb13 hzz4); have hzzX := HBX.out.size; obtain ⟨R1, hR1⟩ : ∃ R, L.top us = R := ⟨_, rfl⟩; have HEX := Lib.hid (hR1 ▸ HE.out x2 us hxp2); have hR2 := HRT.out; rw [hR1] at hR2; have HR2 := Lib.hid hR2; clear hx1 hxp1 hx2 hxp2 hb13 hR1 hR2 HRT
        go_wp2_with fail; refine HEX.out.mono ?_; intro e x3 h3; cases R1 with
        | error er =>
          have hRx : R = .error er := by rw [← HR2.out]; rfl
          subst hRx; obtain ⟨rfl, hb3⟩ := h3; exact ⟨rfl, rfl, HBX.out.andThen hb3 (by omega)⟩
        | ok r1 =>
          obtain ⟨a, us3⟩ := r1; obtain ⟨⟨xa, rfl, hta3⟩, hp3, hb3⟩ := h3; unfold ptr; have hxz3 := hb3.size; obtain ⟨RS, hRS⟩ : ∃ R, needP ⟨#[59]⟩ us3 = R := ⟨_, rfl⟩; have HND := Lib.hid (hRS ▸ need_any ⟨#[59]⟩ hp3); have HR3 := Lib.hid (show twoQ L 13 t.place a RS = R by rw [← HR2.out, ← hRS]; rfl); have HTA := Lib.hid (hta3.mono (q := fun k => w.heap.size ≤ k) (fun k hk _ => by omega)); have HB3x := Lib.hid (HBX.out.andThen hb3 (by omega)); have HT3x := Lib.hid (hb3.get (block_lt HT2.out) hzp HT2.out); clear hRS hta3 hp3 hb3 HR2 HEX
          go_wp2_with fail; cases RS with
          | error er =>
            have hRx : R = .error er := by rw [← HR3.out]; rfl
            subst hRx; refine HND.out.mono ?_; rintro e x4 ⟨rfl, hb4⟩; exact ⟨rfl, rfl, HB3x.out.andThen hb4 (by omega)⟩
          | ok us4 =>
            refine HND.out.mono ?_; rintro e x4 ⟨rfl, hp4, hb4⟩; have hxz4 := hb4.size; have ht4 := hb4.get (block_lt HT3x.out) hzp HT3x.out; have hz4 := block_lt ht4; have HKS := Lib.hid (show ∀ w', But pb (z + 1) x4 w' → (w'.cell? ⟨z, 4, none⟩ = some (.int .i64 t.place)) from fun w' hb => block_cell (i := 4) (hb.get (Nat.lt_succ_self z) hzp ht4) rfl); have HB4 := Lib.hid (HB3x.out.andThen hb4 (by omega)); have HP4 := Lib.hid hp4.drew; have HA4 := Lib.hid (HTA.out.keepAt hb4 (Nat.le_refl _) (fun k hk => by omega)); obtain ⟨R4, hR4⟩ : ∃ R, L.top us4 = R := ⟨_, rfl⟩; have HRL := Lib.hid hR4; have HRR := Lib.hid (show twoR 13 t.place a R4 = R by rw [← HR3.out, ← hR4]; rfl); clear hb4 hp4 ht4 hR4 HR3 HND
            go_wp2_with fail; refine wp_region_held_drew (S := fun w' => w'.cell? ⟨z, 4, none⟩ = some (.int .i64 t.place)) (by kernel_rfl) (HKS.out _ (But.refl _ _ _).drew) (fun hHeld => ?_); refine wpAnyH_take (i := 0) (v := ?_) rfl (by kernel_rfl) (by kernel_rfl) (by kernel_rfl) (fun _ _ _ h => h) (Or.inl ⟨by rfl, (by intro w hSw; (try dsimp only at hSw); go_simp; (with_reducible rfl))⟩) (by assumption) ?_
            try simp only [Act.put, List.setIfInBounds_toArray, List.set_cons_succ, List.set_cons_zero]
            refine wpAnyH_take (i := 1) (v := ?_) rfl (by kernel_rfl) (by kernel_rfl) (by kernel_rfl) (fun _ _ _ h => h) (Or.inl ⟨by rfl, (by intro w hSw; (try dsimp only at hSw); go_simp; (with_reducible rfl))⟩) (by assumption) ?_
            try simp only [Act.put, List.setIfInBounds_toArray, List.set_cons_succ, List.set_cons_zero]
            refine wpAnyH_take (i := 2) (v := ?_) rfl (by kernel_rfl) (by kernel_rfl) (by kernel_rfl) (fun _ _ _ h => h) (Or.inl ⟨by rfl, (by intro w hSw; (try dsimp only at hSw); go_simp; (with_reducible rfl))⟩) (by assumption) ?_
            try simp only [Act.put, List.setIfInBounds_toArray, List.set_cons_succ, List.set_cons_zero]
            refine wpAnyH_take (i := 3) (v := ?_) rfl (by kernel_rfl) (by kernel_rfl) (by kernel_rfl) (fun _ _ _ h => h) (Or.inl ⟨by rfl, (by intro w hSw; (try dsimp only at hSw); go_simp; (with_reducible rfl))⟩) (by assumption) ?_
            try simp only [Act.put, List.setIfInBounds_toArray, List.set_cons_succ, List.set_cons_zero]
            refine wpAnyH_take (i := 4) (v := ?_) rfl (by kernel_rfl) (by kernel_rfl) (by kernel_rfl) (fun _ _ _ h => h) (Or.inl ⟨by rfl, (by intro w hSw; (try dsimp only at hSw); go_simp; (with_reducible rfl))⟩) (by assumption) ?_
            try simp only [Act.put, List.setIfInBounds_toArray, List.set_cons_succ, List.set_cons_zero]
            refine wpAnyH_take (i := 5) (v := ?_) rfl (by kernel_rfl) (by kernel_rfl) (by kernel_rfl) (fun _ _ _ h => h) (Or.inl ⟨by rfl, (by intro w hSw; (try dsimp only at hSw); go_simp; (with_reducible rfl))⟩) (by assumption) ?_
            try simp only [Act.put, List.setIfInBounds_toArray, List.set_cons_succ, List.set_cons_zero]
            refine wpAnyH_ready (rs := [6]) (by kernel_rfl) (by simp) ?_; refine AllReadyH.cons (o := _) rfl (fun K hK => ?_) AllReadyH.nil; go_simp
            refine (HE.out _ _ HP4.out).mono ?_; intro e x5 h5; rw [HRL.out] at h5; cases R4 with
            | error er =>
              obtain ⟨rfl, hb5⟩ := h5; have hRx : R = .error er := by rw [← HRR.out]; rfl
              subst hRx; exact ⟨rfl, rfl, HB4.out.drew.andThen hb5 (by simp; omega)⟩
            | ok r4 =>
              obtain ⟨a5, v5⟩ := r4; obtain ⟨⟨y, rfl, hy5⟩, hp5, hb5⟩ := h5; have hRx : R = .ok (.mk 13 ⟨#[]⟩ 0 0 [] t.place [a, a5], v5) := by rw [← HRR.out]; rfl
              subst hRx; have HK5 : Hid (But pb (z + 1) x4 x5) := (But.refl pb (z + 1) x4).drew.andThen hb5 (by simp; omega); have HX5 := Lib.hid (HA4.out.keepAt ((But.refl pb x4.heap.size x4).drew.andThen hb5 (by simp)) (Nat.le_refl _) (fun k hk => by omega)); have HY5 : Hid (TR (fun k => w.heap.size ≤ k) x5 y a5) := hy5.mono (fun k hk _ => by simp at hk; omega); have HBA := Lib.hid (HB4.out.drew.andThen hb5 (by simp; omega)); have hzA := HBA.out.size; have HP5 := Lib.hid hp5; have hzB : z < x5.heap.size := by have := hb5.size; simp at this; omega
              clear hy5 hp5 hb5; unfold ptr; refine hK.out _ _ (HKS.out _ HK5.out) (fun hHeld => ?_); clear hK K
              try simp only [Act.put, List.setIfInBounds_toArray, List.set_cons_succ, List.set_cons_zero]
              refine wpAnyH_ready (rs := [7]) (by kernel_rfl) (by simp) ?_; refine AllReadyH.cons (o := _) rfl (fun K hK => ?_) AllReadyH.nil; go_simp
              refine hK.out _ _ (HKS.out _ (HK5.out.alloc (by omega) _)) (fun hHeld => ?_); clear hK K
              try simp only [Act.put, List.setIfInBounds_toArray, List.set_cons_succ, List.set_cons_zero]
              refine wpAnyH_take (i := 8) (v := ?_) rfl (by kernel_rfl) (by kernel_rfl) (by kernel_rfl) (fun _ _ _ h => h) (Or.inl ⟨by rfl, (by intro w hSw; (try dsimp only at hSw); go_simp; (with_reducible rfl))⟩) (by assumption) ?_
              try simp only [Act.put, List.setIfInBounds_toArray, List.set_cons_succ, List.set_cons_zero]
              refine wpAnyH_ready (rs := [9]) (by kernel_rfl) (by simp) ?_; refine AllReadyH.cons (o := _) rfl (fun K hK => ?_) AllReadyH.nil; go_simp
              refine hK.out _ _ (HKS.out _ ((HK5.out.alloc (by omega) _).alloc (by simp; omega) _)) (fun hHeld => ?_); clear hK K
              try simp only [Act.put, List.setIfInBounds_toArray, List.set_cons_succ, List.set_cons_zero]
              refine wpAnyH_take (i := 10) (v := ?_) rfl (by kernel_rfl) (by kernel_rfl) (by kernel_rfl) (fun _ _ _ h => h) (Or.inl ⟨by rfl, (by intro w hSw; (try dsimp only at hSw); go_simp; (with_reducible rfl))⟩) (by assumption) ?_
              try simp only [Act.put, List.setIfInBounds_toArray, List.set_cons_succ, List.set_cons_zero]
              refine wpAnyH_done (by kernel_rfl) ?_ _
              try simp only [List.getElem_toArray, List.getElem_cons_succ, List.getElem_cons_zero, Act.put, List.setIfInBounds_toArray]
              repeat (first | simp only [List.set_cons_succ] | simp only [List.set_cons_zero])
              go_wp2_with fail; go_ret; exact ⟨⟨_, rfl, node_two HX5.out HY5.out (fun k hk => by omega)⟩, HP5.out.below (below_two _ _ _) HP5.out.lt, HBA.out.then (below_two _ _ _) hzA⟩
      | false =>
        have HIwith := Lib.hid hwith; cases hass : isT ⟨#[97, 115, 115, 101, 114, 116]⟩ t with
        | true =>
          have HIassert := Lib.hid hass; have HQ4 := Lib.hid ((show isP ⟨#[108, 101, 116]⟩ (t :: us) = false from HIlet.out) ▸ is_any ⟨#[108, 101, 116]⟩ HP3.out)
          go_wp2_with fail; refine HQ4.out.mono ?_; rintro e w4 ⟨rfl, hb4⟩; have hz4 := hb4.size; have HP4 := Lib.hid (HP3.out.below hb4 HP3.out.lt); have HB4 := Lib.hid (HB3.out.trans (hb4.mono hzz3)); have hzz4 := HB4.out.size; have HT4 := Lib.hid (block_below HT3.out hb4); clear hb4; have HQ5 := Lib.hid ((show isP ⟨#[119, 105, 116, 104]⟩ (t :: us) = false from HIwith.out) ▸ is_any ⟨#[119, 105, 116, 104]⟩ HP4.out)
          go_wp2_with fail; refine HQ5.out.mono ?_; rintro e w5 ⟨rfl, hb5⟩; have hz5 := hb5.size; have HP5 := Lib.hid (HP4.out.below hb5 HP4.out.lt); have HB5 := Lib.hid (HB4.out.trans (hb5.mono hzz4)); have hzz5 := HB5.out.size; have HT5 := Lib.hid (block_below HT4.out hb5); clear hb5; have HKI := Lib.hid (isT_kind HIassert.out); have hta : (t.text.toList == ([97, 115, 115, 101, 114, 116] : List UInt8)) = true := by
           have h1 := isT_text HIassert.out; rw [h1, Lib.toList_data]; rfl
          have HRT := Lib.hid (show twoS L 15 t.place (L.top us) = R by
           have := HRf.out; rw [hlet, hwith, hass] at this; exact this)
          clear HRf hlet hwith hass; have HQX := Lib.hid ((show isP ⟨#[97, 115, 115, 101, 114, 116]⟩ (t :: us) = true from HIassert.out) ▸ is_any ⟨#[97, 115, 115, 101, 114, 116]⟩ HP5.out)
          go_wp2_with fail; refine HQX.out.mono ?_; rintro e x1 ⟨rfl, hx1⟩; have hxz1 := hx1.size; have hxp1 := HP5.out.below hx1 HP5.out.lt
          go_wp2_with fail; refine (take_any hxp1 HKI.out).mono ?_; rintro e x2 ⟨rfl, hxp2, hx2⟩; have hxz2 := hx2.size; have hb13 := (But.of (pb := pb) hx1).andThen hx2 hxz1; have HT2 := Lib.hid (hb13.get (block_lt HT5.out) hzp HT5.out); have HBX := Lib.hid ((But.of (pb := pb) HB5.out).andThen hb13 hzz5); have hzzX := HBX.out.size; obtain ⟨R1, hR1⟩ : ∃ R, L.top us = R := ⟨_, rfl⟩; have HEX := Lib.hid (hR1 ▸ HE.out x2 us hxp2); have hR2 := HRT.out; rw [hR1] at hR2; have HR2 := Lib.hid hR2; clear hx1 hxp1 hx2 hxp2 hb13 hR1 hR2 HRT
          go_wp2_with fail; refine HEX.out.mono ?_; intro e x3 h3; cases R1 with
          | error er =>
            have hRx : R = .error er := by rw [← HR2.out]; rfl
            subst hRx; obtain ⟨rfl, hb3⟩ := h3; exact ⟨rfl, rfl, HBX.out.andThen hb3 (by omega)⟩
          | ok r1 =>
            obtain ⟨a, us3⟩ := r1; obtain ⟨⟨xa, rfl, hta3⟩, hp3, hb3⟩ := h3; unfold ptr; have hxz3 := hb3.size; obtain ⟨RS, hRS⟩ : ∃ R, needP ⟨#[59]⟩ us3 = R := ⟨_, rfl⟩; have HND := Lib.hid (hRS ▸ need_any ⟨#[59]⟩ hp3); have HR3 := Lib.hid (show twoQ L 15 t.place a RS = R by rw [← HR2.out, ← hRS]; rfl); have HTA := Lib.hid (hta3.mono (q := fun k => w.heap.size ≤ k) (fun k hk _ => by omega)); have HB3x := Lib.hid (HBX.out.andThen hb3 (by omega)); have HT3x := Lib.hid (hb3.get (block_lt HT2.out) hzp HT2.out); clear hRS hta3 hp3 hb3 HR2 HEX
            go_wp2_with fail; cases RS with
            | error er =>
              have hRx : R = .error er := by rw [← HR3.out]; rfl
              subst hRx; refine HND.out.mono ?_; rintro e x4 ⟨rfl, hb4⟩; exact ⟨rfl, rfl, HB3x.out.andThen hb4 (by omega)⟩
            | ok us4 =>
              refine HND.out.mono ?_; rintro e x4 ⟨rfl, hp4, hb4⟩; have hxz4 := hb4.size; have ht4 := hb4.get (block_lt HT3x.out) hzp HT3x.out; have hz4 := block_lt ht4; have HKS := Lib.hid (show ∀ w', But pb (z + 1) x4 w' → (w'.cell? ⟨z, 4, none⟩ = some (.int .i64 t.place)) from fun w' hb => block_cell (i := 4) (hb.get (Nat.lt_succ_self z) hzp ht4) rfl); have HB4 := Lib.hid (HB3x.out.andThen hb4 (by omega)); have HP4 := Lib.hid hp4.drew; have HA4 := Lib.hid (HTA.out.keepAt hb4 (Nat.le_refl _) (fun k hk => by omega)); obtain ⟨R4, hR4⟩ : ∃ R, L.top us4 = R := ⟨_, rfl⟩; have HRL := Lib.hid hR4; have HRR := Lib.hid (show twoR 15 t.place a R4 = R by rw [← HR3.out, ← hR4]; rfl); clear hb4 hp4 ht4 hR4 HR3 HND
              go_wp2_with fail; refine wp_region_held_drew (S := fun w' => w'.cell? ⟨z, 4, none⟩ = some (.int .i64 t.place)) (by kernel_rfl) (HKS.out _ (But.refl _ _ _).drew) (fun hHeld => ?_); refine wpAnyH_take (i := 0) (v := ?_) rfl (by kernel_rfl) (by kernel_rfl) (by kernel_rfl) (fun _ _ _ h => h) (Or.inl ⟨by rfl, (by intro w hSw; (try dsimp only at hSw); go_simp; (with_reducible rfl))⟩) (by assumption) ?_
              try simp only [Act.put, List.setIfInBounds_toArray, List.set_cons_succ, List.set_cons_zero]
              refine wpAnyH_take (i := 1) (v := ?_) rfl (by kernel_rfl) (by kernel_rfl) (by kernel_rfl) (fun _ _ _ h => h) (Or.inl ⟨by rfl, (by intro w hSw; (try dsimp only at hSw); go_simp; (with_reducible rfl))⟩) (by assumption) ?_
              try simp only [Act.put, List.setIfInBounds_toArray, List.set_cons_succ, List.set_cons_zero]
              refine wpAnyH_take (i := 2) (v := ?_) rfl (by kernel_rfl) (by kernel_rfl) (by kernel_rfl) (fun _ _ _ h => h) (Or.inl ⟨by rfl, (by intro w hSw; (try dsimp only at hSw); go_simp; (with_reducible rfl))⟩) (by assumption) ?_
              try simp only [Act.put, List.setIfInBounds_toArray, List.set_cons_succ, List.set_cons_zero]
              refine wpAnyH_take (i := 3) (v := ?_) rfl (by kernel_rfl) (by kernel_rfl) (by kernel_rfl) (fun _ _ _ h => h) (Or.inl ⟨by rfl, (by intro w hSw; (try dsimp only at hSw); go_simp; (with_reducible rfl))⟩) (by assumption) ?_
              try simp only [Act.put, List.setIfInBounds_toArray, List.set_cons_succ, List.set_cons_zero]
              refine wpAnyH_take (i := 4) (v := ?_) rfl (by kernel_rfl) (by kernel_rfl) (by kernel_rfl) (fun _ _ _ h => h) (Or.inl ⟨by rfl, (by intro w hSw; (try dsimp only at hSw); go_simp; (with_reducible rfl))⟩) (by assumption) ?_
              try simp only [Act.put, List.setIfInBounds_toArray, List.set_cons_succ, List.set_cons_zero]
              refine wpAnyH_take (i := 5) (v := ?_) rfl (by kernel_rfl) (by kernel_rfl) (by kernel_rfl) (fun _ _ _ h => h) (Or.inl ⟨by rfl, (by intro w hSw; (try dsimp only at hSw); go_simp; (with_reducible rfl))⟩) (by assumption) ?_
              try simp only [Act.put, List.setIfInBounds_toArray, List.set_cons_succ, List.set_cons_zero]
              refine wpAnyH_ready (rs := [6]) (by kernel_rfl) (by simp) ?_; refine AllReadyH.cons (o := _) rfl (fun K hK => ?_) AllReadyH.nil; go_simp
              refine (HE.out _ _ HP4.out).mono ?_; intro e x5 h5; rw [HRL.out] at h5; cases R4 with
              | error er =>
                obtain ⟨rfl, hb5⟩ := h5; have hRx : R = .error er := by rw [← HRR.out]; rfl
                subst hRx; exact ⟨rfl, rfl, HB4.out.drew.andThen hb5 (by simp; omega)⟩
              | ok r4 =>
                obtain ⟨a5, v5⟩ := r4; obtain ⟨⟨y, rfl, hy5⟩, hp5, hb5⟩ := h5; have hRx : R = .ok (.mk 15 ⟨#[]⟩ 0 0 [] t.place [a, a5], v5) := by rw [← HRR.out]; rfl
                subst hRx; have HK5 : Hid (But pb (z + 1) x4 x5) := (But.refl pb (z + 1) x4).drew.andThen hb5 (by simp; omega); have HX5 := Lib.hid (HA4.out.keepAt ((But.refl pb x4.heap.size x4).drew.andThen hb5 (by simp)) (Nat.le_refl _) (fun k hk => by omega)); have HY5 : Hid (TR (fun k => w.heap.size ≤ k) x5 y a5) := hy5.mono (fun k hk _ => by simp at hk; omega); have HBA := Lib.hid (HB4.out.drew.andThen hb5 (by simp; omega)); have hzA := HBA.out.size; have HP5 := Lib.hid hp5; have hzB : z < x5.heap.size := by have := hb5.size; simp at this; omega
                clear hy5 hp5 hb5; unfold ptr; refine hK.out _ _ (HKS.out _ HK5.out) (fun hHeld => ?_); clear hK K
                try simp only [Act.put, List.setIfInBounds_toArray, List.set_cons_succ, List.set_cons_zero]
                refine wpAnyH_ready (rs := [7]) (by kernel_rfl) (by simp) ?_; refine AllReadyH.cons (o := _) rfl (fun K hK => ?_) AllReadyH.nil; go_simp
                refine hK.out _ _ (HKS.out _ (HK5.out.alloc (by omega) _)) (fun hHeld => ?_); clear hK K
                try simp only [Act.put, List.setIfInBounds_toArray, List.set_cons_succ, List.set_cons_zero]
                refine wpAnyH_take (i := 8) (v := ?_) rfl (by kernel_rfl) (by kernel_rfl) (by kernel_rfl) (fun _ _ _ h => h) (Or.inl ⟨by rfl, (by intro w hSw; (try dsimp only at hSw); go_simp; (with_reducible rfl))⟩) (by assumption) ?_
                try simp only [Act.put, List.setIfInBounds_toArray, List.set_cons_succ, List.set_cons_zero]
                refine wpAnyH_ready (rs := [9]) (by kernel_rfl) (by simp) ?_; refine AllReadyH.cons (o := _) rfl (fun K hK => ?_) AllReadyH.nil; go_simp
                refine hK.out _ _ (HKS.out _ ((HK5.out.alloc (by omega) _).alloc (by simp; omega) _)) (fun hHeld => ?_); clear hK K
                try simp only [Act.put, List.setIfInBounds_toArray, List.set_cons_succ, List.set_cons_zero]
                refine wpAnyH_take (i := 10) (v := ?_) rfl (by kernel_rfl) (by kernel_rfl) (by kernel_rfl) (fun _ _ _ h => h) (Or.inl ⟨by rfl, (by intro w hSw; (try dsimp only at hSw); go_simp; (with_reducible rfl))⟩) (by assumption) ?_
                try simp only [Act.put, List.setIfInBounds_toArray, List.set_cons_succ, List.set_cons_zero]
                refine wpAnyH_done (by kernel_rfl) ?_ _
                try simp only [List.getElem_toArray, List.getElem_cons_succ, List.getElem_cons_zero, Act.put, List.setIfInBounds_toArray]
                repeat (first | simp only [List.set_cons_succ] | simp only [List.set_cons_zero])
                go_wp2_with fail; go_ret; exact ⟨⟨_, rfl, node_two HX5.out HY5.out (fun k hk => by omega)⟩, HP5.out.below (below_two _ _ _) HP5.out.lt, HBA.out.then (below_two _ _ _) hzA⟩
        | false =>
          have HIassert := Lib.hid hass; cases hif : isT ⟨#[105, 102]⟩ t with
          | true =>
            obtain ⟨RI, hRI⟩ : ∃ R, ifL L [⟨#[105, 102]⟩, ⟨#[116, 104, 101, 110]⟩, ⟨#[101, 108, 115, 101]⟩] [] (t :: us) = R := ⟨_, rfl⟩; have HRF := Lib.hid (show ifR t.place RI = R by
             have := HRf.out; rw [hlet, hwith, hass, hif, hRI] at this; exact this)
            have HIif := Lib.hid hif; have HRI := Lib.hid hRI; clear HRf hlet hwith hass hif hRI; have HQ4 := Lib.hid ((show isP ⟨#[108, 101, 116]⟩ (t :: us) = false from HIlet.out) ▸ is_any ⟨#[108, 101, 116]⟩ HP3.out)
            go_wp2_with fail; refine HQ4.out.mono ?_; rintro e w4 ⟨rfl, hb4⟩; have hz4 := hb4.size; have HP4 := Lib.hid (HP3.out.below hb4 HP3.out.lt); have HB4 := Lib.hid (HB3.out.trans (hb4.mono hzz3)); have hzz4 := HB4.out.size; have HT4 := Lib.hid (block_below HT3.out hb4); clear hb4; have HQ5 := Lib.hid ((show isP ⟨#[119, 105, 116, 104]⟩ (t :: us) = false from HIwith.out) ▸ is_any ⟨#[119, 105, 116, 104]⟩ HP4.out)
            go_wp2_with fail; refine HQ5.out.mono ?_; rintro e w5 ⟨rfl, hb5⟩; have hz5 := hb5.size; have HP5 := Lib.hid (HP4.out.below hb5 HP4.out.lt); have HB5 := Lib.hid (HB4.out.trans (hb5.mono hzz4)); have hzz5 := HB5.out.size; have HT5 := Lib.hid (block_below HT4.out hb5); clear hb5; have HQ6 := Lib.hid ((show isP ⟨#[97, 115, 115, 101, 114, 116]⟩ (t :: us) = false from HIassert.out) ▸ is_any ⟨#[97, 115, 115, 101, 114, 116]⟩ HP5.out)
            go_wp2_with fail; refine HQ6.out.mono ?_; rintro e w6 ⟨rfl, hb6⟩; have hz6 := hb6.size; have HP6 := Lib.hid (HP5.out.below hb6 HP5.out.lt); have HB6 := Lib.hid (HB5.out.trans (hb6.mono hzz5)); have hzz6 := HB6.out.size; have HT6 := Lib.hid (block_below HT5.out hb6); clear hb6; have HQX := Lib.hid ((show isP ⟨#[105, 102]⟩ (t :: us) = true from HIif.out) ▸ is_any ⟨#[105, 102]⟩ HP6.out)
            go_wp2_with fail; refine HQX.out.mono ?_; rintro e w7 ⟨rfl, hb7⟩; have hz7 := hb7.size; have hp7 := HP6.out.below hb7 HP6.out.lt; have hbb7 := But.of (pb := pb) (HB6.out.trans (hb7.mono hzz6)); have ht7 := block_below HT6.out hb7; clear hb7
            go_wp2_with fail; go_loopw [7, 9, 104] (fun v7 _ v104 wr => ∃ (j : Nat) (jz : Int) (ks : List T) (us' : List Tok), j ≤ 3 ∧ jz = (j : Int) ∧ v104 = .int .i64 jz ∧ ks.length = j ∧ KR (fun k => k ≠ z) w.heap.size wr v7 ks ∧ PS wr pb g n us' ∧ But pb w.heap.size w wr ∧ wr.heap[z]? = some (.cells #[.int .i64 t.kind, .string t.text, .int .i64 t.num, .float .f64 t.bits, .int .i64 t.place] 54 (0, 0)) ∧ Hid (ifL L ([⟨#[105, 102]⟩, ⟨#[116, 104, 101, 110]⟩, ⟨#[101, 108, 115, 101]⟩].drop j) ks us' = RI)) (fun _ _ v104 _ => 3 - (intOf v104).toNat)
            case atStart => exact ⟨0, 0, [], t :: us, by omega, rfl, rfl, rfl, KR.nil _ _ _, hp7, hbb7, ht7, HRI.out⟩
            case round =>
             clear hp7 hbb7 ht7 HRI; obtain ⟨j, jz, ks, us', hj, hjz, rfl, hkl, hkr, hp, hb, ht, HRJ⟩ := hrel; obtain ⟨oa, oc, hsh⟩ := hkr.shape; subst hsh; have HKR := Lib.hid hkr; have HPR := Lib.hid hp; have HBR := Lib.hid hb; have HTR := Lib.hid ht; have hzr := hb.size; have hplr := hp.lt; rw [hkl] at HKR; rw [hkl]; have HKL := Lib.hid hkl; clear hkr hp hb ht hkl; rcases (show j = 0 ∨ j = 1 ∨ j = 2 ∨ j = 3 by omega) with rfl | rfl | rfl | rfl
             · obtain rfl : jz = 0 := hjz
               obtain ⟨RS, hRS⟩ : ∃ R, needP ⟨#[105, 102]⟩ us' = R := ⟨_, rfl⟩; have HND := Lib.hid (hRS ▸ need_any ⟨#[105, 102]⟩ HPR.out); have HR2 := Lib.hid (show ifB L [⟨#[116, 104, 101, 110]⟩, ⟨#[101, 108, 115, 101]⟩] ks RS = RI by
                rw [← hRS, ← ifL_go]; exact HRJ.out)
               have hix := ix0 (.string ⟨#[105, 102]⟩) (.string ⟨#[116, 104, 101, 110]⟩) (.string ⟨#[101, 108, 115, 101]⟩); clear hRS HRJ
               go_wp2_with fail; clear hix; cases RS with
               | error er =>
                 have hRx : R = .error er := by rw [← HRF.out, ← HR2.out]; rfl
                 subst hRx; refine HND.out.mono ?_; rintro e x1 ⟨rfl, hx1⟩; exact ⟨rfl, rfl, HBR.out.andThen hx1 (by omega)⟩
               | ok us1 =>
                 refine HND.out.mono ?_; rintro e x1 ⟨rfl, hp1, hx1⟩; have hxz1 := hx1.size; obtain ⟨R1, hR1⟩ : ∃ R, L.top us1 = R := ⟨_, rfl⟩; have HEX := Lib.hid (hR1 ▸ HE.out x1 us1 hp1); have HR3 := Lib.hid (show ifA L [⟨#[116, 104, 101, 110]⟩, ⟨#[101, 108, 115, 101]⟩] ks R1 = RI by rw [← HR2.out, ← hR1]; rfl); have HK1 := Lib.hid (HKR.out.but hx1 (Nat.le_refl _) hpl); have HB1 := Lib.hid (HBR.out.andThen hx1 (by omega)); have HT1 := Lib.hid (hx1.get (block_lt HTR.out) hzp HTR.out); have hzlx := block_lt HT1.out; clear hR1 hp1 hx1 HR2
                 go_wp2_with fail; cases R1 with
                 | error er =>
                   have hRx : R = .error er := by rw [← HRF.out, ← HR3.out]; rfl
                   subst hRx; refine HEX.out.mono ?_; rintro e x2 ⟨rfl, hx2⟩; exact ⟨rfl, rfl, HB1.out.andThen hx2 (by omega)⟩
                 | ok r1 =>
                   obtain ⟨a, us2⟩ := r1; refine HEX.out.mono ?_; rintro e x2 ⟨⟨y, rfl, hy⟩, hp2, hx2⟩; unfold ptr; have hxz2 := hx2.size; have hk2 := HK1.out.but hx2 (Nat.le_refl _) hpl; have hlo2 : ∀ gg, (Value.slice oa 0 oc).ownBlock = some gg → w.heap.size ≤ gg ∧ gg < x1.heap.size := fun gg hgg => by
                    obtain ⟨is, _, h2, _⟩ := HK1.out; exact World.ownsRow.lt h2 gg hgg
                   have HY := Lib.hid (hy.mono (q := fun k => k ≠ z ∧ w.heap.size ≤ k ∧ some k ≠ (Value.slice oa 0 oc).ownBlock) (fun k hk _ => ⟨by omega, by omega, fun e => by have := (hlo2 k e.symm).2; omega⟩)); have HZR := Lib.hid (show ∀ gg, (Value.slice oa 0 oc).ownBlock = some gg → gg ≠ z from fun gg hgg => by
                    obtain ⟨_, _, _, h3, _⟩ := hk2; exact h3 gg hgg)
                   have HK2 := Lib.hid hk2; obtain ⟨is2, hil2, how2, hoq2, hot2⟩ := hk2; rw [HKL.out] at how2; have HOW := Lib.hid how2; have HIL := Lib.hid hil2; have HOT := Lib.hid hot2; have HLO := Lib.hid hlo2; have HB2 := Lib.hid (HB1.out.andThen hx2 (by omega)); have HT2 := Lib.hid (hx2.get (block_lt HT1.out) hzp HT1.out); have HP2 := Lib.hid hp2; have hpl2 := hp2.lt; have hz2l := block_lt HT2.out; clear hy hil2 how2 hoq2 hot2 hlo2 hp2 hx2
                   go_wp2_with (
                    at_builtin
                    refine append_ptr rfl _ _ rfl w.heap.size (.slice oa 0 oc) 0 (is2.map ptr) (by rfl) (own_below HOW.out ((Below.refl _ _).alloc (Nat.le_refl _) _)) _ _ y (by rfl) (block_new _ _ (by rfl)) (by omega) (by simp; omega) ?_; intro v' w' hown' hg' hv')
                   have hne : ∀ jj, (Value.slice oa 0 oc).ownBlock = some jj → w.heap.size ≤ jj := fun jj hjj => (HLO.out jj hjj).1
                   have hbe : Below x2.heap.size x2 (x2.alloc (.cells #[.pointer (some ⟨y, 0, none⟩)] 51)) := (Below.refl _ _).alloc (Nat.le_refl _) _; have hbw : Below (pb + 1) x2 w' := Below.grown ((Below.refl (pb + 1) x2).alloc hpl2 (.cells #[.pointer (some ⟨y, 0, none⟩)] 51)) hg' (by simp; omega) (fun jj hjj => by have := hne jj hjj; omega); have hbB : But pb w.heap.size w w' := (HB2.out.alloc (by omega) (.cells #[.pointer (some ⟨y, 0, none⟩)] 51)).grown hg' (by simp; omega) (fun jj hjj => Or.inr (hne jj hjj)); have hp9 := HP2.out.below hbw (Nat.lt_succ_self pb); have hkr := KR.app (HK2.out.keep (Below.keeps hbe)) (HY.out.keep (Below.keeps hbe)) (xs := is2.map ptr) ⟨is2, rfl, HIL.out, fun i b t hi ht => (HOT.out i b t hi ht).keep (Below.keeps hbe)⟩ (by rw [HKL.out]; exact hown') hg' hv' (by simp; omega); have hzne : some z ≠ (Value.slice oa 0 oc).ownBlock := fun e => HZR.out z e.symm rfl
                   have ht9 := (hg'.block z (by simp; omega) hzne).trans (block_alloc HT2.out _); refine ⟨⟨0 + 1, 0 + 1, ks ++ [a], us2, by omega, rfl, rfl, by rw [List.length_append, HKL.out]; rfl, hkr, hp9, hbB, ht9, HR3.out⟩, ?_⟩; simp [intOf]
             · obtain rfl : jz = 1 := hjz
               obtain ⟨RS, hRS⟩ : ∃ R, needP ⟨#[116, 104, 101, 110]⟩ us' = R := ⟨_, rfl⟩; have HND := Lib.hid (hRS ▸ need_any ⟨#[116, 104, 101, 110]⟩ HPR.out); have HR2 := Lib.hid (show ifB L [⟨#[101, 108, 115, 101]⟩] ks RS = RI by
                rw [← hRS, ← ifL_go]; exact HRJ.out)
               have hix := ix1 (.string ⟨#[105, 102]⟩) (.string ⟨#[116, 104, 101, 110]⟩) (.string ⟨#[101, 108, 115, 101]⟩); clear hRS HRJ
               go_wp2_with fail; clear hix; cases RS with
               | error er =>
                 have hRx : R = .error er := by rw [← HRF.out, ← HR2.out]; rfl
                 subst hRx; refine HND.out.mono ?_; rintro e x1 ⟨rfl, hx1⟩; exact ⟨rfl, rfl, HBR.out.andThen hx1 (by omega)⟩
               | ok us1 =>
                 refine HND.out.mono ?_; rintro e x1 ⟨rfl, hp1, hx1⟩; have hxz1 := hx1.size; obtain ⟨R1, hR1⟩ : ∃ R, L.top us1 = R := ⟨_, rfl⟩; have HEX := Lib.hid (hR1 ▸ HE.out x1 us1 hp1); have HR3 := Lib.hid (show ifA L [⟨#[101, 108, 115, 101]⟩] ks R1 = RI by rw [← HR2.out, ← hR1]; rfl); have HK1 := Lib.hid (HKR.out.but hx1 (Nat.le_refl _) hpl); have HB1 := Lib.hid (HBR.out.andThen hx1 (by omega)); have HT1 := Lib.hid (hx1.get (block_lt HTR.out) hzp HTR.out); have hzlx := block_lt HT1.out; clear hR1 hp1 hx1 HR2
                 go_wp2_with fail; cases R1 with
                 | error er =>
                   have hRx : R = .error er := by rw [← HRF.out, ← HR3.out]; rfl
                   subst hRx; refine HEX.out.mono ?_; rintro e x2 ⟨rfl, hx2⟩; exact ⟨rfl, rfl, HB1.out.andThen hx2 (by omega)⟩
                 | ok r1 =>
                   obtain ⟨a, us2⟩ := r1; refine HEX.out.mono ?_; rintro e x2 ⟨⟨y, rfl, hy⟩, hp2, hx2⟩; unfold ptr; have hxz2 := hx2.size; have hk2 := HK1.out.but hx2 (Nat.le_refl _) hpl; have hlo2 : ∀ gg, (Value.slice oa 1 oc).ownBlock = some gg → w.heap.size ≤ gg ∧ gg < x1.heap.size := fun gg hgg => by
                    obtain ⟨is, _, h2, _⟩ := HK1.out; exact World.ownsRow.lt h2 gg hgg
                   have HY := Lib.hid (hy.mono (q := fun k => k ≠ z ∧ w.heap.size ≤ k ∧ some k ≠ (Value.slice oa 1 oc).ownBlock) (fun k hk _ => ⟨by omega, by omega, fun e => by have := (hlo2 k e.symm).2; omega⟩)); have HZR := Lib.hid (show ∀ gg, (Value.slice oa 1 oc).ownBlock = some gg → gg ≠ z from fun gg hgg => by
                    obtain ⟨_, _, _, h3, _⟩ := hk2; exact h3 gg hgg)
                   have HK2 := Lib.hid hk2; obtain ⟨is2, hil2, how2, hoq2, hot2⟩ := hk2; rw [HKL.out] at how2; have HOW := Lib.hid how2; have HIL := Lib.hid hil2; have HOT := Lib.hid hot2; have HLO := Lib.hid hlo2; have HB2 := Lib.hid (HB1.out.andThen hx2 (by omega)); have HT2 := Lib.hid (hx2.get (block_lt HT1.out) hzp HT1.out); have HP2 := Lib.hid hp2; have hpl2 := hp2.lt; have hz2l := block_lt HT2.out; clear hy hil2 how2 hoq2 hot2 hlo2 hp2 hx2
                   go_wp2_with (
                    at_builtin
                    refine append_ptr rfl _ _ rfl w.heap.size (.slice oa 1 oc) 1 (is2.map ptr) (by rfl) (own_below HOW.out ((Below.refl _ _).alloc (Nat.le_refl _) _)) _ _ y (by rfl) (block_new _ _ (by rfl)) (by omega) (by simp; omega) ?_; intro v' w' hown' hg' hv')
                   have hne : ∀ jj, (Value.slice oa 1 oc).ownBlock = some jj → w.heap.size ≤ jj := fun jj hjj => (HLO.out jj hjj).1
                   have hbe : Below x2.heap.size x2 (x2.alloc (.cells #[.pointer (some ⟨y, 0, none⟩)] 51)) := (Below.refl _ _).alloc (Nat.le_refl _) _; have hbw : Below (pb + 1) x2 w' := Below.grown ((Below.refl (pb + 1) x2).alloc hpl2 (.cells #[.pointer (some ⟨y, 0, none⟩)] 51)) hg' (by simp; omega) (fun jj hjj => by have := hne jj hjj; omega); have hbB : But pb w.heap.size w w' := (HB2.out.alloc (by omega) (.cells #[.pointer (some ⟨y, 0, none⟩)] 51)).grown hg' (by simp; omega) (fun jj hjj => Or.inr (hne jj hjj)); have hp9 := HP2.out.below hbw (Nat.lt_succ_self pb); have hkr := KR.app (HK2.out.keep (Below.keeps hbe)) (HY.out.keep (Below.keeps hbe)) (xs := is2.map ptr) ⟨is2, rfl, HIL.out, fun i b t hi ht => (HOT.out i b t hi ht).keep (Below.keeps hbe)⟩ (by rw [HKL.out]; exact hown') hg' hv' (by simp; omega); have hzne : some z ≠ (Value.slice oa 1 oc).ownBlock := fun e => HZR.out z e.symm rfl
                   have ht9 := (hg'.block z (by simp; omega) hzne).trans (block_alloc HT2.out _); refine ⟨⟨1 + 1, 1 + 1, ks ++ [a], us2, by omega, rfl, rfl, by rw [List.length_append, HKL.out]; rfl, hkr, hp9, hbB, ht9, HR3.out⟩, ?_⟩; simp [intOf]
             · obtain rfl : jz = 2 := hjz
               obtain ⟨RS, hRS⟩ : ∃ R, needP ⟨#[101, 108, 115, 101]⟩ us' = R := ⟨_, rfl⟩; have HND := Lib.hid (hRS ▸ need_any ⟨#[101, 108, 115, 101]⟩ HPR.out); have HR2 := Lib.hid (show ifB L [] ks RS = RI by
                rw [← hRS, ← ifL_go]; exact HRJ.out)
               have hix := ix2 (.string ⟨#[105, 102]⟩) (.string ⟨#[116, 104, 101, 110]⟩) (.string ⟨#[101, 108, 115, 101]⟩); clear hRS HRJ
               go_wp2_with fail; clear hix; cases RS with
               | error er =>
                 have hRx : R = .error er := by rw [← HRF.out, ← HR2.out]; rfl
                 subst hRx; refine HND.out.mono ?_; rintro e x1 ⟨rfl, hx1⟩; exact ⟨rfl, rfl, HBR.out.andThen hx1 (by omega)⟩
               | ok us1 =>
                 refine HND.out.mono ?_; rintro e x1 ⟨rfl, hp1, hx1⟩; have hxz1 := hx1.size; obtain ⟨R1, hR1⟩ : ∃ R, L.top us1 = R := ⟨_, rfl⟩; have HEX := Lib.hid (hR1 ▸ HE.out x1 us1 hp1); have HR3 := Lib.hid (show ifA L [] ks R1 = RI by rw [← HR2.out, ← hR1]; rfl); have HK1 := Lib.hid (HKR.out.but hx1 (Nat.le_refl _) hpl); have HB1 := Lib.hid (HBR.out.andThen hx1 (by omega)); have HT1 := Lib.hid (hx1.get (block_lt HTR.out) hzp HTR.out); have hzlx := block_lt HT1.out; clear hR1 hp1 hx1 HR2
                 go_wp2_with fail; cases R1 with
                 | error er =>
                   have hRx : R = .error er := by rw [← HRF.out, ← HR3.out]; rfl
                   subst hRx; refine HEX.out.mono ?_; rintro e x2 ⟨rfl, hx2⟩; exact ⟨rfl, rfl, HB1.out.andThen hx2 (by omega)⟩
                 | ok r1 =>
                   obtain ⟨a, us2⟩ := r1; refine HEX.out.mono ?_; rintro e x2 ⟨⟨y, rfl, hy⟩, hp2, hx2⟩; unfold ptr; have hxz2 := hx2.size; have hk2 := HK1.out.but hx2 (Nat.le_refl _) hpl; have hlo2 : ∀ gg, (Value.slice oa 2 oc).ownBlock = some gg → w.heap.size ≤ gg ∧ gg < x1.heap.size := fun gg hgg => by
                    obtain ⟨is, _, h2, _⟩ := HK1.out; exact World.ownsRow.lt h2 gg hgg
                   have HY := Lib.hid (hy.mono (q := fun k => k ≠ z ∧ w.heap.size ≤ k ∧ some k ≠ (Value.slice oa 2 oc).ownBlock) (fun k hk _ => ⟨by omega, by omega, fun e => by have := (hlo2 k e.symm).2; omega⟩)); have HZR := Lib.hid (show ∀ gg, (Value.slice oa 2 oc).ownBlock = some gg → gg ≠ z from fun gg hgg => by
                    obtain ⟨_, _, _, h3, _⟩ := hk2; exact h3 gg hgg)
                   have HK2 := Lib.hid hk2; obtain ⟨is2, hil2, how2, hoq2, hot2⟩ := hk2; rw [HKL.out] at how2; have HOW := Lib.hid how2; have HIL := Lib.hid hil2; have HOT := Lib.hid hot2; have HLO := Lib.hid hlo2; have HB2 := Lib.hid (HB1.out.andThen hx2 (by omega)); have HT2 := Lib.hid (hx2.get (block_lt HT1.out) hzp HT1.out); have HP2 := Lib.hid hp2; have hpl2 := hp2.lt; have hz2l := block_lt HT2.out; clear hy hil2 how2 hoq2 hot2 hlo2 hp2 hx2
                   go_wp2_with (
                    at_builtin
                    refine append_ptr rfl _ _ rfl w.heap.size (.slice oa 2 oc) 2 (is2.map ptr) (by rfl) (own_below HOW.out ((Below.refl _ _).alloc (Nat.le_refl _) _)) _ _ y (by rfl) (block_new _ _ (by rfl)) (by omega) (by simp; omega) ?_; intro v' w' hown' hg' hv')
                   have hne : ∀ jj, (Value.slice oa 2 oc).ownBlock = some jj → w.heap.size ≤ jj := fun jj hjj => (HLO.out jj hjj).1
                   have hbe : Below x2.heap.size x2 (x2.alloc (.cells #[.pointer (some ⟨y, 0, none⟩)] 51)) := (Below.refl _ _).alloc (Nat.le_refl _) _; have hbw : Below (pb + 1) x2 w' := Below.grown ((Below.refl (pb + 1) x2).alloc hpl2 (.cells #[.pointer (some ⟨y, 0, none⟩)] 51)) hg' (by simp; omega) (fun jj hjj => by have := hne jj hjj; omega); have hbB : But pb w.heap.size w w' := (HB2.out.alloc (by omega) (.cells #[.pointer (some ⟨y, 0, none⟩)] 51)).grown hg' (by simp; omega) (fun jj hjj => Or.inr (hne jj hjj)); have hp9 := HP2.out.below hbw (Nat.lt_succ_self pb); have hkr := KR.app (HK2.out.keep (Below.keeps hbe)) (HY.out.keep (Below.keeps hbe)) (xs := is2.map ptr) ⟨is2, rfl, HIL.out, fun i b t hi ht => (HOT.out i b t hi ht).keep (Below.keeps hbe)⟩ (by rw [HKL.out]; exact hown') hg' hv' (by simp; omega); have hzne : some z ≠ (Value.slice oa 2 oc).ownBlock := fun e => HZR.out z e.symm rfl
                   have ht9 := (hg'.block z (by simp; omega) hzne).trans (block_alloc HT2.out _); refine ⟨⟨2 + 1, 2 + 1, ks ++ [a], us2, by omega, rfl, rfl, by rw [List.length_append, HKL.out]; rfl, hkr, hp9, hbB, ht9, HR3.out⟩, ?_⟩; simp [intOf]
             · obtain rfl : jz = 3 := hjz
               have hRx : R = .ok (.mk 14 ⟨#[]⟩ 0 0 [] t.place ks, us') := by rw [← HRF.out, ← HRJ.out]; rfl
               subst hRx; have q4 := block_cell (i := 4) HTR.out rfl; have hzlr := block_lt HTR.out
               go_wp2_with fail; go_ret; have hbe : Below wr.heap.size wr (wr.alloc (.cells #[.int .i64 14, .string ⟨#[]⟩, .int .i64 0, .float .f64 0, .slice none 0 0, .slice none 0 0, .int .i64 (t.place : Int), .slice oa 3 oc] 85)) := (Below.refl _ _).alloc (Nat.le_refl _) _; exact ⟨⟨_, rfl, KR.node (names := []) (HKR.out.keep (Below.keeps hbe)) (block_new _ _ rfl) (Or.inl ⟨rfl, rfl⟩) (by omega)⟩, HPR.out.below hbe HPR.out.lt, HBR.out.then hbe hzr⟩
          | false =>
            have HIif := Lib.hid hif; have HRo := Lib.hid (show orP L (t :: us) = R by
             have := HRf.out; rw [hlet, hwith, hass, hif] at this; exact this)
            clear hlet hwith hass hif HRf; have HQ4 := Lib.hid ((show isP ⟨#[108, 101, 116]⟩ (t :: us) = false from HIlet.out) ▸ is_any ⟨#[108, 101, 116]⟩ HP3.out)
            go_wp2_with fail; refine HQ4.out.mono ?_; rintro e w4 ⟨rfl, hb4⟩; have hz4 := hb4.size; have HP4 := Lib.hid (HP3.out.below hb4 HP3.out.lt); have HB4 := Lib.hid (HB3.out.trans (hb4.mono hzz3)); have hzz4 := HB4.out.size; have HT4 := Lib.hid (block_below HT3.out hb4); clear hb4; have HQ5 := Lib.hid ((show isP ⟨#[119, 105, 116, 104]⟩ (t :: us) = false from HIwith.out) ▸ is_any ⟨#[119, 105, 116, 104]⟩ HP4.out)
            go_wp2_with fail; refine HQ5.out.mono ?_; rintro e w5 ⟨rfl, hb5⟩; have hz5 := hb5.size; have HP5 := Lib.hid (HP4.out.below hb5 HP4.out.lt); have HB5 := Lib.hid (HB4.out.trans (hb5.mono hzz4)); have hzz5 := HB5.out.size; have HT5 := Lib.hid (block_below HT4.out hb5); clear hb5; have HQ6 := Lib.hid ((show isP ⟨#[97, 115, 115, 101, 114, 116]⟩ (t :: us) = false from HIassert.out) ▸ is_any ⟨#[97, 115, 115, 101, 114, 116]⟩ HP5.out)
            go_wp2_with fail; refine HQ6.out.mono ?_; rintro e w6 ⟨rfl, hb6⟩; have hz6 := hb6.size; have HP6 := Lib.hid (HP5.out.below hb6 HP5.out.lt); have HB6 := Lib.hid (HB5.out.trans (hb6.mono hzz5)); have hzz6 := HB6.out.size; have HT6 := Lib.hid (block_below HT5.out hb6); clear hb6; have HQ7 := Lib.hid ((show isP ⟨#[105, 102]⟩ (t :: us) = false from HIif.out) ▸ is_any ⟨#[105, 102]⟩ HP6.out)
            go_wp2_with fail; refine HQ7.out.mono ?_; rintro e w7 ⟨rfl, hb7⟩; have hz7 := hb7.size; have HP7 := Lib.hid (HP6.out.below hb7 HP6.out.lt); have HB7 := Lib.hid (HB6.out.trans (hb7.mono hzz6)); have hzz7 := HB7.out.size; have HT7 := Lib.hid (block_below HT6.out hb7); clear hb7; obtain ⟨RO, hRO⟩ : ∃ R, orP L (t :: us) = R := ⟨_, rfl⟩; have HOC := Lib.hid (hRO ▸ HOR.out w7 (t :: us) HP7.out); have hRx : R = RO := by rw [← HRo.out, ← hRO]
            subst hRx; clear hRO
            go_wp2_with fail; cases R with
            | error er =>
              refine HOC.out.mono ?_; rintro e w9 ⟨rfl, hb9⟩; exact ⟨rfl, rfl, (But.of HB7.out).andThen hb9 hzz7⟩
            | ok ro =>
              obtain ⟨a9, v9⟩ := ro; refine HOC.out.mono ?_; rintro e w9 ⟨⟨x, rfl, ht9⟩, hp9, hb9⟩; unfold ptr
              go_wp2_with fail; go_ret; exact ⟨⟨x, rfl, ht9.mono (fun k hk _ => by omega)⟩, hp9, (But.of HB7.out).andThen hb9 hzz7⟩
end
end Go.Proofs.YtkoghgnjjfnamaaGreatDoor
