/- RenderTells returns true for whatever configuration. -/
import Derived.Test.YthefajkihnlgfaaGreatDoorM40
import Derived.Test.YthefajkihnlgfaaGreatDoorMaR
import Derived.Test.YthefajkihnlgfaaGreatDoorMaW
import Derived.Test.YthefajkihnlgfaaGreatDoorM46
import Derived.Test.YthefajkihnlgfaaGreatDoorShnW
import Derived.Test.YthefajkihnlgfaaGreatDoorSyW
namespace Go.Proofs.YthefajkihnlgfaaGreatDoor
open Go.RowKit Go.Shelf
set_option linter.unusedSimpArgs false
set_option linter.unusedVariables false
theorem own_heap {w : World} {base n size g : Nat} {v : Value} {xs : List Value} {e : TypeId} (ho : w.ownsRow base e size v n xs) (hg : v.ownBlock = some g) : ∃ cs, w.heap[g]? = some (.cells cs e (0, 0)) := by
  rcases ho.2 with ⟨rfl, _⟩ | ⟨k, cap, cur, rfl, _, hh, _⟩
  · cases hg
  · have : k = g := by simpa [Value.ownBlock] using hg
    subst this
    exact ⟨cur, hh⟩
theorem UOw.flatX {base n : Nat} {w : World} {xs : List Value} {us : List U} {v : Value} (h : UOw base w xs us) (hv : w.ownsRow base 37 4 v n xs) : UFlat (fun b => (base ≤ b ∧ v.ownBlock ≠ some b) ∧ Fz w b) w xs us := by
  have key : ∀ {r : Value} {ss : List ByteArray}, OS base w r ss → ss.length ≤ 8796093021952 → (∀ s, s ∈ ss → s.size ≤ maxLen) → SLP (fun b => (base ≤ b ∧ v.ownBlock ≠ some b) ∧ Fz w b) w r ss := fun {r ss} ho h1 h2 =>
    (ho.slp h1 h2).mono fun b hb => by
      obtain ⟨cs, hcs⟩ := own_heap ho hb.2
      exact ⟨⟨hb.1, own_ne hv hcs (by decide)⟩, ⟨cs, _, hcs⟩⟩
  exact ⟨h.1, fun i u hu => by
    obtain ⟨k1, k2, k3, k4, r, f, k5, k6, k7, k8, k9, k10⟩ := h.2 i u hu
    exact ⟨k1, k2, k3, k4, r, f, k5, k6, key k7 k9.1 k9.2, key k8 k10.1 k10.2⟩⟩
/-- A system that may be written over, in blocks from bs on and below N. -/
def TS (w : World) (bs N : Nat) (b u : Value) (nb nu : Nat) : Prop :=
  ∃ (xb : Nat) (a : Option Addr) (k : Nat), b = .slice a nb k ∧ LT w bs xb N a nb ∧ ((nu = 0 ∧ u = .slice none 0 0) ∨ ∃ c cur, u = .slice (some ⟨xb, 0, none⟩) nu c ∧ bs ≤ xb ∧ xb < N ∧ WT w bs xb N cur nu)
theorem TS.of {w : World} {bs : Nat} {a b u : Value} {cf : Cf} (h : SW bs w a b u cf) : TS w bs w.heap.size b u cf.us.length cf.un.length := by
  obtain ⟨ys, h1, h2⟩ := h.un
  have hx := XT.of_own h1 (h2.flatX h1)
  have hu := h.us
  obtain ⟨ba, bk, rfl⟩ := hu.shape
  have ls : ∀ xb, (∀ cs, w.heap[xb]? ≠ some (.cells cs 9 (0, 0))) → LT w bs xb w.heap.size ba cf.us.length := fun xb hxb => by
    obtain ⟨a', cap, he, _, hl, hc⟩ := hu.slp h.usz.1 h.usz.2
    cases he
    refine ⟨hl, fun k hk => ?_⟩
    obtain ⟨s, hs⟩ := get_lt cf.us hk
    obtain ⟨b, off, ha, hcell, _, hp⟩ := hc k s hs
    obtain ⟨cs, hcs⟩ := own_heap hu hp.2
    exact ⟨b, off, s, ha, hcell, ⟨cs, _, hcs⟩, hp.1, (fun e => hxb cs (by rw [← e]; exact hcs)), block_lt hcs⟩
  rcases hx with ⟨h0, rfl⟩ | ⟨g, c, cur, rfl, hg, hgN, hws⟩
  · refine ⟨w.heap.size, ba, bk, rfl, ls _ (fun cs e => absurd (block_lt e) (Nat.lt_irrefl _)), Or.inl ⟨h0, rfl⟩⟩
  · refine ⟨g, ba, bk, rfl, ls g (fun cs e => ?_), Or.inr ⟨c, cur, rfl, hg, hgN, hws⟩⟩
    rw [hws.1] at e
    simp only [Option.some.injEq, Obj.cells.injEq] at e
    exact absurd e.2.1 (by decide)
theorem TS.below {w w' : World} {bs N nb nu : Nat} {b u : Value} (h : TS w bs N b u nb nu) (hb : Below w.heap.size w w') : TS w' bs N b u nb nu := by
  obtain ⟨xb, a, k, h1, h2, h3⟩ := h
  refine ⟨xb, a, k, h1, h2.below hb, ?_⟩
  rcases h3 with h3 | ⟨c, cur, h4, h5, h6, h7⟩
  · exact Or.inl h3
  · exact Or.inr ⟨c, cur, h4, h5, h6, h7.below hb⟩
theorem TS.user {w : World} {bs N nb nu : Nat} {a : Option Addr} {k : Nat} {u : Value} (h : TS w bs N (.slice a nb k) u nb nu) {i : Nat} (hi : i < nb) : ∃ b off s, a = some ⟨b, off, none⟩ ∧ w.cell? ⟨b, off + i, none⟩ = some (.string s) ∧ w.frozen? ⟨b, off + i, none⟩ = false ∧ bs ≤ b ∧ b < N ∧
    TS (w.setCell ⟨b, off + i, none⟩ (.string ⟨#[63]⟩)) bs N (.slice a nb k) u nb nu := by
  obtain ⟨xb, a', k', h1, h2, h3⟩ := h
  cases h1
  obtain ⟨b, off, s, rfl, hc, hf, hb, hx, hN⟩ := h2.2 i hi
  refine ⟨b, off, s, rfl, hc, hf.free, hb, hN, xb, _, k, rfl, h2.set b (off + i) _ (Or.inr ⟨_, rfl⟩), ?_⟩
  rcases h3 with h3 | ⟨c, cur, h4, h5, h6, h7⟩
  · exact Or.inl h3
  · exact Or.inr ⟨c, cur, h4, h5, h6, h7.setStr b (off + i) _ hx⟩
theorem man_bound {d : Nat} {v0 v1 v2 v3 : Value} {c : Cf} {w : World} (h : CV d w v0 v1 v2 v3 c) (hl : c.ss.length + c.fs.length + c.us.length + c.un.length ≤ 2000) : (manT d c).length ≤ 140000000000000 := by
  have h1 := pre_bound (manS d) 10001048580 c.ss (fun x hx => by
    obtain ⟨a, k, _, hc⟩ := h.st
    obtain ⟨i, hi⟩ := List.getElem?_of_mem hx
    obtain ⟨k1, _, k3, _⟩ := hc i x hi
    unfold manS
    simp only [List.length_append, List.length_cons, List.length_nil]
    rw [show x.1.data.toList.length = x.1.size from Array.length_toList]
    omega) c.ss.length
  have h2 := pre_bound manF 1048582 c.fs (fun x hx => by
    obtain ⟨a, k, _, hc⟩ := h.fi
    obtain ⟨i, hi⟩ := List.getElem?_of_mem hx
    obtain ⟨k1, _⟩ := hc i x hi
    unfold manF
    simp only [List.length_append, List.length_cons, List.length_nil]
    rw [show x.1.data.toList.length = x.1.size from Array.length_toList]
    omega) c.fs.length
  have h3 := pre_bound manU 1048582 c.us (fun x hx => by
    have k1 := h.usz x hx
    unfold manU
    simp only [List.length_append, List.length_cons, List.length_nil]
    rw [show x.data.toList.length = x.size from Array.length_toList]
    omega) c.us.length
  have h4 := pre_bound manN 1048582 c.un (fun x hx => by
    have k1 := h.unz x hx
    unfold manN
    simp only [List.length_append, List.length_cons, List.length_nil]
    rw [show x.name.data.toList.length = x.name.size from Array.length_toList]
    omega) c.un.length
  unfold manT
  simp only [List.length_append]
  have e1 : c.ss.length * 10001048580 ≤ 2000 * 10001048580 := Nat.mul_le_mul_right _ (by omega)
  have e2 : c.fs.length * 1048582 ≤ 2000 * 1048582 := Nat.mul_le_mul_right _ (by omega)
  have e3 : c.us.length * 1048582 ≤ 2000 * 1048582 := Nat.mul_le_mul_right _ (by omega)
  have e4 : c.un.length * 1048582 ≤ 2000 * 1048582 := Nat.mul_le_mul_right _ (by omega)
  omega
theorem CV.shape {d : Nat} {v0 v1 v2 v3 : Value} {c : Cf} {w : World} (h : CV d w v0 v1 v2 v3 c) : ∃ sa sk fa fk ua uk na nk, v0 = .slice sa c.ss.length sk ∧ v1 = .slice fa c.fs.length fk ∧ v2 = .slice ua c.us.length uk ∧ v3 = .slice na c.un.length nk := by
  obtain ⟨sa, sk, h0, _⟩ := h.st
  obtain ⟨fa, fk, h1, _⟩ := h.fi
  obtain ⟨ua, uk, h2, _⟩ := h.us
  obtain ⟨na, nk, h3, _⟩ := h.un
  exact ⟨sa, sk, fa, fk, ua, uk, na, nk, h0, h1, h2, h3⟩
set_option maxHeartbeats 16000000 in
set_option maxRecDepth 100000 in
theorem tells_law {B0 d : Nat} {v0 v1 v2 v3 : Value} {c : Cf} {w : World} (hG : RG B0 w) (h : CV d w v0 v1 v2 v3 c) :
    Calls Tryz.prog 3 #[.agg #[v0, v1, v2, v3]] w fun e w' => e = .returned (.bool true) ∧ Below w.heap.size w w' := by
  have HLG := Lib.hid (fun W (hW : Below w.heap.size w W) => large_any (h.keeps hW))
  have HRS := Lib.hid (fun W (hW : Below w.heap.size w W) => rsys_any (h.keeps hW))
  have HSY := Lib.hid (fun W (hW : Below w.heap.size w W) => sys_any (h.keeps hW))
  obtain ⟨M, hM⟩ : ∃ M : ByteArray, ⟨(manT d c).toArray⟩ = M := ⟨_, rfl⟩
  have HMA0 := Lib.hid (fun (hl : c.ss.length + c.fs.length + c.us.length + c.un.length ≤ 2000) W (hW : Below w.heap.size w W) => man_any (hG.below hW) (h.keeps hW) (man_bound h hl))
  have HMR0 := Lib.hid (fun (hl : c.ss.length + c.fs.length + c.us.length + c.un.length ≤ 2000) W (hW : Below w.heap.size w W) => rman_any (hG.below hW) (h.keeps hW) (man_bound h hl))
  rw [hM] at HMA0 HMR0
  have hlu := h.len.2.2.1
  have hln := h.len.2.2.2
  obtain ⟨sa, sk, fa, fk, ua, uk, na, nk, rfl, rfl, rfl, rfl⟩ := h.shape
  clear h hG hM
  go_enter Tryz.func3, Tryz.ntmps3
  go_wp2_with fail
  refine (shown19_any _).mono ?_
  rintro e w1 ⟨rfl, hb1⟩
  have hB1 : Below w.heap.size w w1 := Below.next ((Below.refl _ _).alloc (Nat.le_refl _) _) hb1
  have hcf1 := block_below (block_new w (.cells #[.slice sa c.ss.length sk, .slice fa c.fs.length fk, .slice ua c.us.length uk, .slice na c.un.length nk] 27 (0, 0)) rfl) hb1
  have c0 := block_cell (i := 0) hcf1 rfl
  have c1 := block_cell (i := 1) hcf1 rfl
  have c2 := block_cell (i := 2) hcf1 rfl
  have c3 := block_cell (i := 3) hcf1 rfl
  go_wp2_with fail
  refine (HLG.out _ hB1).mono ?_
  rintro e w2 ⟨he, hb2⟩
  rcases he with rfl | ⟨rfl, hl⟩
  · go_wp2_with fail
    go_ret
    exact ⟨rfl, hB1.next hb2⟩
  have HMA := Lib.hid (HMA0.out hl)
  have HMR := Lib.hid (HMR0.out hl)
  have hcf2 := block_below hcf1 hb2
  have hB2 := hB1.next hb2
  clear hb1 hcf1 c0 c1 c2 c3 HMA0 HMR0 hl hB1 hb2
  have c0 := block_cell (i := 0) hcf2 rfl
  have c1 := block_cell (i := 1) hcf2 rfl
  have c2 := block_cell (i := 2) hcf2 rfl
  have c3 := block_cell (i := 3) hcf2 rfl
  go_wp2_with fail
  refine (HRS.out _ hB2).mono ?_
  rintro e w3 ⟨a0, b0, u0, rfl, hsv0, hb3⟩
  obtain ⟨fa0, fk0, hef, _⟩ := hsv0.fi
  rw [List.length_map] at hef
  subst hef
  obtain ⟨ua0, uk0, rfl, _⟩ := hsv0.us
  obtain ⟨na0, nk0, hen, _⟩ := hsv0.un
  rw [List.length_map] at hen
  subst hen
  have hcf3 := block_below hcf2 hb3
  have hB3 := hB2.next hb3
  have HSV0 := Lib.hid hsv0
  clear hcf2 hB2 hb3 c0 c1 c2 c3 hsv0
  go_wp2_with fail
  go_loopw [6, 7, 8, 9, 10, 11] (fun t _ _ _ _ _ wr => ∃ j : Nat, j ≤ 2 ∧ t = .int .i64 (j : Int) ∧ wr.heap[w.heap.size]? = some (.cells #[.slice sa c.ss.length sk, .slice fa c.fs.length fk, .slice ua c.us.length uk, .slice na c.un.length nk] 27 (0, 0)) ∧ wr.heap[w3.heap.size]? = some (.cells #[.slice fa0 c.fs.length fk0, .slice ua0 c.us.length uk0, .slice na0 c.un.length nk0] 32 (0, 0)) ∧ Below w3.heap.size w3 wr) (fun t _ _ _ _ _ _ => 2 - (intOf t).toNat)
  case atStart => exact ⟨0, by omega, rfl, block_alloc hcf3 _, block_new _ _ rfl, (Below.refl _ _).alloc (Nat.le_refl _) _⟩
  case round =>
    obtain ⟨j, hj, rfl, hcf, hwas, hb⟩ := hrel
    obtain ⟨wb, rfl⟩ : ∃ wb, wb = wr := ⟨wr, rfl⟩
    have hbw := hB3.next hb
    have HCF := Lib.hid hcf
    have HWAS := Lib.hid hwas
    have c0 := block_cell (i := 0) hcf rfl
    have c1 := block_cell (i := 1) hcf rfl
    have c2 := block_cell (i := 2) hcf rfl
    have c3 := block_cell (i := 3) hcf rfl
    by_cases hlt : j < 2
    · have hltI : (j : Int) < 2 := by omega
      go_wp2_with fail
      refine (HSY.out _ hbw).mono ?_
      rintro e w4 ⟨a, b, u, rfl, hsw, hb4⟩
      have hts := TS.of hsw
      have hsv := hsw.sv
      obtain ⟨fa4, fk4, hef, _⟩ := hsv.fi
      rw [List.length_map] at hef
      subst hef
      obtain ⟨ua4, uk4, rfl, _⟩ := hsv.us
      obtain ⟨na4, nk4, hen, _⟩ := hsv.un
      rw [List.length_map] at hen
      subst hen
      have hcf4 := block_below hcf hb4
      have hwas4 := block_below hwas hb4
      have q0 := block_cell (i := 0) hwas4 rfl
      have q1 := block_cell (i := 1) hwas4 rfl
      have q2 := block_cell (i := 2) hwas4 rfl
      have hlw := block_lt hwas4
      have hlc := block_lt hcf4
      have hba : Below w4.heap.size w4 (w4.alloc (.cells #[.slice fa4 c.fs.length fk4, .slice ua4 c.us.length uk4, .slice na4 c.un.length nk4] 32 (0, 0))) := (Below.refl _ _).alloc (Nat.le_refl _) _
      have HSA := Lib.hid (same19_any (hsv.keeps hba) ((HSV0.out.keeps (hb.next hb4)).keeps hba))
      clear hsw hsv
      go_wp2_with fail
      refine HSA.out.mono ?_
      rintro e w5 ⟨rfl, hb5⟩
      have hB5 : Below w4.heap.size w4 w5 := hba.next hb5
      have hcf5 := block_below hcf4 hB5
      have hwas5 := block_below hwas4 hB5
      have hbox5 := block_below (block_new w4 (.cells #[.slice fa4 c.fs.length fk4, .slice ua4 c.us.length uk4, .slice na4 c.un.length nk4] 32 (0, 0)) rfl) hb5
      have hts5 := hts.below hB5
      have hbe : Below w.heap.size w w5 := (hbw.next hb4).next hB5
      clear c0 c1 c2 c3 q0 q1 q2 hcf hwas hcf4 hwas4 HSA hb5 hts hba
      have c0 := block_cell (i := 0) hcf5 rfl
      have c1 := block_cell (i := 1) hcf5 rfl
      have c2 := block_cell (i := 2) hcf5 rfl
      have c3 := block_cell (i := 3) hcf5 rfl
      go_upto_region 11 with fail
      refine with_frame fun a0 ha0 => ?_
      have e1 : a0.eval (.tmp 1) = .pointer (some ⟨w.heap.size, 0, none⟩) := by rw [ha0]; rfl
      have e3 : a0.eval (.tmp 3) = .bool true := by rw [ha0]; rfl
      have e8 : a0.eval (.tmp 8) = .bool true := by rw [ha0]; rfl
      have hsz : a0.tmps.size = 89 := by rw [ha0]; rfl
      have HA := Lib.hid ha0
      clear ha0
      have hD : ∀ d, (List.range' 29 12).contains d = true → d < a0.tmps.size := by
        intro d h
        rw [hsz]
        have hm : d ∈ List.range' 29 12 := by simpa using h
        rw [List.mem_range'_1] at hm
        omega
      refine wp_region_tab (by kernel_rfl) 12 29 (fun jj => ([.bool true, .bool false, .bool false, .bool true, .bool false, .bool false, .bool false, .agg #[.slice sa c.ss.length sk, .slice fa c.fs.length fk, .slice ua c.us.length uk, .slice na c.un.length nk], .string M, .agg #[.slice sa c.ss.length sk, .slice fa c.fs.length fk, .slice ua c.us.length uk, .slice na c.un.length nk], .string M, .bool false] : List Value).getD jj undef) (fun w' => Below w5.heap.size w5 w') rfl (by kernel_rfl) (by kernel_rfl) (by (repeat' (first | (with_reducible exact Below.refl _ _) | (with_reducible assumption) | (with_reducible refine below_drewN ?_ _) | (with_reducible refine Below.drew ?_) | (with_reducible refine Below.alloc ?_ ?_ _) | (with_reducible refine Below.setCell ?_ ?_ _) | omega | (simp; done) | (simp; omega)))) ?_ ?_
      · intro i0 hi0 v w0 hW hv
        have c0 := cell_keeps hW c0
        have c1 := cell_keeps hW c1
        have c2 := cell_keeps hW c2
        have c3 := cell_keeps hW c3
        have inn : ∀ d, (List.range' 29 12).contains d = true → (frameOf a0 (List.range' 29 12) v).tmps[d]?.getD undef = v d := fun d h => frameOf_in' h (hD d h)
        rcases (by omega : i0 = 0 ∨ i0 = 1 ∨ i0 = 2 ∨ i0 = 3 ∨ i0 = 4 ∨ i0 = 5 ∨ i0 = 6 ∨ i0 = 7 ∨ i0 = 8 ∨ i0 = 9 ∨ i0 = 10 ∨ i0 = 11) with rfl | rfl | rfl | rfl | rfl | rfl | rfl | rfl | rfl | rfl | rfl | rfl
        · -- operation 0
          have E3 : (frameOf a0 (List.range' 29 12) v).tmps[3]?.getD undef = .bool true := (frameOf_out' rfl).trans e3
          refine wpOp_value (v := .bool true) (w' := w0) rfl rfl (by go_simp) ?_
          exact ⟨frameOf_put rfl, hW⟩
        · -- operation 1
          have x29 : v 29 = .bool true := hv 0 (by kernel_rfl)
          have E29 := (inn 29 rfl).trans x29
          refine wpOp_value (v := .bool false) (w' := w0) rfl rfl (by go_simp) ?_
          exact ⟨frameOf_put rfl, hW⟩
        · -- operation 2
          have x30 : v 30 = .bool false := hv 1 (by kernel_rfl)
          have E30 := (inn 30 rfl).trans x30
          refine wpOp_value (v := .bool false) (w' := w0) rfl rfl (by go_simp) ?_
          exact ⟨frameOf_put rfl, hW⟩
        · -- operation 3
          have E8 : (frameOf a0 (List.range' 29 12) v).tmps[8]?.getD undef = .bool true := (frameOf_out' rfl).trans e8
          have x31 : v 31 = .bool false := hv 2 (by kernel_rfl)
          have E31 := (inn 31 rfl).trans x31
          refine wpOp_guard (v := .bool true) (w' := w0) rfl rfl (yielded_at rfl rfl (by simp [frameOf, hsz]) E31) (by go_simp) ?_
          exact ⟨frameOf_put rfl, hW⟩
        · -- operation 4
          have x31 : v 31 = .bool false := hv 2 (by kernel_rfl)
          have E31 := (inn 31 rfl).trans x31
          have x32 : v 32 = .bool true := hv 3 (by kernel_rfl)
          have E32 := (inn 32 rfl).trans x32
          refine wpOp_guard (v := .bool false) (w' := w0) rfl rfl (yielded_at rfl rfl (by simp [frameOf, hsz]) E31) (by go_simp) ?_
          exact ⟨frameOf_put rfl, hW⟩
        · -- operation 5
          have x31 : v 31 = .bool false := hv 2 (by kernel_rfl)
          have E31 := (inn 31 rfl).trans x31
          have x33 : v 33 = .bool false := hv 4 (by kernel_rfl)
          have E33 := (inn 33 rfl).trans x33
          refine wpOp_value (v := .bool false) (w' := w0) rfl rfl (by go_simp) ?_
          exact ⟨frameOf_put rfl, hW⟩
        · -- operation 6
          have x34 : v 34 = .bool false := hv 5 (by kernel_rfl)
          have E34 := (inn 34 rfl).trans x34
          refine wpOp_value (v := .bool false) (w' := w0) rfl rfl (by go_simp) ?_
          exact ⟨frameOf_put rfl, hW⟩
        · -- operation 7
          have E1 : (frameOf a0 (List.range' 29 12) v).tmps[1]?.getD undef = .pointer (some ⟨w.heap.size, 0, none⟩) := (frameOf_out' rfl).trans e1
          have x35 : v 35 = .bool false := hv 6 (by kernel_rfl)
          have E35 := (inn 35 rfl).trans x35
          refine wpOp_guard (v := .agg #[.slice sa c.ss.length sk, .slice fa c.fs.length fk, .slice ua c.us.length uk, .slice na c.un.length nk]) (w' := w0) rfl rfl (yielded_at rfl rfl (by simp [frameOf, hsz]) E35) (by go_simp) ?_
          exact ⟨frameOf_put rfl, hW⟩
        · -- operation 8
          have x35 : v 35 = .bool false := hv 6 (by kernel_rfl)
          have E35 := (inn 35 rfl).trans x35
          have x36 : v 36 = .agg #[.slice sa c.ss.length sk, .slice fa c.fs.length fk, .slice ua c.us.length uk, .slice na c.un.length nk] := hv 7 (by kernel_rfl)
          have E36 := (inn 36 rfl).trans x36
          refine wpOp_guardcall (f := 9) (args := #[.agg #[.slice sa c.ss.length sk, .slice fa c.fs.length fk, .slice ua c.us.length uk, .slice na c.un.length nk]]) rfl rfl (yielded_at rfl rfl (by simp [frameOf, hsz]) E35) (by go_simp) (HMA.out w0 (hbe.next hW)) ?_
          rintro e w' ⟨rfl, hb'⟩
          exact ⟨_, rfl, frameOf_put rfl, hW.next hb'⟩
        · -- operation 9
          have E1 : (frameOf a0 (List.range' 29 12) v).tmps[1]?.getD undef = .pointer (some ⟨w.heap.size, 0, none⟩) := (frameOf_out' rfl).trans e1
          have x35 : v 35 = .bool false := hv 6 (by kernel_rfl)
          have E35 := (inn 35 rfl).trans x35
          refine wpOp_guard (v := .agg #[.slice sa c.ss.length sk, .slice fa c.fs.length fk, .slice ua c.us.length uk, .slice na c.un.length nk]) (w' := w0) rfl rfl (yielded_at rfl rfl (by simp [frameOf, hsz]) E35) (by go_simp) ?_
          exact ⟨frameOf_put rfl, hW⟩
        · -- operation 10
          have x35 : v 35 = .bool false := hv 6 (by kernel_rfl)
          have E35 := (inn 35 rfl).trans x35
          have x38 : v 38 = .agg #[.slice sa c.ss.length sk, .slice fa c.fs.length fk, .slice ua c.us.length uk, .slice na c.un.length nk] := hv 9 (by kernel_rfl)
          have E38 := (inn 38 rfl).trans x38
          refine wpOp_guardcall (f := 10) (args := #[.agg #[.slice sa c.ss.length sk, .slice fa c.fs.length fk, .slice ua c.us.length uk, .slice na c.un.length nk]]) rfl rfl (yielded_at rfl rfl (by simp [frameOf, hsz]) E35) (by go_simp) (HMR.out w0 (hbe.next hW)) ?_
          rintro e w' ⟨rfl, hb'⟩
          exact ⟨_, rfl, frameOf_put rfl, hW.next hb'⟩
        · -- operation 11
          have x35 : v 35 = .bool false := hv 6 (by kernel_rfl)
          have E35 := (inn 35 rfl).trans x35
          have x37 : v 37 = .string M := hv 8 (by kernel_rfl)
          have E37 := (inn 37 rfl).trans x37
          have x39 : v 39 = .string M := hv 10 (by kernel_rfl)
          have E39 := (inn 39 rfl).trans x39
          refine wpOp_guard (v := .bool false) (w' := w0) rfl rfl (yielded_at rfl rfl (by simp [frameOf, hsz]) E35) (by go_simp) ?_
          exact ⟨frameOf_put rfl, hW⟩
      · intro w0 hW
        have h0 := HA.out
        subst h0
        have hrg : List.range' 29 12 = [29, 30, 31, 32, 33, 34, 35, 36, 37, 38, 39, 40] := rfl
        rw [hrg]
        clear hrg
        simp only [frameOf_cons, frameOf_nil, Act.put, List.setIfInBounds_toArray, List.set_cons_zero, List.set_cons_succ]
        refine wpOp_value (v := .bool false) (w' := w0) rfl rfl (by go_simp) ?_
        have HTS0 := Lib.hid (hts5.below hW)
        have hbox0 := block_below hbox5 hW
        have hbq0 := (hb4.next hB5).next hW
        have hltN := hB5.size
        clear hts5 hbox5 hcf5 hwas5 c0 c1 c2 c3
        go_wp2_with fail
        go_loopw [9] (fun i wq => ∃ k : Nat, k ≤ c.us.length ∧ i = .int .i64 (k : Int) ∧ Hid (TS wq wb.heap.size w4.heap.size (.slice ua4 c.us.length uk4) (.slice na4 c.un.length nk4) c.us.length c.un.length) ∧ wq.heap[w4.heap.size]? = some (.cells #[.slice fa4 c.fs.length fk4, .slice ua4 c.us.length uk4, .slice na4 c.un.length nk4] 32 (0, 0)) ∧ Below wb.heap.size wb wq) (fun i _ => c.us.length - (intOf i).toNat)
        case atStart => exact ⟨0, Nat.zero_le _, rfl, HTS0, hbox0, hbq0⟩
        case round =>
          clear HTS0 hbox0 hbq0
          obtain ⟨k, hk, rfl, HTS, hbox, hbq⟩ := hrel
          have p1 := block_cell (i := 1) hbox rfl
          by_cases hlu1 : k < c.us.length
          · have hluI : (k : Int) < (c.us.length : Int) := by omega
            obtain ⟨b, off, s, rfl, hcell, hfr, hbs, hbN, hts1⟩ := HTS.out.user hlu1
            have HT1 := Lib.hid hts1
            clear hts1 HTS
            go_wp2_with fail
            go_roundw
            case rel => exact ⟨k + 1, by omega, by go_num, HT1, block_setCell hbox (by show w4.heap.size ≠ b; omega) _, hbq.setCell (p := ⟨b, off + k, none⟩) hbs _⟩
            case measure => simp [intOf]; omega
          · have hluI : ¬ ((k : Int) < (c.us.length : Int)) := by omega
            go_wp2_with fail
            go_loopw [10, 11] (fun i _ wq => ∃ k : Nat, k ≤ c.un.length ∧ i = .int .i64 (k : Int) ∧ Hid (TS wq wb.heap.size w4.heap.size (.slice ua4 c.us.length uk4) (.slice na4 c.un.length nk4) c.us.length c.un.length) ∧ wq.heap[w4.heap.size]? = some (.cells #[.slice fa4 c.fs.length fk4, .slice ua4 c.us.length uk4, .slice na4 c.un.length nk4] 32 (0, 0)) ∧ Below wb.heap.size wb wq) (fun i _ _ => c.un.length - (intOf i).toNat)
            case atStart => exact ⟨0, Nat.zero_le _, rfl, HTS, hbox, hbq⟩
            case round =>
              clear HTS hbox hbq p1 hk hluI
              obtain ⟨k, hk, rfl, HTS, hbox, hbq⟩ := hrel
              have p2 := block_cell (i := 2) hbox rfl
              by_cases hlk : k < c.un.length
              · have hlkI : (k : Int) < (c.un.length : Int) := by omega
                obtain ⟨xb, ua', uk', hee, hLT, h3⟩ := HTS.out
                clear HTS
                rcases h3 with ⟨h0, _⟩ | ⟨cc, cur, hu, hxb, hxN, hws⟩
                · omega
                simp only [Value.slice.injEq, true_and] at hu hee
                obtain ⟨rfl, rfl⟩ := hu
                obtain ⟨rfl, rfl⟩ := hee
                obtain ⟨s1, s2, r, rn, rc, f, fn, fc, q1, q2, q3, q4, l3, l4⟩ := hws.2 k hlk
                have hrl := l3.1
                have Q1 := Lib.hid q1
                have Q2 := Lib.hid q2
                have Q3 := Lib.hid q3
                have Q4 := Lib.hid q4
                clear q1 q2 q3 q4 l3 l4
                have HLT := Lib.hid hLT
                have HWS := Lib.hid hws
                clear hLT hws
                go_wp2_with fail
                go_loopw [11] (fun i wz => ∃ k3 : Nat, k3 ≤ rn ∧ i = .int .i64 (k3 : Int) ∧ Hid (LT wz wb.heap.size xb w4.heap.size ua4 c.us.length) ∧ Hid (WT wz wb.heap.size xb w4.heap.size cur c.un.length) ∧ wz.heap[w4.heap.size]? = some (.cells #[.slice fa4 c.fs.length fk4, .slice ua4 c.us.length uk4, .slice (some ⟨xb, 0, none⟩) c.un.length nk4] 32 (0, 0)) ∧ Below wb.heap.size wb wz) (fun i _ => rn - (intOf i).toNat)
                case atStart => exact ⟨0, Nat.zero_le _, rfl, HLT, HWS, hbox, hbq⟩
                case round =>
                  clear HLT HWS hbox hbq p2
                  obtain ⟨k3, hk3, rfl, HLT, HWS, hbox, hbq⟩ := hrel
                  have p2 := block_cell (i := 2) hbox rfl
                  have d2 := HWS.out.cell Q3.out
                  by_cases hlt3 : k3 < rn
                  · have hlt3I : (k3 : Int) < (rn : Int) := by omega
                    obtain ⟨b, off, s, rfl, hcell, hfz, hbase, hne, hbN⟩ := (HWS.out.req hlk Q3.out).2 k3 hlt3
                    have hfr := hfz.free (i := off + k3)
                    go_wp2_with fail
                    go_roundw
                    case rel => exact ⟨k3 + 1, by omega, by go_num, Lib.hid (HLT.out.set b (off + k3) _ (Or.inr ⟨_, rfl⟩)), Lib.hid (HWS.out.setStr b (off + k3) _ hne), block_setCell hbox (by show w4.heap.size ≠ b; omega) _, hbq.setCell (p := ⟨b, off + k3, none⟩) hbase _⟩
                    case measure => simp [intOf]; omega
                  · have hlt3I : ¬ ((k3 : Int) < (rn : Int)) := by omega
                    have e0 := HWS.out.cell Q1.out
                    have e1 := HWS.out.cell Q2.out
                    have e3 := HWS.out.cell Q4.out
                    have f0 := HWS.out.free (k * 4)
                    have f1 := HWS.out.free (k * 4 + 1)
                    have f2 := HWS.out.free (k * 4 + 2)
                    have f3 := HWS.out.free (k * 4 + 3)
                    go_wp2_with fail
                    go_roundw
                    case rel =>
                      refine ⟨k + 1, by omega, by go_num, Lib.hid ⟨xb, ua4, uk4, rfl, (((HLT.out.set xb _ _ (Or.inl rfl)).set xb _ _ (Or.inl rfl)).set xb _ _ (Or.inl rfl)).set xb _ _ (Or.inl rfl), Or.inr ⟨nk4, _, rfl, hxb, hxN, (((HWS.out.setRow _ _ (Or.inl ⟨⟨_, rfl⟩, by omega⟩)).setRow _ _ (Or.inl ⟨⟨_, rfl⟩, by omega⟩)).setRow _ _ (Or.inr ⟨rfl, by omega⟩)).setRow _ _ (Or.inr ⟨rfl, by omega⟩)⟩⟩, ?_, ?_⟩
                      · exact block_setCell (block_setCell (block_setCell (block_setCell hbox (by show w4.heap.size ≠ xb; omega) _) (by show w4.heap.size ≠ xb; omega) _) (by show w4.heap.size ≠ xb; omega) _) (by show w4.heap.size ≠ xb; omega) _
                      · exact (((hbq.setCell (p := ⟨xb, _, none⟩) hxb _).setCell (p := ⟨xb, _, none⟩) hxb _).setCell (p := ⟨xb, _, none⟩) hxb _).setCell (p := ⟨xb, _, none⟩) hxb _
                    case measure => simp [intOf]; omega
              · have hlkI : ¬ ((k : Int) < (c.un.length : Int)) := by omega
                have hl1 := block_lt HCF.out
                have hl2 := block_lt HWAS.out
                go_wp2_with fail
                go_roundw
                case rel => exact ⟨j + 1, by omega, by go_num, (hbq.block _ hl1).trans HCF.out, (hbq.block _ hl2).trans HWAS.out, hb.next hbq⟩
                case measure => simp [intOf]; omega
    · have hltI : ¬ ((j : Int) < 2) := by omega
      have HSVr := Lib.hid (HSV0.out.keeps hb)
      go_wp2_with fail
      refine (HRS.out _ hbw).mono ?_
      rintro e w6 ⟨a, b, u, rfl, hsv6, hb6⟩
      obtain ⟨fa4, fk4, hef, _⟩ := hsv6.fi
      rw [List.length_map] at hef
      subst hef
      obtain ⟨ua4, uk4, rfl, _⟩ := hsv6.us
      obtain ⟨na4, nk4, hen, _⟩ := hsv6.un
      rw [List.length_map] at hen
      subst hen
      have hwas6 := block_below hwas hb6
      have q0 := block_cell (i := 0) hwas6 rfl
      have q1 := block_cell (i := 1) hwas6 rfl
      have q2 := block_cell (i := 2) hwas6 rfl
      have hlw := block_lt hwas6
      have hba : Below w6.heap.size w6 (w6.alloc (.cells #[.slice fa4 c.fs.length fk4, .slice ua4 c.us.length uk4, .slice na4 c.un.length nk4] 32 (0, 0))) := (Below.refl _ _).alloc (Nat.le_refl _) _
      have HSA := Lib.hid (same19_any (hsv6.keeps hba) ((HSVr.out.keeps hb6).keeps hba))
      clear hsv6 c0 c1 c2 c3
      go_wp2_with fail
      refine HSA.out.mono ?_
      rintro e w7 ⟨rfl, hb7⟩
      go_wp2_with fail
      go_ret
      exact ⟨rfl, (hbw.next hb6).next (hba.next hb7)⟩
end Go.Proofs.YthefajkihnlgfaaGreatDoor

