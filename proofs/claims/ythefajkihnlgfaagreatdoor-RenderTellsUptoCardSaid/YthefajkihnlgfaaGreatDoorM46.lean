/- As OrdersP; all blocks lie below a bound. -/
import Derived.Test.YthefajkihnlgfaaGreatDoorM03
import Derived.Test.YthefajkihnlgfaaGreatDoorM34
import Derived.Test.YthefajkihnlgfaaGreatDoorM35
import Derived.Test.YthefajkihnlgfaaGreatDoorM14
import Derived.Test.YthefajkihnlgfaaGreatDoorM22
import Derived.Test.YthefajkihnlgfaaGreatDoorSyP
import Derived.BigQuiet
import Derived.Deep.QuietTactic
import Derived.Deep.DeepCutAuto
namespace Go.Proofs.YthefajkihnlgfaaGreatDoor
open Go.RowKit

/-- A list of strings that may be written, in blocks from base on, none of them the row's. -/
def LT (w : World) (base xb N : Nat) (r : Option Addr) (n : Nat) : Prop :=
  n ≤ 8796093021952 ∧ ∀ k, k < n → ∃ b off s, r = some ⟨b, off, none⟩ ∧ w.cell? ⟨b, off + k, none⟩ = some (.string s) ∧ Fz w b ∧ base ≤ b ∧ b ≠ xb ∧ b < N
/-- A row of units that may be written. -/
def WT (w : World) (base xb N : Nat) (cur : Array Value) (n : Nat) : Prop :=
  w.heap[xb]? = some (.cells cur 37 (0, 0)) ∧ ∀ i, i < n → ∃ s1 s2 r rn rc f fn fc, cur[i * 4]? = some (.string s1) ∧ cur[i * 4 + 1]? = some (.string s2) ∧ cur[i * 4 + 2]? = some (.slice r rn rc) ∧ cur[i * 4 + 3]? = some (.slice f fn fc) ∧ LT w base xb N r rn ∧ LT w base xb N f fn
theorem cell_iff {w : World} {b i : Nat} {c : Array Value} {e : TypeId} {fz : Nat × Nat} (h : w.heap[b]? = some (.cells c e fz)) : w.cell? ⟨b, i, none⟩ = c[i]? := by
  simp [World.cell?, h]
section
variable {w : World} {base xb N n : Nat} {cur : Array Value}
theorem LT.set {r : Option Addr} (h : LT w base xb N r n) (g i : Nat) (v : Value) (hv : g = xb ∨ ∃ s, v = .string s) : LT (w.setCell ⟨g, i, none⟩ v) base xb N r n := by
  refine ⟨h.1, fun k hk => ?_⟩
  obtain ⟨b, off, s, hr, hc, hf, hb, hx⟩ := h.2 k hk
  by_cases hg : b = g
  · subst hg
    rcases hv with hv | ⟨t, rfl⟩
    · exact absurd hv hx.1
    · obtain ⟨c, e, hh⟩ := hf
      rw [cell_iff hh] at hc
      have hh' := block_set (i := i) hh (.string t)
      by_cases hi : i = off + k
      · refine ⟨b, off, t, hr, ?_, ⟨_, _, hh'⟩, hb, hx⟩
        rw [cell_iff hh', hi]
        have := (Array.getElem?_eq_some_iff.1 hc).1
        simp [this]
      · refine ⟨b, off, s, hr, ?_, ⟨_, _, hh'⟩, hb, hx⟩
        rw [cell_iff hh', Array.getElem?_setIfInBounds_ne hi]
        exact hc
  · obtain ⟨c, e, hh⟩ := hf
    have hh' := block_setCell (a := ⟨g, i, none⟩) hh hg v
    refine ⟨b, off, s, hr, ?_, ⟨_, _, hh'⟩, hb, hx⟩
    rw [cell_iff hh', ← cell_iff hh]
    exact hc
theorem LT.below {w' : World} {r : Option Addr} (h : LT w base xb N r n) (hb : Below w.heap.size w w') : LT w' base xb N r n := by
  refine ⟨h.1, fun k hk => ?_⟩
  obtain ⟨b, off, s, hr, hc, hf, hbb, hx⟩ := h.2 k hk
  exact ⟨b, off, s, hr, cell_keeps hb hc, hf.below hb, hbb, hx⟩
theorem WT.below {w' : World} (h : WT w base xb N cur n) (hb : Below w.heap.size w w') : WT w' base xb N cur n := by
  refine ⟨by rw [hb.block xb (Array.getElem?_eq_some_iff.1 h.1).1]; exact h.1, fun i hi => ?_⟩
  obtain ⟨s1, s2, r, rn, rc, f, fn, fc, h1, h2, h3, h4, h5, h6⟩ := h.2 i hi
  exact ⟨s1, s2, r, rn, rc, f, fn, fc, h1, h2, h3, h4, h5.below hb, h6.below hb⟩
theorem WT.setStr (h : WT w base xb N cur n) (g i : Nat) (t : ByteArray) (hg : g ≠ xb) : WT (w.setCell ⟨g, i, none⟩ (.string t)) base xb N cur n := by
  refine ⟨block_setCell (a := ⟨g, i, none⟩) h.1 (fun e => hg e.symm) _, fun i' hi => ?_⟩
  obtain ⟨s1, s2, r, rn, rc, f, fn, fc, h1, h2, h3, h4, h5, h6⟩ := h.2 i' hi
  exact ⟨s1, s2, r, rn, rc, f, fn, fc, h1, h2, h3, h4, h5.set g i _ (Or.inr ⟨t, rfl⟩), h6.set g i _ (Or.inr ⟨t, rfl⟩)⟩
theorem LT.nil (w : World) (base xb : Nat) (r : Option Addr) : LT w base xb N r 0 := ⟨by omega, fun k hk => absurd hk (Nat.not_lt_zero _)⟩
theorem getElem?_set_or {c : Array Value} {j k : Nat} {v x : Value} (h : c[k]? = some x) : (j = k ∧ (c.setIfInBounds j v)[k]? = some v) ∨ (j ≠ k ∧ (c.setIfInBounds j v)[k]? = some x) := by
  by_cases e : j = k
  · subst e
    have := (Array.getElem?_eq_some_iff.1 h).1
    exact Or.inl ⟨rfl, by simp [this]⟩
  · exact Or.inr ⟨e, by rw [Array.getElem?_setIfInBounds_ne e]; exact h⟩
theorem WT.setRow (h : WT w base xb N cur n) (j : Nat) (v : Value) (hv : ((∃ s, v = .string s) ∧ j % 4 < 2) ∨ (v = .slice none 0 0 ∧ 2 ≤ j % 4)) : WT (w.setCell ⟨xb, j, none⟩ v) base xb N (cur.setIfInBounds j v) n := by
  refine ⟨block_set h.1 v, fun i hi => ?_⟩
  obtain ⟨s1, s2, r, rn, rc, f, fn, fc, h1, h2, h3, h4, h5, h6⟩ := h.2 i hi
  have k5 := h5.set xb j v (Or.inl rfl)
  have k6 := h6.set xb j v (Or.inl rfl)
  have g1 : ∃ s, (cur.setIfInBounds j v)[i * 4]? = some (.string s) := by
    rcases getElem?_set_or (j := j) (v := v) h1 with ⟨e, g⟩ | ⟨_, g⟩
    · rcases hv with ⟨⟨s, rfl⟩, _⟩ | ⟨_, hm⟩
      · exact ⟨s, g⟩
      · omega
    · exact ⟨_, g⟩
  have g2 : ∃ s, (cur.setIfInBounds j v)[i * 4 + 1]? = some (.string s) := by
    rcases getElem?_set_or (j := j) (v := v) h2 with ⟨e, g⟩ | ⟨_, g⟩
    · rcases hv with ⟨⟨s, rfl⟩, _⟩ | ⟨_, hm⟩
      · exact ⟨s, g⟩
      · omega
    · exact ⟨_, g⟩
  have g3 : ∃ r rn rc, (cur.setIfInBounds j v)[i * 4 + 2]? = some (.slice r rn rc) ∧ LT (w.setCell ⟨xb, j, none⟩ v) base xb N r rn := by
    rcases getElem?_set_or (j := j) (v := v) h3 with ⟨e, g⟩ | ⟨_, g⟩
    · rcases hv with ⟨_, hm⟩ | ⟨rfl, _⟩
      · omega
      · exact ⟨_, _, _, g, LT.nil _ _ _ _⟩
    · exact ⟨_, _, _, g, k5⟩
  have g4 : ∃ r rn rc, (cur.setIfInBounds j v)[i * 4 + 3]? = some (.slice r rn rc) ∧ LT (w.setCell ⟨xb, j, none⟩ v) base xb N r rn := by
    rcases getElem?_set_or (j := j) (v := v) h4 with ⟨e, g⟩ | ⟨_, g⟩
    · rcases hv with ⟨_, hm⟩ | ⟨rfl, _⟩
      · omega
      · exact ⟨_, _, _, g, LT.nil _ _ _ _⟩
    · exact ⟨_, _, _, g, k6⟩
  obtain ⟨t1, g1⟩ := g1
  obtain ⟨t2, g2⟩ := g2
  obtain ⟨r', rn', rc', g3, g5⟩ := g3
  obtain ⟨f', fn', fc', g4, g6⟩ := g4
  exact ⟨t1, t2, r', rn', rc', f', fn', fc', g1, g2, g3, g4, g5, g6⟩
theorem WT.req (h : WT w base xb N cur n) {i : Nat} (hi : i < n) {r : Option Addr} {rn rc : Nat} (hc : cur[i * 4 + 2]? = some (.slice r rn rc)) : LT w base xb N r rn := by
  obtain ⟨s1, s2, r', rn', rc', f, fn, fc, h1, h2, h3, h4, h5, h6⟩ := h.2 i hi
  rw [hc] at h3
  simp only [Option.some.injEq, Value.slice.injEq] at h3
  obtain ⟨rfl, rfl, rfl⟩ := h3
  exact h5
theorem WT.aft (h : WT w base xb N cur n) {i : Nat} (hi : i < n) {r : Option Addr} {rn rc : Nat} (hc : cur[i * 4 + 3]? = some (.slice r rn rc)) : LT w base xb N r rn := by
  obtain ⟨s1, s2, r', rn', rc', f, fn, fc, h1, h2, h3, h4, h5, h6⟩ := h.2 i hi
  rw [hc] at h4
  simp only [Option.some.injEq, Value.slice.injEq] at h4
  obtain ⟨rfl, rfl, rfl⟩ := h4
  exact h6
theorem WT.cell (h : WT w base xb N cur n) {j : Nat} {v : Value} (hc : cur[j]? = some v) : w.cell? ⟨xb, j, none⟩ = some v := block_cell h.1 hc
theorem WT.free (h : WT w base xb N cur n) (j : Nat) : w.frozen? ⟨xb, j, none⟩ = false := block_free h.1
end
/-- The list as it came out. -/
def XT (w : World) (base N n : Nat) (v : Value) : Prop := (n = 0 ∧ v = .slice none 0 0) ∨ ∃ g c cur, v = .slice (some ⟨g, 0, none⟩) n c ∧ base ≤ g ∧ g < N ∧ WT w base g N cur n
theorem XT.of_own {w : World} {base : Nat} {v : Value} {us : List U} {n : Nat} {xs : List Value} (hown : w.ownsRow base 37 4 v n xs) (hf : UFlat (fun b => (base ≤ b ∧ v.ownBlock ≠ some b) ∧ Fz w b) w xs us) : XT w base w.heap.size n v := by
  obtain ⟨hx, hc⟩ := hown
  have hn : n = us.length := by have := hf.1; omega
  subst hn
  rcases hc with ⟨rfl, h0⟩ | ⟨g, cap, cur, rfl, hb, hh, hle, hm, hsz, htk⟩
  · exact Or.inl ⟨h0, rfl⟩
  · refine Or.inr ⟨g, cap, cur, rfl, hb, block_lt hh, hh, fun i hi => ?_⟩
    obtain ⟨u, hu⟩ := get_lt us hi
    obtain ⟨h1, h2, _, _, r, f, h5, h6, h7, h8⟩ := hf.2 i u hu
    have cell : ∀ j x, j < us.length * 4 → xs[j]? = some x → cur[j]? = some x := by
      intro j x hj hx
      rw [← htk, List.getElem?_take, if_pos hj] at hx
      simpa using hx
    have ls : ∀ {v : Value} {ss : List ByteArray}, SLP (fun b => (base ≤ b ∧ (Value.slice (some ⟨g, 0, none⟩) us.length cap).ownBlock ≠ some b) ∧ Fz w b) w v ss → ∃ r rc, v = .slice r ss.length rc ∧ LT w base g w.heap.size r ss.length := by
      intro v ss hs
      obtain ⟨a, c, hv, _, hl, hc⟩ := hs
      refine ⟨a, c, hv, hl, fun k hk => ?_⟩
      obtain ⟨s, hs⟩ := get_lt ss hk
      obtain ⟨b, off, ha, hcell, _, hp⟩ := hc k s hs
      exact ⟨b, off, s, ha, hcell, hp.2, hp.1.1, fun e => hp.1.2 (by rw [e]; rfl), hp.2.lt⟩
    obtain ⟨ra, rc, rfl, l1⟩ := ls h7
    obtain ⟨fa, fc, rfl, l2⟩ := ls h8
    exact ⟨_, _, ra, _, rc, fa, _, fc, cell _ _ (by omega) h1, cell _ _ (by omega) h2, cell _ _ (by omega) h5, cell _ _ (by omega) h6, l1, l2⟩
theorem XT.below {w w' : World} {base N n : Nat} {v : Value} (h : XT w base N n v) (hb : Below w.heap.size w w') : XT w' base N n v := by
  rcases h with h | ⟨g, c, cur, h1, h2, h3, h4⟩
  · exact Or.inl h
  · exact Or.inr ⟨g, c, cur, h1, h2, h3, h4.below hb⟩
end Go.Proofs.YthefajkihnlgfaaGreatDoor

/- bootjacklaw19.same of two systems of one configuration: the walk. -/
namespace Go.Proofs.YthefajkihnlgfaaGreatDoor
open Go.RowKit Go.Shelf
set_option linter.unusedSimpArgs false
set_option linter.unusedVariables false
theorem sameU_refl (x : U) : sameU x x = true := by unfold sameU; simp
theorem sameAllU_refl (l : List U) : sameAllU l l = true := by
  unfold sameAllU
  rw [decide_eq_true rfl, Bool.true_and, List.all_eq_true]
  intro p hp
  obtain ⟨h, _⟩ := zip_self' hp
  rw [h]
  exact sameU_refl _
where zip_self' {α : Type} : ∀ {l : List α} {p : α × α}, p ∈ l.zip l → p.1 = p.2 ∧ p.1 ∈ l
  | [], p, h => by simp at h
  | a :: r, p, h => by
    rw [List.zip_cons_cons, List.mem_cons] at h
    rcases h with rfl | h
    · simp
    · exact ⟨(zip_self' h).1, List.mem_cons_of_mem _ (zip_self' h).2⟩
set_option maxHeartbeats 8000000 in
set_option maxRecDepth 100000 in
theorem same19_any {a1 b1 c1 a2 b2 c2 : Value} {cf : Cf} {w : World} (h1 : SV w a1 b1 c1 cf) (h2 : SV w a2 b2 c2 cf) :
    Calls Tryz.prog 8 #[.agg #[a1, b1, c1], .agg #[a2, b2, c2]] w fun e w' => e = .returned (.bool true) ∧ Below w.heap.size w w' := by
  have HU := Lib.hid (fun W (hW : Below w.heap.size w W) => sameAll_any (UL.keeps hW h1.un) (UL.keeps hW h2.un))
  rw [sameAllU_refl] at HU
  obtain ⟨fa1, fk1, rfl, hfz, hf1⟩ := h1.fi
  obtain ⟨fa2, fk2, rfl, _, hf2⟩ := h2.fi
  obtain ⟨ua1, uk1, rfl, _, huz, hu1⟩ := h1.us
  obtain ⟨ua2, uk2, rfl, _, _, hu2⟩ := h2.us
  obtain ⟨na1, nk1, rfl, _, _⟩ := h1.un
  obtain ⟨na2, nk2, rfl, _, _⟩ := h2.un
  have HF1 := Lib.hid hf1
  have HF2 := Lib.hid hf2
  have HU1 := Lib.hid hu1
  have HU2 := Lib.hid hu2
  clear h1 h2 hf1 hf2 hu1 hu2
  obtain ⟨fs, hfs⟩ : ∃ fs, cf.fs.map fileOf = fs := ⟨_, rfl⟩
  obtain ⟨us, hus⟩ : ∃ us, cf.us = us := ⟨_, rfl⟩
  obtain ⟨un, hun⟩ : ∃ un, cf.un.map unitOf = un := ⟨_, rfl⟩
  rw [hfs] at HF1 HF2 hfz ⊢
  rw [hus] at HU1 HU2 huz ⊢
  rw [hun] at HU ⊢
  clear hfs hus hun
  obtain ⟨nf, hnf⟩ : ∃ n, fs.length = n := ⟨_, rfl⟩
  obtain ⟨nu, hnu⟩ : ∃ n, us.length = n := ⟨_, rfl⟩
  obtain ⟨nn, hnn⟩ : ∃ n, un.length = n := ⟨_, rfl⟩
  rw [hnn] at HU
  rw [hnf] at hfz
  rw [hnu] at huz
  rw [hnf, hnu, hnn]
  have HNF := Lib.hid hnf
  have HNU := Lib.hid hnu
  clear hnf hnu hnn
  have bf : ((nf : Int) != (nf : Int)) = false := by simp
  have bu : ((nu : Int) != (nu : Int)) = false := by simp
  go_enter Tryz.func8, Tryz.ntmps8
  go_wp2_with fail
  refine (HU.out _ (((Below.refl _ _).alloc (Nat.le_refl _) _).alloc (by simp) _)).mono ?_
  rintro e w1 ⟨rfl, hb1⟩
  have hB1 : Below w.heap.size w w1 := Below.next (((Below.refl _ _).alloc (Nat.le_refl _) _).alloc (by simp) _) hb1
  have hA := block_below (block_alloc (block_new w (.cells #[.slice fa1 nf fk1, .slice ua1 nu uk1, .slice na1 nn nk1] 32 (0, 0)) rfl) (.cells #[.slice fa2 nf fk2, .slice ua2 nu uk2, .slice na2 nn nk2] 32 (0, 0))) hb1
  have hC := block_below (block_new (w.alloc (.cells #[.slice fa1 nf fk1, .slice ua1 nu uk1, .slice na1 nn nk1] 32 (0, 0))) (.cells #[.slice fa2 nf fk2, .slice ua2 nu uk2, .slice na2 nn nk2] 32 (0, 0)) (g := w.heap.size + 1) (by simp)) hb1
  have p0 := block_cell (i := 0) hA rfl
  have p1 := block_cell (i := 1) hA rfl
  have q0 := block_cell (i := 0) hC rfl
  have q1 := block_cell (i := 1) hC rfl
  clear hb1
  go_wp2_with fail
  go_loopw [6] (fun i wr => ∃ k : Nat, k ≤ nf ∧ i = .int .i64 (k : Int) ∧ wr.heap[w.heap.size]? = some (.cells #[.slice fa1 nf fk1, .slice ua1 nu uk1, .slice na1 nn nk1] 32 (0, 0)) ∧ wr.heap[w.heap.size + 1]? = some (.cells #[.slice fa2 nf fk2, .slice ua2 nu uk2, .slice na2 nn nk2] 32 (0, 0)) ∧ Below w.heap.size w wr) (fun i _ => nf - (intOf i).toNat)
  case atStart => exact ⟨0, Nat.zero_le _, rfl, hA, hC, hB1⟩
  case round =>
    clear hA hC hB1 p0 p1 q0 q1
    obtain ⟨k, hk, rfl, hA, hC, hb⟩ := hrel
    have p0 := block_cell (i := 0) hA rfl
    have p1 := block_cell (i := 1) hA rfl
    have q0 := block_cell (i := 0) hC rfl
    have q1 := block_cell (i := 1) hC rfl
    by_cases hlt : k < nf
    · have hltI : (k : Int) < (nf : Int) := by omega
      obtain ⟨f, hf⟩ := get_lt fs (k := k) (by have := HNF.out; omega)
      obtain ⟨x1, o1, d1, rfl, k1, k2, k3, hd1⟩ := HF1.out k f hf
      obtain ⟨x2, o2, d2, rfl, l1, l2, l3, hd2⟩ := HF2.out k f hf
      have k1 := cell_keeps hb k1
      have k2 := cell_keeps hb k2
      have k3 := cell_keeps hb k3
      have l1 := cell_keeps hb l1
      have l2 := cell_keeps hb l2
      have l3 := cell_keeps hb l3
      have t1 : ∀ n, (convert 40 9 d1).run Tryz.prog (wr.drewN n) = .ok (.string ⟨f.data.toArray⟩) (wr.drewN n) := fun n => ((hd1.keeps hb).keeps (below_drewN' wr n)).text
      have t2 : ∀ n, (convert 40 9 d2).run Tryz.prog (wr.drewN n) = .ok (.string ⟨f.data.toArray⟩) (wr.drewN n) := fun n => ((hd2.keeps hb).keeps (below_drewN' wr n)).text
      have e1 : (f.path.toList == f.path.toList) = true := by simp
      have e2 : ((⟨f.data.toArray⟩ : ByteArray).toList == (⟨f.data.toArray⟩ : ByteArray).toList) = true := by simp
      obtain ⟨y1, m1, z1, rfl⟩ := hd1.one
      obtain ⟨y2, m2, z2, rfl⟩ := hd2.one
      clear hf hd1 hd2
      go_upto_region 7 with fail
      go_quiet (fail)
      go_wp2_with fail
      go_roundw
      case rel => exact ⟨k + 1, by omega, by go_num, hA, hC, below_drewN hb _⟩
      case measure => simp [intOf]; omega
    · have hltI : ¬ ((k : Int) < (nf : Int)) := by omega
      obtain rfl : k = nf := by omega
      go_wp2_with fail
      go_loopw [7] (fun i wr => ∃ j : Nat, j ≤ nu ∧ i = .int .i64 (j : Int) ∧ wr.heap[w.heap.size]? = some (.cells #[.slice fa1 k fk1, .slice ua1 nu uk1, .slice na1 nn nk1] 32 (0, 0)) ∧ wr.heap[w.heap.size + 1]? = some (.cells #[.slice fa2 k fk2, .slice ua2 nu uk2, .slice na2 nn nk2] 32 (0, 0)) ∧ Below w.heap.size w wr) (fun i _ => nu - (intOf i).toNat)
      case atStart => exact ⟨0, Nat.zero_le _, rfl, hA, hC, hb⟩
      case round =>
        clear hA hC hb p0 p1 q0 q1
        obtain ⟨j, hj, rfl, hA, hC, hb⟩ := hrel
        have p1 := block_cell (i := 1) hA rfl
        have q1 := block_cell (i := 1) hC rfl
        by_cases hlj : j < nu
        · have hljI : (j : Int) < (nu : Int) := by omega
          obtain ⟨s, hs⟩ := get_lt us (k := j) (by have := HNU.out; omega)
          obtain ⟨x1, o1, rfl, k1, _, _⟩ := HU1.out j s hs
          obtain ⟨x2, o2, rfl, l1, _, _⟩ := HU2.out j s hs
          have k1 := cell_keeps hb k1
          have l1 := cell_keeps hb l1
          have e1 : (s.toList == s.toList) = true := by simp
          clear hs
          go_wp2_with fail
          go_quiet (fail)
          go_wp2_with fail
          go_roundw
          case rel => exact ⟨j + 1, by omega, by go_num, hA, hC, below_drewN hb _⟩
          case measure => simp [intOf]; omega
        · have hljI : ¬ ((j : Int) < (nu : Int)) := by omega
          go_wp2_with fail
          go_ret
          exact ⟨rfl, hb⟩
end Go.Proofs.YthefajkihnlgfaaGreatDoor

