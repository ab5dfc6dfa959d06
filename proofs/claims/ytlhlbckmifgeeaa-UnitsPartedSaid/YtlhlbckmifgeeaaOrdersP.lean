/- A list of units whose cells the caller writes over: what stays of its shape. -/
import Derived.Test.YtlhlbckmifgeeaaRefOrd
namespace Go.Proofs.Ytlhlbckmifgeeaa
open Go.RowKit

/-- A list of strings that may be written, in blocks from base on, none of them the row's. -/
def LS (w : World) (base xb : Nat) (r : Option Addr) (n : Nat) : Prop :=
  n ≤ 8796093021952 ∧ ∀ k, k < n → ∃ b off s, r = some ⟨b, off, none⟩ ∧ w.cell? ⟨b, off + k, none⟩ = some (.string s) ∧ Fz w b ∧ base ≤ b ∧ b ≠ xb
/-- A row of units that may be written. -/
def WS (w : World) (base xb : Nat) (cur : Array Value) (n : Nat) : Prop :=
  w.heap[xb]? = some (.cells cur 32 (0, 0)) ∧ ∀ i, i < n → ∃ s1 s2 r rn rc f fn fc, cur[i * 4]? = some (.string s1) ∧ cur[i * 4 + 1]? = some (.string s2) ∧ cur[i * 4 + 2]? = some (.slice r rn rc) ∧ cur[i * 4 + 3]? = some (.slice f fn fc) ∧ LS w base xb r rn ∧ LS w base xb f fn
theorem cell_iff {w : World} {b i : Nat} {c : Array Value} {e : TypeId} {fz : Nat × Nat} (h : w.heap[b]? = some (.cells c e fz)) : w.cell? ⟨b, i, none⟩ = c[i]? := by
  simp [World.cell?, h]
section
variable {w : World} {base xb n : Nat} {cur : Array Value}
theorem LS.set {r : Option Addr} (h : LS w base xb r n) (g i : Nat) (v : Value) (hv : g = xb ∨ ∃ s, v = .string s) : LS (w.setCell ⟨g, i, none⟩ v) base xb r n := by
  refine ⟨h.1, fun k hk => ?_⟩
  obtain ⟨b, off, s, hr, hc, hf, hb, hx⟩ := h.2 k hk
  by_cases hg : b = g
  · subst hg
    rcases hv with hv | ⟨t, rfl⟩
    · exact absurd hv hx
    · obtain ⟨c, e, hh⟩ := hf
      rw [cell_iff hh] at hc
      have hh' := block_set (i := i) hh (.string t)
      by_cases hi : i = off + k
      · refine ⟨b, off, t, hr, ?_, ⟨_, _, hh'⟩, hb, hx⟩
        rw [cell_iff hh', hi]
        have := (Array.getElem?_eq_some_iff.1 hc).1
        simp [this]
      · refine ⟨b, off, s, hr, ?_, ⟨_, _, hh'⟩, hb, hx⟩
        rw [cell_iff hh', Array.getElem?_setIfInBounds_ne hi]
        exact hc
  · obtain ⟨c, e, hh⟩ := hf
    have hh' := block_setCell (a := ⟨g, i, none⟩) hh hg v
    refine ⟨b, off, s, hr, ?_, ⟨_, _, hh'⟩, hb, hx⟩
    rw [cell_iff hh', ← cell_iff hh]
    exact hc
theorem LS.below {w' : World} {r : Option Addr} (h : LS w base xb r n) (hb : Below w.heap.size w w') : LS w' base xb r n := by
  refine ⟨h.1, fun k hk => ?_⟩
  obtain ⟨b, off, s, hr, hc, hf, hbb, hx⟩ := h.2 k hk
  exact ⟨b, off, s, hr, cell_keeps hb hc, hf.below hb, hbb, hx⟩
theorem WS.below {w' : World} (h : WS w base xb cur n) (hb : Below w.heap.size w w') : WS w' base xb cur n := by
  refine ⟨by rw [hb.block xb (Array.getElem?_eq_some_iff.1 h.1).1]; exact h.1, fun i hi => ?_⟩
  obtain ⟨s1, s2, r, rn, rc, f, fn, fc, h1, h2, h3, h4, h5, h6⟩ := h.2 i hi
  exact ⟨s1, s2, r, rn, rc, f, fn, fc, h1, h2, h3, h4, h5.below hb, h6.below hb⟩
theorem WS.setStr (h : WS w base xb cur n) (g i : Nat) (t : ByteArray) (hg : g ≠ xb) : WS (w.setCell ⟨g, i, none⟩ (.string t)) base xb cur n := by
  refine ⟨block_setCell (a := ⟨g, i, none⟩) h.1 (fun e => hg e.symm) _, fun i' hi => ?_⟩
  obtain ⟨s1, s2, r, rn, rc, f, fn, fc, h1, h2, h3, h4, h5, h6⟩ := h.2 i' hi
  exact ⟨s1, s2, r, rn, rc, f, fn, fc, h1, h2, h3, h4, h5.set g i _ (Or.inr ⟨t, rfl⟩), h6.set g i _ (Or.inr ⟨t, rfl⟩)⟩
theorem LS.nil (w : World) (base xb : Nat) (r : Option Addr) : LS w base xb r 0 := ⟨by omega, fun k hk => absurd hk (Nat.not_lt_zero _)⟩
theorem getElem?_set_or {c : Array Value} {j k : Nat} {v x : Value} (h : c[k]? = some x) : (j = k ∧ (c.setIfInBounds j v)[k]? = some v) ∨ (j ≠ k ∧ (c.setIfInBounds j v)[k]? = some x) := by
  by_cases e : j = k
  · subst e
    have := (Array.getElem?_eq_some_iff.1 h).1
    exact Or.inl ⟨rfl, by simp [this]⟩
  · exact Or.inr ⟨e, by rw [Array.getElem?_setIfInBounds_ne e]; exact h⟩
theorem WS.setRow (h : WS w base xb cur n) (j : Nat) (v : Value) (hv : ((∃ s, v = .string s) ∧ j % 4 < 2) ∨ (v = .slice none 0 0 ∧ 2 ≤ j % 4)) : WS (w.setCell ⟨xb, j, none⟩ v) base xb (cur.setIfInBounds j v) n := by
  refine ⟨block_set h.1 v, fun i hi => ?_⟩
  obtain ⟨s1, s2, r, rn, rc, f, fn, fc, h1, h2, h3, h4, h5, h6⟩ := h.2 i hi
  have k5 := h5.set xb j v (Or.inl rfl)
  have k6 := h6.set xb j v (Or.inl rfl)
  have g1 : ∃ s, (cur.setIfInBounds j v)[i * 4]? = some (.string s) := by
    rcases getElem?_set_or (j := j) (v := v) h1 with ⟨e, g⟩ | ⟨_, g⟩
    · rcases hv with ⟨⟨s, rfl⟩, _⟩ | ⟨_, hm⟩
      · exact ⟨s, g⟩
      · omega
    · exact ⟨_, g⟩
  have g2 : ∃ s, (cur.setIfInBounds j v)[i * 4 + 1]? = some (.string s) := by
    rcases getElem?_set_or (j := j) (v := v) h2 with ⟨e, g⟩ | ⟨_, g⟩
    · rcases hv with ⟨⟨s, rfl⟩, _⟩ | ⟨_, hm⟩
      · exact ⟨s, g⟩
      · omega
    · exact ⟨_, g⟩
  have g3 : ∃ r rn rc, (cur.setIfInBounds j v)[i * 4 + 2]? = some (.slice r rn rc) ∧ LS (w.setCell ⟨xb, j, none⟩ v) base xb r rn := by
    rcases getElem?_set_or (j := j) (v := v) h3 with ⟨e, g⟩ | ⟨_, g⟩
    · rcases hv with ⟨_, hm⟩ | ⟨rfl, _⟩
      · omega
      · exact ⟨_, _, _, g, LS.nil _ _ _ _⟩
    · exact ⟨_, _, _, g, k5⟩
  have g4 : ∃ r rn rc, (cur.setIfInBounds j v)[i * 4 + 3]? = some (.slice r rn rc) ∧ LS (w.setCell ⟨xb, j, none⟩ v) base xb r rn := by
    rcases getElem?_set_or (j := j) (v := v) h4 with ⟨e, g⟩ | ⟨_, g⟩
    · rcases hv with ⟨_, hm⟩ | ⟨rfl, _⟩
      · omega
      · exact ⟨_, _, _, g, LS.nil _ _ _ _⟩
    · exact ⟨_, _, _, g, k6⟩
  obtain ⟨t1, g1⟩ := g1
  obtain ⟨t2, g2⟩ := g2
  obtain ⟨r', rn', rc', g3, g5⟩ := g3
  obtain ⟨f', fn', fc', g4, g6⟩ := g4
  exact ⟨t1, t2, r', rn', rc', f', fn', fc', g1, g2, g3, g4, g5, g6⟩
theorem WS.req (h : WS w base xb cur n) {i : Nat} (hi : i < n) {r : Option Addr} {rn rc : Nat} (hc : cur[i * 4 + 2]? = some (.slice r rn rc)) : LS w base xb r rn := by
  obtain ⟨s1, s2, r', rn', rc', f, fn, fc, h1, h2, h3, h4, h5, h6⟩ := h.2 i hi
  rw [hc] at h3
  simp only [Option.some.injEq, Value.slice.injEq] at h3
  obtain ⟨rfl, rfl, rfl⟩ := h3
  exact h5
theorem WS.aft (h : WS w base xb cur n) {i : Nat} (hi : i < n) {r : Option Addr} {rn rc : Nat} (hc : cur[i * 4 + 3]? = some (.slice r rn rc)) : LS w base xb r rn := by
  obtain ⟨s1, s2, r', rn', rc', f, fn, fc, h1, h2, h3, h4, h5, h6⟩ := h.2 i hi
  rw [hc] at h4
  simp only [Option.some.injEq, Value.slice.injEq] at h4
  obtain ⟨rfl, rfl, rfl⟩ := h4
  exact h6
theorem WS.cell (h : WS w base xb cur n) {j : Nat} {v : Value} (hc : cur[j]? = some v) : w.cell? ⟨xb, j, none⟩ = some v := block_cell h.1 hc
theorem WS.free (h : WS w base xb cur n) (j : Nat) : w.frozen? ⟨xb, j, none⟩ = false := block_free h.1
end
/-- The list as it came out. -/
def XS (w : World) (base n : Nat) (v : Value) : Prop := (n = 0 ∧ v = .slice none 0 0) ∨ ∃ g c cur, v = .slice (some ⟨g, 0, none⟩) n c ∧ base ≤ g ∧ WS w base g cur n
theorem XS.of_own {w : World} {base : Nat} {v : Value} {us : List U} {n : Nat} {xs : List Value} (hown : w.ownsRow base 32 4 v n xs) (hf : UFlat (fun b => (base ≤ b ∧ v.ownBlock ≠ some b) ∧ Fz w b) w xs us) : XS w base n v := by
  obtain ⟨hx, hc⟩ := hown
  have hn : n = us.length := by have := hf.1; omega
  subst hn
  rcases hc with ⟨rfl, h0⟩ | ⟨g, cap, cur, rfl, hb, hh, hle, hm, hsz, htk⟩
  · exact Or.inl ⟨h0, rfl⟩
  · refine Or.inr ⟨g, cap, cur, rfl, hb, hh, fun i hi => ?_⟩
    obtain ⟨u, hu⟩ := get_lt us hi
    obtain ⟨h1, h2, _, _, r, f, h5, h6, h7, h8⟩ := hf.2 i u hu
    have cell : ∀ j x, j < us.length * 4 → xs[j]? = some x → cur[j]? = some x := by
      intro j x hj hx
      rw [← htk, List.getElem?_take, if_pos hj] at hx
      simpa using hx
    have ls : ∀ {v : Value} {ss : List ByteArray}, SLP (fun b => (base ≤ b ∧ (Value.slice (some ⟨g, 0, none⟩) us.length cap).ownBlock ≠ some b) ∧ Fz w b) w v ss → ∃ r rc, v = .slice r ss.length rc ∧ LS w base g r ss.length := by
      intro v ss hs
      obtain ⟨a, c, hv, _, hl, hc⟩ := hs
      refine ⟨a, c, hv, hl, fun k hk => ?_⟩
      obtain ⟨s, hs⟩ := get_lt ss hk
      obtain ⟨b, off, ha, hcell, _, hp⟩ := hc k s hs
      exact ⟨b, off, s, ha, hcell, hp.2, hp.1.1, fun e => hp.1.2 (by rw [e]; rfl)⟩
    obtain ⟨ra, rc, rfl, l1⟩ := ls h7
    obtain ⟨fa, fc, rfl, l2⟩ := ls h8
    exact ⟨_, _, ra, _, rc, fa, _, fc, cell _ _ (by omega) h1, cell _ _ (by omega) h2, cell _ _ (by omega) h5, cell _ _ (by omega) h6, l1, l2⟩
theorem XS.below {w w' : World} {base n : Nat} {v : Value} (h : XS w base n v) (hb : Below w.heap.size w w') : XS w' base n v := by
  rcases h with h | ⟨g, c, cur, h1, h2, h3⟩
  · exact Or.inl h
  · exact Or.inr ⟨g, c, cur, h1, h2, h3.below hb⟩
end Go.Proofs.Ytlhlbckmifgeeaa
