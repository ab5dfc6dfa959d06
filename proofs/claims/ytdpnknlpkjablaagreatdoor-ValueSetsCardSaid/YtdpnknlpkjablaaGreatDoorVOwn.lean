/- Lists of values of the call's own. -/
import Derived.Test.YtdpnknlpkjablaaGreatDoorVBase
import Derived.Maps.AppendAt
import Derived.OwnWalk
namespace Go.Proofs.YtdpnknlpkjablaaGreatDoor
open Go.RowKit

theorem infoV : (Tryz.prog.info? 27).map (fun i => (i.zero, i.size, i.bytes)) = some (some (.agg #[.int .i64 0, .int .i64 0, .float .f64 0, .string ⟨#[]⟩, .slice none 0 0, .slice none 0 0]), 6, 88) := by kernel_rfl
/-- Six cells a value. -/
def VFlat (d : Nat) (w : World) (cs : List Value) (xs : List V) : Prop :=
  cs.length = xs.length * 6 ∧ ∀ i x, xs[i]? = some x → ∃ r f, cs[i * 6]? = some (.int .i64 x.kind) ∧ cs[i * 6 + 1]? = some (.int .i64 x.int) ∧ cs[i * 6 + 2]? = some (.float .f64 x.flt) ∧ cs[i * 6 + 3]? = some (.string x.text) ∧ cs[i * 6 + 4]? = some r ∧ cs[i * 6 + 5]? = some f ∧ VI d w x r f
theorem VFlat.nil (d : Nat) (w : World) : VFlat d w [] [] := ⟨rfl, fun i x h => by simp at h⟩
theorem VFlat.append {d : Nat} {w : World} {cs ds : List Value} {xs ys : List V} (h : VFlat d w cs xs) (k : VFlat d w ds ys) : VFlat d w (cs ++ ds) (xs ++ ys) := by
  obtain ⟨hl, hc⟩ := h
  obtain ⟨kl, kc⟩ := k
  refine ⟨by simp [hl, kl, Nat.add_mul], fun i x hi => ?_⟩
  by_cases hlt : i < xs.length
  · rw [List.getElem?_append_left hlt] at hi
    obtain ⟨r, f, h0, h1, h2, h3, h4, h5, h6⟩ := hc i x hi
    have a : ∀ j, j < 6 → i * 6 + j < cs.length := fun j hj => by omega
    exact ⟨r, f, by rw [List.getElem?_append_left (by omega)]; exact h0, by rw [List.getElem?_append_left (a 1 (by omega))]; exact h1, by rw [List.getElem?_append_left (a 2 (by omega))]; exact h2,
      by rw [List.getElem?_append_left (a 3 (by omega))]; exact h3, by rw [List.getElem?_append_left (a 4 (by omega))]; exact h4, by rw [List.getElem?_append_left (a 5 (by omega))]; exact h5, h6⟩
  · rw [List.getElem?_append_right (by omega)] at hi
    obtain ⟨r, f, h0, h1, h2, h3, h4, h5, h6⟩ := kc _ x hi
    have a : ∀ j, i * 6 + j - cs.length = (i - xs.length) * 6 + j := fun j => by rw [hl, Nat.sub_mul]; omega
    exact ⟨r, f, by rw [List.getElem?_append_right (by omega), show i * 6 - cs.length = (i - xs.length) * 6 from a 0]; exact h0, by rw [List.getElem?_append_right (by omega), a]; exact h1, by rw [List.getElem?_append_right (by omega), a]; exact h2,
      by rw [List.getElem?_append_right (by omega), a]; exact h3, by rw [List.getElem?_append_right (by omega), a]; exact h4, by rw [List.getElem?_append_right (by omega), a]; exact h5, h6⟩
theorem VFlat.one {d : Nat} {w : World} {cs : List Value} {xs : List V} (h : VFlat d w cs xs) : ∀ u ∈ cs, u.oneCell' = true := by
  intro u hu
  obtain ⟨j, hj⟩ := List.getElem?_of_mem hu
  have hjl := (List.getElem?_eq_some_iff.1 hj).1
  obtain ⟨hl, hc⟩ := h
  obtain ⟨x, hx⟩ := get_lt xs (k := j / 6) (by omega)
  obtain ⟨r, f, h0, h1, h2, h3, h4, h5, h6⟩ := hc _ x hx
  obtain ⟨ra, rc, a, cap, rfl, rfl, _, _⟩ := h6.shape
  have hm : j = j / 6 * 6 ∨ j = j / 6 * 6 + 1 ∨ j = j / 6 * 6 + 2 ∨ j = j / 6 * 6 + 3 ∨ j = j / 6 * 6 + 4 ∨ j = j / 6 * 6 + 5 := by omega
  rcases hm with e | e | e | e | e | e <;> rw [e] at hj
  · rw [h0] at hj; cases hj; rfl
  · rw [h1] at hj; cases hj; rfl
  · rw [h2] at hj; cases hj; rfl
  · rw [h3] at hj; cases hj; rfl
  · rw [h4] at hj; cases hj; rfl
  · rw [h5] at hj; cases hj; rfl
theorem VFlat.keeps {w w' : World} (hb : Below w.heap.size w w') {d : Nat} {cs : List Value} {xs : List V} (h : VFlat d w cs xs) : VFlat d w' cs xs :=
  ⟨h.1, fun i x hi => by obtain ⟨r, f, h0, h1, h2, h3, h4, h5, h6⟩ := h.2 i x hi; exact ⟨r, f, h0, h1, h2, h3, h4, h5, h6.keeps hb⟩⟩
theorem add_at (b o j : Nat) : (⟨b, o, none⟩ : Addr).add j = ⟨b, o + j, none⟩ := by unfold Addr.add; split <;> simp_all
/-- A list's cells. -/
theorem VLs.cells {d : Nat} {w : World} {b off n cap : Nat} {xs : List V} (h : VLs d w (.slice (some ⟨b, off, none⟩) n cap) xs) : n = xs.length ∧ ∃ cs, VFlat d w cs xs ∧ ∀ j u, cs[j]? = some u → w.cell? ((⟨b, off, none⟩ : Addr).add j) = some u := by
  obtain ⟨a, cap', he, _, hb, hc⟩ := h
  cases he
  refine ⟨rfl, (List.range (xs.length * 6)).map (fun j => (w.cell? ⟨b, off + j, none⟩).getD undef), ⟨by simp, fun i x hi => ?_⟩, fun j u hj => ?_⟩
  · have hil := (List.getElem?_eq_some_iff.1 hi).1
    obtain ⟨b', off', r, f, k0, k1, k2, k3, k4, k5, k6, k7⟩ := hc i x hi
    cases k0
    have at' : ∀ j, j < 6 → ((List.range (xs.length * 6)).map (fun j => (w.cell? ⟨b, off + j, none⟩).getD undef))[i * 6 + j]? = some ((w.cell? ⟨b, off + i * 6 + j, none⟩).getD undef) := by
      intro j hj
      rw [List.getElem?_map, List.getElem?_range (by omega)]
      simp [Nat.add_assoc]
    refine ⟨r, f, ?_, ?_, ?_, ?_, ?_, ?_, k7⟩
    · have := at' 0 (by omega); simp only [Nat.add_zero] at this; rw [this, k1]; rfl
    · rw [at' 1 (by omega), k2]; rfl
    · rw [at' 2 (by omega), k3]; rfl
    · rw [at' 3 (by omega), k4]; rfl
    · rw [at' 4 (by omega), k5]; rfl
    · rw [at' 5 (by omega), k6]; rfl
  · have hjl := (List.getElem?_eq_some_iff.1 hj).1
    simp at hjl
    rw [List.getElem?_map, List.getElem?_range (by omega)] at hj
    simp at hj
    obtain ⟨x, hx⟩ := get_lt xs (k := j / 6) (by omega)
    obtain ⟨b', off', r, f, k0, k1, k2, k3, k4, k5, k6, k7⟩ := hc _ x hx
    cases k0
    rw [add_at]
    have hm : j = j / 6 * 6 ∨ j = j / 6 * 6 + 1 ∨ j = j / 6 * 6 + 2 ∨ j = j / 6 * 6 + 3 ∨ j = j / 6 * 6 + 4 ∨ j = j / 6 * 6 + 5 := by omega
    have some' : ∀ v, w.cell? ⟨b, off + j, none⟩ = some v → w.cell? ⟨b, off + j, none⟩ = some u := fun v hv => by rw [hv] at hj ⊢; simpa using hj
    rcases hm with e | e | e | e | e | e
    · exact some' _ (by rw [e]; exact k1)
    · exact some' _ (by rw [e, ← Nat.add_assoc]; exact k2)
    · exact some' _ (by rw [e, ← Nat.add_assoc]; exact k3)
    · exact some' _ (by rw [e, ← Nat.add_assoc]; exact k4)
    · exact some' _ (by rw [e, ← Nat.add_assoc]; exact k5)
    · exact some' _ (by rw [e, ← Nat.add_assoc]; exact k6)
theorem VLs.none_nil {d : Nat} {w : World} {n cap : Nat} {xs : List V} (h : VLs d w (.slice none n cap) xs) : n = 0 ∧ cap = 0 ∧ xs = [] := by
  obtain ⟨a, cap', he, hz, _, hc⟩ := h
  cases he
  have : xs = [] := by
    cases xs with
    | nil => rfl
    | cons x r =>
      obtain ⟨b, off, _, _, k0, _⟩ := hc 0 x rfl
      cases k0
  subst this
  exact ⟨rfl, hz rfl, rfl⟩
/-- A list of the call's own reads as what its cells do. -/
theorem VLs.of_own {d : Nat} {w : World} {base n : Nat} {v : Value} {cs : List Value} {xs : List V} (ho : w.ownsRow base 27 6 v n cs) (hf : VFlat d w cs xs) (hn : n = xs.length) (hl : xs.length ≤ 1599289640400) : VLs d w v xs := by
  subst hn
  obtain ⟨h1, h2⟩ := ho
  rcases h2 with ⟨rfl, h0⟩ | ⟨g, cap, cur, rfl, hg, hh, hle, hm, hsz, htk⟩
  · refine ⟨none, 0, by rw [h0], fun _ => rfl, hl, fun i x hi => ?_⟩
    have := (List.getElem?_eq_some_iff.1 hi).1
    omega
  · refine ⟨_, cap, rfl, (fun e => by cases e), hl, fun i x hi => ?_⟩
    have hil := (List.getElem?_eq_some_iff.1 hi).1
    obtain ⟨r, f, k0, k1, k2, k3, k4, k5, k6⟩ := hf.2 i x hi
    have cell : ∀ j u, cs[j]? = some u → w.cell? ⟨g, 0 + j, none⟩ = some u := by
      intro j u hj
      rw [Nat.zero_add]
      refine block_cell hh ?_
      rw [← htk, List.getElem?_take] at hj
      split at hj
      · simpa using hj
      · cases hj
    have c1 := cell _ _ k1
    have c2 := cell _ _ k2
    have c3 := cell _ _ k3
    have c4 := cell _ _ k4
    have c5 := cell _ _ k5
    rw [← Nat.add_assoc] at c1 c2 c3 c4 c5
    exact ⟨g, 0, r, f, rfl, cell _ _ k0, c1, c2, c3, c4, c5, k6⟩

/-- append(list of the call's own, any list of values ...). -/
theorem append_vals {w : World} {ops : Array Oper} {rest : List Oper} {o : Oper} {a : Act} {Q : Exit → Act → World → Prop} (hgd : o.guard = none) (s x : Operand)
    (ho : o.op = .call { callee := .builtin .append, args := #[s, x], argTypes := #[25, 25] })
    (base : Nat) (v : Value) (n : Nat) (cs : List Value) (hs : a.eval s = v) (hown : w.ownsRow base 27 6 v n cs)
    (d : Nat) (y : Value) (xs : List V) (hx : a.eval x = y) (w0 : World) (hb0 : Below w0.heap.size w0 w) (hy : VLs d w0 y xs) (hn : n + xs.length ≤ 1599289640400) (hbase : base ≤ w.heap.size)
    (h : ∀ v' w' ns, w'.ownsRow base 27 6 v' (n + xs.length) (cs ++ ns) → VFlat d w0 ns xs → w.grownBy w' v.ownBlock → (v'.ownBlock = v.ownBlock ∨ v'.ownBlock = some w.heap.size) → wpList Tryz.prog ops Q rest (a.put o.dst v') w') : wpList Tryz.prog ops Q (o :: rest) a w := by
  obtain ⟨i0, hi, hz0, hz1, hz2⟩ := info_parts infoV
  obtain ⟨ad, cap, rfl, hz, hl, hc⟩ := id hy
  cases ad with
  | none =>
    obtain ⟨h0, rfl, rfl⟩ := hy.none_nil
    exact wpList_append_own_none hgd s x 25 ho base 27 i0 6 Tryz.underlying25 hi v n cs hs hown hx (h v w [] (by simpa using hown) (VFlat.nil _ _) ⟨rfl, rfl, rfl, Nat.le_refl _, fun _ _ _ => rfl⟩ (Or.inl rfl))
  | some ad =>
    by_cases h0 : xs = []
    · subst h0
      refine wpList_append_own_at w hgd s x 25 ho base 27 i0 _ 6 88 Tryz.underlying25 hi hz0 hz1 hz2 rfl (by decide) v n cs hs hown ad 0 cap [] hx rfl (fun j u hu => by simp at hu) (fun u hu => by simp at hu) (by unfold maxLen; simp at hn; omega) (by simp at hn; omega) hbase (fun v' w' h2 h3 _ h5 => h v' w' [] (by simpa using h2) (VFlat.nil _ _) h3 h5)
    · obtain ⟨x0, hx0⟩ := get_lt xs (k := 0) (by cases xs with | nil => exact absurd rfl h0 | cons _ _ => simp)
      obtain ⟨b, off, _, _, k0, _⟩ := hc 0 x0 hx0
      cases k0
      obtain ⟨_, ns, hf, hcell⟩ := hy.cells
      exact wpList_append_own_at w hgd s x 25 ho base 27 i0 _ 6 88 Tryz.underlying25 hi hz0 hz1 hz2 rfl (by decide) v n cs hs hown ⟨b, off, none⟩ xs.length cap ns hx hf.1 (fun j u hj => cell_keeps hb0 (hcell j u hj)) hf.one (by unfold maxLen; omega) (by omega) hbase (fun v' w' h2 h3 _ h5 => h v' w' ns h2 hf h3 h5)
end Go.Proofs.YtdpnknlpkjablaaGreatDoor
