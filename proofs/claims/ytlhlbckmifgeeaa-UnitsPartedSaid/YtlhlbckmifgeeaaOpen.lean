/- An argument that is a list of units, opened: it reads as units; and a law of one such argument, or two, as the row has it. -/
import Derived.Test.YtlhlbckmifgeeaaShown
import Derived.ProofKit
import Derived.SizedLaws
import Derived.SliceStrings
import Derived.Deep.Slices
namespace Go.Proofs.Ytlhlbckmifgeeaa
open Go.ChangeShapes Go.WideShapes Go.ChangeAt Go.RowKit

theorem Try.own : ownKnob Try.prog.godebug = none := by kernel_rfl
theorem Try.laidOut : laidOutB Try.prog = true := by kernel_rfl
theorem cellsS : Try.prog.cellsOf 9 = 1 := by kernel_rfl
theorem cellsL : Try.prog.cellsOf 30 = 1 := by kernel_rfl
theorem cellsU : Try.prog.cellsOf 32 = 4 := by kernel_rfl
theorem bytesS : Try.prog.bytesOf 9 = 16 := by kernel_rfl
theorem bytesU : Try.prog.bytesOf 32 = 80 := by kernel_rfl

section
variable {H : Type} {enc : TypeId × Value → H} {w : World} {base : Nat} {held : Bool}
theorem strs_len (ss : List ByteArray) : (strs (H := H) ss).length = ss.length := by simp [strs]

theorem open_list {fuel : Nat} {v : Value} {x : DataW H × List MemPlace} (h : DataW.trod enc Try.prog w base (fun _ => true) held fuel 30 [v] = some x) (hw : ∀ n, n ∈ x.1.weights Try.prog 30 → n ≤ reachBytes) :
    ∃ ss, SL w v ss := by
  rcases open_strings Try.underlying30 Try.underlying9 cellsS h with ⟨hcs, hx⟩ | ⟨a, len, cap, ss, hcs, _, hl, hm, hz, hx, hcell, hsz⟩
  · simp at hcs
    subst hcs
    exact ⟨[], slp_nil _ _⟩
  · simp at hcs
    subst hcs
    simp only [if_true] at hz
    have hlen : (ss.take len).length = len := by rw [List.length_take]; omega
    subst hx
    have hb : len ≤ 8796093021952 := by
      have := hw ((len + (cap - len)) * 16) (by
        simp only [DataW.weights, Try.underlying30, bytesS, strs_len, List.length_take, List.length_drop, List.mem_cons]
        left
        rw [hz, Nat.min_eq_left hl])
      unfold reachBytes at this
      omega
    refine ⟨ss.take len, some a, cap, by rw [hlen], (fun e => by cases e), by omega, fun i s hi => ?_⟩
    have hil := (List.getElem?_eq_some_iff.1 hi).1
    rw [List.getElem?_take, if_pos (by omega)] at hi
    have hc := hcell i (by omega)
    have hs : ss.getD i ByteArray.empty = s := by simp [List.getD, hi]
    rw [hs] at hc
    obtain ⟨b, off, spot⟩ := a
    have hspot : spot = none := by simpa [Addr.add] using World.cell?_spot (hcell 0 (by omega))
    subst hspot
    exact ⟨b, off, rfl, by rw [← add_plain]; exact hc, hsz s (List.mem_of_getElem? hi), trivial⟩

theorem open_unit {fuel : Nat} {cs : List Value} {x : DataW H × List MemPlace} (h : DataW.trod enc Try.prog w base (fun _ => true) held fuel 32 cs = some x) (hw : ∀ n, n ∈ x.1.weights Try.prog 32 → n ≤ reachBytes) :
    ∃ (u : U) (r f : Value), cs = [.string u.name, .string u.start, r, f] ∧ u.name.size ≤ maxLen ∧ u.start.size ≤ maxLen ∧ SL w r u.req ∧ SL w f u.aft := by
  obtain ⟨xs, n, _, hx, hcl, hxl, hf⟩ := DataW.trod_struct Try.underlying32 h
  rw [cellsU] at hcl
  match cs, hcl with
  | [c0, c1, c2, c3], _ =>
    match xs, hxl with
    | [y0, y1, y2, y3], _ =>
      have f0 : DataW.trod enc Try.prog w base (fun _ => true) held n 9 (([c0, c1, c2, c3].drop 0).take (Try.prog.cellsOf 9)) = some y0 := hf 0 _ rfl
      have f1 : DataW.trod enc Try.prog w base (fun _ => true) held n 9 (([c0, c1, c2, c3].drop 1).take (Try.prog.cellsOf 9)) = some y1 := hf 1 _ rfl
      have f2 : DataW.trod enc Try.prog w base (fun _ => true) held n 30 (([c0, c1, c2, c3].drop 2).take (Try.prog.cellsOf 30)) = some y2 := hf 2 _ rfl
      have f3 : DataW.trod enc Try.prog w base (fun _ => true) held n 30 (([c0, c1, c2, c3].drop 3).take (Try.prog.cellsOf 30)) = some y3 := hf 3 _ rfl
      rw [cellsS] at f0 f1
      rw [cellsL] at f2 f3
      simp only [List.drop, List.take] at f0 f1 f2 f3
      obtain ⟨s0, e0, rfl, h0⟩ := DataW.trod_string Try.underlying9 f0
      obtain ⟨s1, e1, rfl, h1⟩ := DataW.trod_string Try.underlying9 f1
      simp at e0 e1
      subst e0 e1
      subst hx
      simp only [DataW.weights, Try.underlying32, List.map_cons, List.map_nil, DataW.weightsEach] at hw
      obtain ⟨rq, hr⟩ := open_list f2 (fun n hn => hw n (by simp [hn]))
      obtain ⟨af, ha⟩ := open_list f3 (fun n hn => hw n (by simp [hn]))
      exact ⟨⟨s0, s1, rq, af⟩, c2, c3, rfl, h0, h1, hr, ha⟩

theorem weightsAll_mem {P : Program} {e : TypeId} {l : List (DataW H)} {d : DataW H} (hd : d ∈ l) {n : Nat} (hn : n ∈ d.weights P e) : n ∈ DataW.weightsAll P e l := by
  induction l with
  | nil => simp at hd
  | cons a r ih =>
    simp only [DataW.weightsAll, List.mem_append]
    rcases List.mem_cons.1 hd with rfl | hd
    · exact Or.inl hn
    · exact Or.inr (ih hd)

theorem open_units {fuel : Nat} {v : Value} {x : DataW H × List MemPlace} (h : DataW.trod enc Try.prog w base (fun _ => true) held fuel 22 [v] = some x) (hw : ∀ n, n ∈ x.1.weights Try.prog 22 → n ≤ reachBytes) :
    ∃ us, UL w v us := by
  rcases Deep.open_slice Try.underlying22 h with ⟨hcs, hx⟩ | ⟨a, len, cap, m, n, D, Pl, hcs, _, hl, hm, hmm, hx, hcell⟩
  · simp at hcs
    subst hcs
    exact ⟨[], none, 0, rfl, by simp, fun i u h => by simp at h⟩
  · simp at hcs
    subst hcs
    simp only [if_true] at hmm
    subst hmm
    subst hx
    rw [cellsU] at hcell
    have hb : len ≤ 1759218604390 := by
      have := hw ((len + (m - len)) * 80) (by
        simp only [DataW.weights, Try.underlying22, bytesU, List.length_map, List.length_range, List.mem_cons]
        left; trivial)
      unfold reachBytes at this
      omega
    have each : ∀ i, i < len → ∃ u : U, UC w a.block (a.off + i * 4) u ∧ a.spot = none := by
      intro i hi
      obtain ⟨cs', h1, h2⟩ := hcell i (by omega)
      obtain ⟨u, r, f, rfl, hn, hs, hr, hf⟩ := open_unit h2 (fun k hk => hw k (by
        simp only [DataW.weights, Try.underlying22, List.mem_cons, List.mem_append]
        right; left
        exact weightsAll_mem (List.mem_map.2 ⟨i, List.mem_range.2 hi, rfl⟩) hk))
      obtain ⟨_, _, hat⟩ := World.cells?_some h1
      have g0 := hat 0 (by omega)
      have g1 := hat 1 (by omega)
      have g2 := hat 2 (by omega)
      have g3 := hat 3 (by omega)
      simp only [Deep.add_add] at g0 g1 g2 g3
      obtain ⟨b, off, spot⟩ := a
      have hspot : spot = none := by
        obtain ⟨cs2, k1, k2⟩ := hcell 0 (by omega)
        obtain ⟨_, kl, kat⟩ := World.cells?_some k1
        have k0 := kat 0 (by omega)
        rw [List.getElem?_eq_getElem (by omega)] at k0
        simpa [Addr.add] using World.cell?_spot k0
      subst hspot
      simp only [add_plain, ← Nat.add_assoc] at g0 g1 g2 g3
      exact ⟨u, ⟨g0, g1, hn, hs, r, f, g2, g3, hr, hf⟩, rfl⟩
    have : Inhabited U := ⟨⟨⟨#[]⟩, ⟨#[]⟩, [], []⟩⟩
    obtain ⟨g, hg⟩ := Deep.choose_lt each
    refine ⟨(List.range len).map g, some a, m, by simp, by simpa using hb, fun i u hi => ?_⟩
    rw [List.getElem?_map] at hi
    have hil : i < len := by
      rcases Nat.lt_or_ge i len with h | h
      · exact h
      · rw [List.getElem?_eq_none (by simpa using h)] at hi; simp at hi
    rw [List.getElem?_eq_getElem (by simpa using hil)] at hi
    simp at hi
    subst hi
    obtain ⟨hu, hsp⟩ := hg i hil
    obtain ⟨b, off, spot⟩ := a
    simp at hsp
    subst hsp
    exact ⟨b, off, rfl, hu, trivial⟩
end
end Go.Proofs.Ytlhlbckmifgeeaa
