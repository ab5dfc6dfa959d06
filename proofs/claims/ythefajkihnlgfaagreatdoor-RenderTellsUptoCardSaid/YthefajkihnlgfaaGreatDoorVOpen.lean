/- An argument that is a value, opened: it reads as one. -/
import Derived.Test.YthefajkihnlgfaaGreatDoorVBase
import Derived.ProofKit
import Derived.SizedLaws
import Derived.SliceStrings
import Derived.Deep.Slices
namespace Go.Proofs.YthefajkihnlgfaaGreatDoor
open Go.ChangeShapes Go.WideShapes Go.ChangeAt Go.RowKit

theorem cellsS : Tryz.prog.cellsOf 9 = 1 := by kernel_rfl
theorem cellsL : Tryz.prog.cellsOf 24 = 1 := by kernel_rfl
theorem cellsI : Tryz.prog.cellsOf 3 = 1 := by kernel_rfl
theorem cellsI6 : Tryz.prog.cellsOf 2 = 1 := by kernel_rfl
theorem cellsF : Tryz.prog.cellsOf 44 = 1 := by kernel_rfl
theorem cellsVs : Tryz.prog.cellsOf 45 = 1 := by kernel_rfl
theorem cellsV : Tryz.prog.cellsOf 47 = 6 := by kernel_rfl
theorem bytesS : Tryz.prog.bytesOf 9 = 16 := by kernel_rfl
theorem bytesV : Tryz.prog.bytesOf 47 = 88 := by kernel_rfl
theorem slp_nil (p : Nat → Prop) (w : World) : SLP p w (.slice none 0 0) [] := ⟨none, 0, rfl, fun _ => rfl, by simp, fun i s h => by simp at h⟩

section
variable {H : Type} {enc : TypeId × Value → H} {w : World} {base : Nat} {held : Bool}
theorem strs_len (ss : List ByteArray) : (strs (H := H) ss).length = ss.length := by simp [strs]

theorem open_list {fuel : Nat} {v : Value} {x : DataW H × List MemPlace} (h : DataW.trod enc Tryz.prog w base (fun _ => true) held fuel 24 [v] = some x) (hw : ∀ n, n ∈ x.1.weights Tryz.prog 24 → n ≤ reachBytes) :
    ∃ ss, SL w v ss := by
  rcases open_strings Tryz.underlying24 Tryz.underlying9 cellsS h with ⟨hcs, hx⟩ | ⟨a, len, cap, ss, hcs, _, hl, hm, hz, hx, hcell, hsz⟩
  · simp at hcs
    subst hcs
    exact ⟨[], slp_nil _ _⟩
  · simp at hcs
    subst hcs
    simp only [if_true] at hz
    have hlen : (ss.take len).length = len := by rw [List.length_take]; omega
    subst hx
    have hb : len ≤ 8796093021952 := by
      have := hw ((len + (cap - len)) * 16) (by
        simp only [DataW.weights, Tryz.underlying24, bytesS, strs_len, List.length_take, List.length_drop, List.mem_cons]
        left
        rw [hz, Nat.min_eq_left hl])
      unfold reachBytes at this
      omega
    refine ⟨ss.take len, some a, cap, by rw [hlen], (fun e => by cases e), by omega, fun i s hi => ?_⟩
    have hil := (List.getElem?_eq_some_iff.1 hi).1
    rw [List.getElem?_take, if_pos (by omega)] at hi
    have hc := hcell i (by omega)
    have hs : ss.getD i ByteArray.empty = s := by simp [List.getD, hi]
    rw [hs] at hc
    obtain ⟨b, off, spot⟩ := a
    have hspot : spot = none := by simpa [Addr.add] using World.cell?_spot (hcell 0 (by omega))
    subst hspot
    exact ⟨b, off, rfl, by rw [← add_plain]; exact hc, hsz s (List.mem_of_getElem? hi), trivial⟩

theorem weightsAll_mem {P : Program} {e : TypeId} {l : List (DataW H)} {d : DataW H} (hd : d ∈ l) {n : Nat} (hn : n ∈ d.weights P e) : n ∈ DataW.weightsAll P e l := by
  induction l with
  | nil => simp at hd
  | cons a r ih =>
    simp only [DataW.weightsAll, List.mem_append]
    rcases List.mem_cons.1 hd with rfl | hd
    · exact Or.inl hn
    · exact Or.inr (ih hd)


theorem trod_int_of {fuel : Nat} {t : TypeId} {k : IntKind} {c : Value} {x : DataW H × List MemPlace} (ht : Tryz.prog.underlying t = some (.int k)) (h : DataW.trod enc Tryz.prog w base (fun _ => true) held fuel t [c] = some x) : ∃ n, c = .int k n := by
  cases fuel with
  | zero => simp [DataW.trod] at h
  | succ n =>
    unfold DataW.trod at h
    rw [ht] at h
    split at h <;> simp_all
theorem trod_flt_of {fuel : Nat} {t : TypeId} {k : FloatKind} {c : Value} {x : DataW H × List MemPlace} (ht : Tryz.prog.underlying t = some (.float k)) (h : DataW.trod enc Tryz.prog w base (fun _ => true) held fuel t [c] = some x) : ∃ n, c = .float k n := by
  cases fuel with
  | zero => simp [DataW.trod] at h
  | succ n =>
    unfold DataW.trod at h
    rw [ht] at h
    split at h <;> simp_all
/-- Its six cells, and what its lists read as. -/
def SixV (d : Nat) (w : World) (cs : List Value) (v : V) : Prop := ∃ r f, cs = [.int .i64 v.kind, .int .i64 v.int, .float .f64 v.flt, .string v.text, r, f] ∧ VI d w v r f
set_option maxRecDepth 100000 in
theorem open_value : ∀ (fuel : Nat) {cs : List Value} {x : DataW H × List MemPlace} (_ : DataW.trod enc Tryz.prog w base (fun _ => true) held fuel 47 cs = some x) (_ : ∀ n, n ∈ x.1.weights Tryz.prog 47 → n ≤ reachBytes), ∃ v, SixV (fuel + 1) w cs v := by
  intro fuel
  induction fuel using Nat.strongRecOn with
  | ind fuel ih =>
    intro cs x h hw
    obtain ⟨xs, n, hfu, hx, hcl, hxl, hf⟩ := DataW.trod_struct Tryz.underlying47 h
    rw [cellsV] at hcl
    match cs, hcl with
    | [c0, c1, c2, c3, c4, c5], _ =>
      match xs, hxl with
      | [y0, y1, y2, y3, y4, y5], _ =>
        have f0 : DataW.trod enc Tryz.prog w base (fun _ => true) held n 3 (([c0, c1, c2, c3, c4, c5].drop 0).take (Tryz.prog.cellsOf 3)) = some y0 := hf 0 _ rfl
        have f1 : DataW.trod enc Tryz.prog w base (fun _ => true) held n 2 (([c0, c1, c2, c3, c4, c5].drop 1).take (Tryz.prog.cellsOf 2)) = some y1 := hf 1 _ rfl
        have f2 : DataW.trod enc Tryz.prog w base (fun _ => true) held n 44 (([c0, c1, c2, c3, c4, c5].drop 2).take (Tryz.prog.cellsOf 44)) = some y2 := hf 2 _ rfl
        have f3 : DataW.trod enc Tryz.prog w base (fun _ => true) held n 9 (([c0, c1, c2, c3, c4, c5].drop 3).take (Tryz.prog.cellsOf 9)) = some y3 := hf 3 _ rfl
        have f4 : DataW.trod enc Tryz.prog w base (fun _ => true) held n 24 (([c0, c1, c2, c3, c4, c5].drop 4).take (Tryz.prog.cellsOf 24)) = some y4 := hf 4 _ rfl
        have f5 : DataW.trod enc Tryz.prog w base (fun _ => true) held n 45 (([c0, c1, c2, c3, c4, c5].drop 5).take (Tryz.prog.cellsOf 45)) = some y5 := hf 5 _ rfl
        rw [cellsI] at f0
        rw [cellsI6] at f1
        rw [cellsF] at f2
        rw [cellsS] at f3
        rw [cellsL] at f4
        rw [cellsVs] at f5
        simp only [List.drop, List.take] at f0 f1 f2 f3 f4 f5
        obtain ⟨k0, e0⟩ := trod_int_of Tryz.underlying3 f0
        obtain ⟨k1, e1⟩ := trod_int_of Tryz.underlying2 f1
        obtain ⟨k2, e2⟩ := trod_flt_of Tryz.underlying44 f2
        obtain ⟨s3, e3, rfl, h3⟩ := DataW.trod_string Tryz.underlying9 f3
        subst e0 e1 e2
        simp at e3
        subst e3
        subst hx
        simp only [DataW.weights, Tryz.underlying47, List.map_cons, List.map_nil, DataW.weightsEach] at hw
        obtain ⟨ns, hns⟩ := open_list f4 (fun n hn => hw n (by simp [hn]))
        have hw5 : ∀ k, k ∈ y5.1.weights Tryz.prog 45 → k ≤ reachBytes := fun k hk => hw k (by simp [hk])
        rcases DataW.trod_slice Tryz.underlying45 f5 with ⟨hcs, _⟩ | ⟨a, len, cap, elems, rest, n', hn', hcs, hx5, _, hl, hm, hlen, hel, hsp, _⟩
        · simp at hcs
          subst hcs
          exact ⟨.mk k0 k1 k2 s3 ns [], _, _, rfl, h3, hns, none, 0, rfl, fun _ => rfl, by simp [V.items], fun i x h => by simp [V.items] at h⟩
        · simp at hcs
          subst hcs
          have hrl : rest.length = cap - len := (hsp rfl).1
          have hb : len ≤ 1599289640400 := by
            have := hw5 ((len + (cap - len)) * 88) (by
              rw [hx5]
              simp only [DataW.weights, Tryz.underlying45, bytesV, List.length_map, List.mem_cons]
              left; rw [hlen, hrl])
            unfold reachBytes at this
            omega
          have each : ∀ i, i < len → ∃ (v : V) (r f : Value), (∀ j u, [Value.int .i64 v.kind, .int .i64 v.int, .float .f64 v.flt, .string v.text, r, f][j]? = some u → w.cell? ((a.add (i * 6)).add j) = some u) ∧ VI fuel w v r f := by
            intro i hi
            have h1 := hel i hi
            rw [cellsV, List.getElem?_eq_getElem (by omega)] at h1
            obtain ⟨cs', h2, h4⟩ := Option.bind_eq_some_iff.1 h1
            obtain ⟨v, r, f, rfl, hv⟩ := ih n' (by omega) h4 (fun k hk => hw5 k (by
              rw [hx5]
              simp only [DataW.weights, Tryz.underlying45, List.mem_cons, List.mem_append]
              right; left
              exact weightsAll_mem (List.mem_map.2 ⟨elems[i], List.getElem_mem _, rfl⟩) hk))
            obtain ⟨_, _, hat⟩ := World.cells?_some h2
            refine ⟨v, r, f, fun j u hj => ?_, hv.mono (by omega)⟩
            rw [← hj]
            exact hat j (List.getElem?_eq_some_iff.1 hj).1
          have : Inhabited (V × Value × Value) := ⟨(.mk 0 0 0 ⟨#[]⟩ [] [], undef, undef)⟩
          obtain ⟨g, hg⟩ := Deep.choose_lt (α := V × Value × Value) (p := fun i x => (∀ j u, [Value.int .i64 x.1.kind, .int .i64 x.1.int, .float .f64 x.1.flt, .string x.1.text, x.2.1, x.2.2][j]? = some u → w.cell? ((a.add (i * 6)).add j) = some u) ∧ VI fuel w x.1 x.2.1 x.2.2) (fun i hi => by
            obtain ⟨v, r, f, q⟩ := each i hi
            exact ⟨(v, r, f), q⟩)
          refine ⟨.mk k0 k1 k2 s3 ns ((List.range len).map fun i => (g i).1), c4, .slice (some a) len cap, rfl, h3, hns, some a, cap, by simp [V.items], (fun e => by cases e), by simpa [V.items] using hb, fun i x hi => ?_⟩
          simp only [V.items] at hi
          rw [List.getElem?_map] at hi
          have hil : i < len := by
            rcases Nat.lt_or_ge i len with h | h
            · exact h
            · rw [List.getElem?_eq_none (by simpa using h)] at hi; simp at hi
          rw [List.getElem?_eq_getElem (by simpa using hil)] at hi
          simp at hi
          subst hi
          obtain ⟨q1, q2⟩ := hg i hil
          obtain ⟨b, off, spot⟩ := a
          have hspot : spot = none := by
            have k0 := (hg 0 (by omega)).1 0 _ rfl
            simpa [Addr.add] using World.cell?_spot k0
          subst hspot
          have cell : ∀ j u, [Value.int .i64 (g i).1.kind, .int .i64 (g i).1.int, .float .f64 (g i).1.flt, .string (g i).1.text, (g i).2.1, (g i).2.2][j]? = some u → w.cell? ⟨b, off + i * 6 + j, none⟩ = some u := by
            intro j u hj
            have := q1 j u hj
            rw [Deep.add_add, add_plain, ← Nat.add_assoc] at this
            exact this
          exact ⟨b, off, (g i).2.1, (g i).2.2, rfl, by have := cell 0 _ rfl; simpa using this, cell 1 _ rfl, cell 2 _ rfl, cell 3 _ rfl, cell 4 _ rfl, cell 5 _ rfl, q2⟩
end
end Go.Proofs.YthefajkihnlgfaaGreatDoor

