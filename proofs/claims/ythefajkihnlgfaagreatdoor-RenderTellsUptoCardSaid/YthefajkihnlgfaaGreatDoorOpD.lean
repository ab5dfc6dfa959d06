/- An argument that is a configuration, opened: its lists, and the configuration. -/
import Derived.Test.YthefajkihnlgfaaGreatDoorOpC
namespace Go.Proofs.YthefajkihnlgfaaGreatDoor
open Go.ChangeShapes Go.WideShapes Go.ChangeAt Go.RowKit
open Go.Proofs.YthefajkihnlgfaaGreatDoor.Rows (uptoBulk uptoBulkAll)
set_option linter.unusedSimpArgs false
set_option linter.unusedVariables false
section
variable {H : Type} {enc : TypeId × Value → H} {w : World} {base : Nat} {held : Bool}
theorem open_sliceB {α : Type} {S T : TypeId} {k : Nat} {Q : List Value → α → Prop} (hS : Tryz.prog.underlying S = some (.slice T)) (hk : Tryz.prog.cellsOf T = k) (hk0 : 0 < k) {fuel : Nat} {v : Value} {x : DataW H × List MemPlace} (h : DataW.trod enc Tryz.prog w base (fun _ => true) held fuel S [v] = some x) (hb : uptoBulk x.1 ≤ 1048576)
    (hel : ∀ (n : Nat) (cs : List Value) (y : DataW H × List MemPlace), n < fuel → DataW.trod enc Tryz.prog w base (fun _ => true) held n T cs = some y → uptoBulk y.1 ≤ 1048576 → ∃ u, Q cs u) :
    ∃ (us : List α) (a : Option Addr) (cap : Nat), v = .slice a us.length cap ∧ (a = none → cap = 0) ∧ us.length ≤ 1048576 ∧ ∀ (i : Nat) (u : α), us[i]? = some u → ∃ b off cs, a = some ⟨b, off, none⟩ ∧ Q cs u ∧ ∀ (j : Nat) (c : Value), cs[j]? = some c → w.cell? ⟨b, off + i * k + j, none⟩ = some c := by
  rcases DataW.trod_slice hS h with ⟨hcs, _⟩ | ⟨a, len, cap, elems, rest, n', hn', hcs, hx5, _, hl, hm, hlen, hel5, hsp, _⟩
  · simp at hcs
    subst hcs
    exact ⟨[], none, 0, rfl, fun _ => rfl, by simp, fun i u h => by simp at h⟩
  · simp at hcs
    subst hcs
    have hb5 : uptoBulkAll (elems.map (·.1)) ≤ 1048576 := by
      rw [hx5, uptoBulk] at hb
      omega
    have hbl : len ≤ 1048576 := by
      have := bulk_len (elems.map (·.1))
      rw [List.length_map, hlen] at this
      omega
    rw [hk] at hel5
    have each : ∀ i (hi : i < len), ∃ x : α × List Value, Q x.2 x.1 ∧ w.cells? base (a.add (i * k)) k = some x.2 := by
      intro i hi
      have h1 := hel5 i hi
      rw [List.getElem?_eq_getElem (by omega)] at h1
      obtain ⟨cs', h2, h4⟩ := Option.bind_eq_some_iff.1 h1
      have hmem : uptoBulk elems[i].1 ≤ uptoBulkAll (elems.map (·.1)) := bulk_mem (List.mem_map.2 ⟨elems[i], List.getElem_mem _, rfl⟩)
      obtain ⟨u, hu⟩ := hel n' cs' _ (by omega) h4 (by omega)
      exact ⟨(u, cs'), hu, h2⟩
    rcases Nat.eq_zero_or_pos len with h0 | hpos
    · subst h0
      exact ⟨[], some a, cap, rfl, (fun e => by cases e), by simp, fun i u h => by simp at h⟩
    have : Inhabited (α × List Value) := ⟨(each 0 hpos).choose⟩
    obtain ⟨g, hg⟩ := Deep.choose_lt each
    have hspot : a.spot = none := by
      obtain ⟨_, kl, kat⟩ := World.cells?_some (hg 0 hpos).2
      have k0 := kat 0 hk0
      rw [List.getElem?_eq_getElem (by omega)] at k0
      simpa [Addr.add] using World.cell?_spot k0
    obtain ⟨b, off, spot⟩ := a
    simp at hspot
    subst hspot
    refine ⟨(List.range len).map fun i => (g i).1, some ⟨b, off, none⟩, cap, by simp, (fun e => by cases e), by simpa using hbl, fun i u hi => ?_⟩
    rw [List.getElem?_map] at hi
    have hil : i < len := by
      rcases Nat.lt_or_ge i len with h | h
      · exact h
      · rw [List.getElem?_eq_none (by simpa using h)] at hi; simp at hi
    rw [List.getElem?_eq_getElem (by simpa using hil)] at hi
    simp at hi
    subst hi
    obtain ⟨q1, q2⟩ := hg i hil
    obtain ⟨_, kl, kat⟩ := World.cells?_some q2
    refine ⟨b, off, (g i).2, rfl, q1, fun j c hj => ?_⟩
    have := kat j (by have := (List.getElem?_eq_some_iff.1 hj).1; omega)
    rw [Deep.add_add, add_plain, ← Nat.add_assoc, hj] at this
    exact this
theorem bulk_str {s : ByteArray} (h : uptoBulk (DataW.lit (.string s.data.toList) : DataW H) ≤ 1048576) : s.size ≤ 1048576 := by
  rw [uptoBulk] at h
  have e : s.data.toList.length = s.size := Array.length_toList
  omega
set_option maxRecDepth 100000 in
theorem open_pairB {n : Nat} {cs : List Value} {y : DataW H × List MemPlace} (h : DataW.trod enc Tryz.prog w base (fun _ => true) held n 39 cs = some y) (hb : uptoBulk y.1 ≤ 1048576) :
    ∃ u : ByteArray × ByteArray, cs = [.string u.1, .string u.2] ∧ u.1.size ≤ 1048576 ∧ u.2.size ≤ 1048576 := by
  obtain ⟨xs, n, _, hx, hcl, hxl, hf⟩ := DataW.trod_struct Tryz.underlying39 h
  rw [cellsPr] at hcl
  match cs, hcl with
  | [c0, c1], _ =>
    match xs, hxl with
    | [y0, y1], _ =>
      have f0 : DataW.trod enc Tryz.prog w base (fun _ => true) held n 9 (([c0, c1].drop 0).take (Tryz.prog.cellsOf 9)) = some y0 := hf 0 _ rfl
      have f1 : DataW.trod enc Tryz.prog w base (fun _ => true) held n 9 (([c0, c1].drop 1).take (Tryz.prog.cellsOf 9)) = some y1 := hf 1 _ rfl
      rw [cellsS] at f0 f1
      simp only [List.drop, List.take] at f0 f1
      obtain ⟨s0, e0, rfl, h0⟩ := DataW.trod_string Tryz.underlying9 f0
      obtain ⟨s1, e1, rfl, h1⟩ := DataW.trod_string Tryz.underlying9 f1
      simp at e0 e1
      subst e0 e1
      subst hx
      simp only [List.map_cons, List.map_nil, uptoBulk, uptoBulkAll] at hb
      have e0 : s0.data.toList.length = s0.size := Array.length_toList
      have e1 : s1.data.toList.length = s1.size := Array.length_toList
      exact ⟨(s0, s1), rfl, by show s0.size ≤ _; omega, by show s1.size ≤ _; omega⟩
set_option maxRecDepth 100000 in
theorem open_unitB {n : Nat} {cs : List Value} {y : DataW H × List MemPlace} (h : DataW.trod enc Tryz.prog w base (fun _ => true) held n 37 cs = some y) (hb : uptoBulk y.1 ≤ 1048576) :
    ∃ u : U, ∃ r f, cs = [.string u.name, .string u.start, r, f] ∧ u.name.size ≤ 1048576 ∧ u.start.size ≤ maxLen ∧ SL w r u.req ∧ SL w f u.aft := by
  obtain ⟨xs, n, _, hx, hcl, hxl, hf⟩ := DataW.trod_struct Tryz.underlying37 h
  rw [cellsUn] at hcl
  match cs, hcl with
  | [c0, c1, c2, c3], _ =>
    match xs, hxl with
    | [y0, y1, y2, y3], _ =>
      have f0 : DataW.trod enc Tryz.prog w base (fun _ => true) held n 9 (([c0, c1, c2, c3].drop 0).take (Tryz.prog.cellsOf 9)) = some y0 := hf 0 _ rfl
      have f1 : DataW.trod enc Tryz.prog w base (fun _ => true) held n 9 (([c0, c1, c2, c3].drop 1).take (Tryz.prog.cellsOf 9)) = some y1 := hf 1 _ rfl
      have f2 : DataW.trod enc Tryz.prog w base (fun _ => true) held n 24 (([c0, c1, c2, c3].drop 2).take (Tryz.prog.cellsOf 24)) = some y2 := hf 2 _ rfl
      have f3 : DataW.trod enc Tryz.prog w base (fun _ => true) held n 24 (([c0, c1, c2, c3].drop 3).take (Tryz.prog.cellsOf 24)) = some y3 := hf 3 _ rfl
      rw [cellsS] at f0 f1
      rw [cellsL] at f2 f3
      simp only [List.drop, List.take] at f0 f1 f2 f3
      obtain ⟨s0, e0, rfl, h0⟩ := DataW.trod_string Tryz.underlying9 f0
      obtain ⟨s1, e1, rfl, h1⟩ := DataW.trod_string Tryz.underlying9 f1
      simp at e0 e1
      subst e0 e1
      subst hx
      simp only [List.map_cons, List.map_nil, uptoBulk, uptoBulkAll] at hb
      have e0 : s0.data.toList.length = s0.size := Array.length_toList
      obtain ⟨rq, hr, _, _⟩ := open_listB f2 (by omega)
      obtain ⟨af, ha, _, _⟩ := open_listB f3 (by omega)
      exact ⟨⟨s0, s1, rq, af⟩, c2, c3, rfl, by show s0.size ≤ _; omega, h1, hr, ha⟩
set_option maxRecDepth 100000 in
theorem open_settingB {n m : Nat} (hm : n ≤ m) {cs : List Value} {y : DataW H × List MemPlace} (h : DataW.trod enc Tryz.prog w base (fun _ => true) held n 49 cs = some y) (hb : uptoBulk y.1 ≤ 1048576) :
    ∃ u : ByteArray × V, ∃ r f, cs = [.string u.1, .int .i64 u.2.kind, .int .i64 u.2.int, .float .f64 u.2.flt, .string u.2.text, r, f] ∧ u.1.size ≤ 1048576 ∧ VI m w u.2 r f ∧ NumV m u.2 ∧ cntP m u.2 ≤ 1048576 := by
  obtain ⟨xs, n', hn, hx, hcl, hxl, hf⟩ := DataW.trod_struct Tryz.underlying49 h
  rw [cellsSe] at hcl
  match cs, hcl with
  | [c0, c1, c2, c3, c4, c5, c6], _ =>
    match xs, hxl with
    | [y0, y1], _ =>
      have f0 : DataW.trod enc Tryz.prog w base (fun _ => true) held n' 9 (([c0, c1, c2, c3, c4, c5, c6].drop 0).take (Tryz.prog.cellsOf 9)) = some y0 := hf 0 _ rfl
      have f1 : DataW.trod enc Tryz.prog w base (fun _ => true) held n' 47 (([c0, c1, c2, c3, c4, c5, c6].drop 1).take (Tryz.prog.cellsOf 47)) = some y1 := hf 1 _ rfl
      rw [cellsS] at f0
      rw [cellsV] at f1
      simp only [List.drop, List.take] at f0 f1
      obtain ⟨s0, e0, rfl, h0⟩ := DataW.trod_string Tryz.underlying9 f0
      simp at e0
      subst e0
      subst hx
      simp only [List.map_cons, List.map_nil, uptoBulk, uptoBulkAll] at hb
      have e0 : s0.data.toList.length = s0.size := Array.length_toList
      obtain ⟨v, ⟨r, f, hc, hv⟩, hnv, hcv⟩ := open_valueB n' f1 (by omega)
      obtain ⟨ec, en⟩ := cnt_more _ m hv (by omega)
      simp at hc
      obtain ⟨rfl, rfl, rfl, rfl, rfl, rfl⟩ := hc
      exact ⟨(s0, v), c5, c6, rfl, by show s0.size ≤ _; omega, hv.mono (by omega), en hnv, by rw [ec]; omega⟩
set_option maxRecDepth 100000 in
theorem open_config {fuel : Nat} {cs : List Value} {x : DataW H × List MemPlace} (h : DataW.trod enc Tryz.prog w base (fun _ => true) held fuel 27 cs = some x) (hb : uptoBulk x.1 ≤ 1048576) :
    ∃ v0 v1 v2 v3 c d, cs = [v0, v1, v2, v3] ∧ CV d w v0 v1 v2 v3 c := by
  obtain ⟨xs, n, hn, hx, hcl, hxl, hf⟩ := DataW.trod_struct Tryz.underlying27 h
  rw [cellsC] at hcl
  match cs, hcl with
  | [c0, c1, c2, c3], _ =>
    match xs, hxl with
    | [y0, y1, y2, y3], _ =>
      have f0 : DataW.trod enc Tryz.prog w base (fun _ => true) held n 22 (([c0, c1, c2, c3].drop 0).take (Tryz.prog.cellsOf 22)) = some y0 := hf 0 _ rfl
      have f1 : DataW.trod enc Tryz.prog w base (fun _ => true) held n 23 (([c0, c1, c2, c3].drop 1).take (Tryz.prog.cellsOf 23)) = some y1 := hf 1 _ rfl
      have f2 : DataW.trod enc Tryz.prog w base (fun _ => true) held n 24 (([c0, c1, c2, c3].drop 2).take (Tryz.prog.cellsOf 24)) = some y2 := hf 2 _ rfl
      have f3 : DataW.trod enc Tryz.prog w base (fun _ => true) held n 25 (([c0, c1, c2, c3].drop 3).take (Tryz.prog.cellsOf 25)) = some y3 := hf 3 _ rfl
      rw [cellsSt] at f0
      rw [cellsPs] at f1
      rw [cellsL] at f2
      rw [cellsUs] at f3
      simp only [List.drop, List.take] at f0 f1 f2 f3
      subst hx
      simp only [List.map_cons, List.map_nil, uptoBulk, uptoBulkAll] at hb
      obtain ⟨ss, a0, k0, rfl, _, l0, g0⟩ := open_sliceB (Q := fun cs (u : ByteArray × V) => ∃ r f, cs = [.string u.1, .int .i64 u.2.kind, .int .i64 u.2.int, .float .f64 u.2.flt, .string u.2.text, r, f] ∧ u.1.size ≤ 1048576 ∧ VI n w u.2 r f ∧ NumV n u.2 ∧ cntP n u.2 ≤ 1048576) Tryz.underlying22 cellsSe (by decide) f0 (by omega) (fun m cs y hm hy hb => open_settingB (Nat.le_of_lt hm) hy hb)
      obtain ⟨fs, a1, k1, rfl, _, l1, g1⟩ := open_sliceB (Q := fun cs (u : ByteArray × ByteArray) => cs = [.string u.1, .string u.2] ∧ u.1.size ≤ 1048576 ∧ u.2.size ≤ 1048576) Tryz.underlying23 cellsPr (by decide) f1 (by omega) (fun m cs y _ hy hb => open_pairB hy hb)
      obtain ⟨us, h2, l2, z2⟩ := open_listB f2 (by omega)
      obtain ⟨un, a3, k3, rfl, n3, l3, g3⟩ := open_sliceB (Q := fun cs (u : U) => ∃ r f, cs = [.string u.name, .string u.start, r, f] ∧ u.name.size ≤ 1048576 ∧ u.start.size ≤ maxLen ∧ SL w r u.req ∧ SL w f u.aft) Tryz.underlying25 cellsUn (by decide) f3 (by omega) (fun m cs y _ hy hb => open_unitB hy hb)
      refine ⟨_, _, c2, _, ⟨ss, fs, us, un⟩, n, rfl, ⟨a0, k0, rfl, fun i s hi => ?_⟩, ⟨a1, k1, rfl, fun i p hi => ?_⟩, h2, ⟨a3, k3, rfl, by show un.length ≤ _; omega, fun i u hi => ?_⟩, fun s hs => by have := z2 s hs; omega, fun u hu => ?_, l0, l1, by show us.length ≤ _; omega, l3⟩
      · obtain ⟨b, off, cs, e, ⟨r, f, rfl, q1, q2, q3, q4⟩, hc⟩ := g0 i s hi
        refine ⟨q1, q3, Nat.le_trans (shT_len q3) (by omega), b, off, r, f, e, by have := hc 0 _ rfl; simpa using this, hc 1 _ rfl, hc 2 _ rfl, hc 3 _ rfl, hc 4 _ rfl, hc 5 _ rfl, hc 6 _ rfl, q2⟩
      · obtain ⟨b, off, cs, e, ⟨rfl, q1, q2⟩, hc⟩ := g1 i p hi
        exact ⟨q1, q2, b, off, e, by have := hc 0 _ rfl; simpa using this, hc 1 _ rfl⟩
      · obtain ⟨b, off, cs, e, ⟨r, f, rfl, q1, q2, q3, q4⟩, hc⟩ := g3 i u hi
        have hn : u.name.size ≤ maxLen := by unfold maxLen; omega
        exact ⟨b, off, e, ⟨by have := hc 0 _ rfl; simpa using this, hc 1 _ rfl, hn, q2, r, f, hc 2 _ rfl, hc 3 _ rfl, q3, q4⟩, trivial⟩
      · obtain ⟨i, hi⟩ := List.getElem?_of_mem hu
        obtain ⟨_, _, _, _, ⟨_, _, _, q, _⟩, _⟩ := g3 i u hi
        exact q
end
end Go.Proofs.YthefajkihnlgfaaGreatDoor

