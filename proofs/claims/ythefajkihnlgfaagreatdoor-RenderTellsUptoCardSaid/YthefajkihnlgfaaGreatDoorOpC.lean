/- An argument that is a configuration, opened: it reads as one. -/
import Derived.Test.YthefajkihnlgfaaGreatDoorRows
import Derived.Test.YthefajkihnlgfaaGreatDoorM34
import Derived.Test.YthefajkihnlgfaaGreatDoorSyP
import Derived.Test.YthefajkihnlgfaaGreatDoorTie
import Derived.Test.YthefajkihnlgfaaGreatDoorVOpen
namespace Go.Proofs.YthefajkihnlgfaaGreatDoor
open Go.ChangeShapes Go.WideShapes Go.ChangeAt Go.RowKit
open Go.Proofs.YthefajkihnlgfaaGreatDoor.Rows (uptoBulk uptoBulkAll)
set_option linter.unusedSimpArgs false
set_option linter.unusedVariables false
theorem cellsC : Tryz.prog.cellsOf 27 = 4 := by kernel_rfl
theorem cellsSt : Tryz.prog.cellsOf 22 = 1 := by kernel_rfl
theorem cellsPs : Tryz.prog.cellsOf 23 = 1 := by kernel_rfl
theorem cellsUs : Tryz.prog.cellsOf 25 = 1 := by kernel_rfl
theorem cellsSe : Tryz.prog.cellsOf 49 = 7 := by kernel_rfl
theorem cellsPr : Tryz.prog.cellsOf 39 = 2 := by kernel_rfl
theorem cellsUn : Tryz.prog.cellsOf 37 = 4 := by kernel_rfl
section
variable {H : Type} {enc : TypeId × Value → H} {w : World} {base : Nat} {held : Bool}
theorem bulk_pos (d : DataW H) : 1 ≤ uptoBulk d := by
  unfold uptoBulk
  split <;> omega
theorem bulk_mem {d : DataW H} : ∀ {l : List (DataW H)}, d ∈ l → uptoBulk d ≤ uptoBulkAll l
  | a :: r, h => by
    rw [uptoBulkAll]
    rcases List.mem_cons.1 h with rfl | h
    · omega
    · have := bulk_mem h
      omega
theorem bulk_len : ∀ (l : List (DataW H)), l.length ≤ uptoBulkAll l
  | [] => by simp
  | a :: r => by
    have h1 := bulk_pos a
    have h2 := bulk_len r
    rw [uptoBulkAll, List.length_cons]
    omega
theorem bulk_sum {α : Type} (g : α → Nat) (b : Nat → DataW H) : ∀ (l : List α) (k : Nat), (∀ i x, l[i]? = some x → g x ≤ uptoBulk (b (k + i))) → (l.map g).sum ≤ uptoBulkAll ((List.range' k l.length).map b)
  | [], k, _ => by simp
  | a :: r, k, h => by
    have h0 := h 0 a rfl
    have h1 := bulk_sum g b r (k + 1) (fun i x hi => by
      have := h (i + 1) x (by simpa using hi)
      rwa [show k + (i + 1) = k + 1 + i by omega] at this)
    rw [List.length_cons, List.range'_succ, List.map_cons, List.sum_cons, List.map_cons, uptoBulkAll]
    simp only [Nat.add_zero] at h0
    omega
theorem open_listB {fuel : Nat} {v : Value} {x : DataW H × List MemPlace} (h : DataW.trod enc Tryz.prog w base (fun _ => true) held fuel 24 [v] = some x) (hb : uptoBulk x.1 ≤ 1048576) :
    ∃ ss, SL w v ss ∧ ss.length ≤ uptoBulk x.1 ∧ ∀ s, s ∈ ss → s.size ≤ uptoBulk x.1 := by
  rcases open_strings Tryz.underlying24 Tryz.underlying9 cellsS h with ⟨hcs, hx⟩ | ⟨a, len, cap, ss, hcs, _, hl, hm, hz, hx, hcell, hsz⟩
  · simp at hcs
    subst hcs
    exact ⟨[], slp_nil _ _, by simp, by simp⟩
  · simp at hcs
    subst hcs
    simp only [if_true] at hz
    have hlen : (ss.take len).length = len := by rw [List.length_take]; omega
    subst hx
    have hbl := bulk_len (strs (H := H) (ss.take len))
    rw [strs_len, hlen] at hbl
    have hub : uptoBulkAll (strs (H := H) (ss.take len)) ≤ 1048576 ∧ uptoBulkAll (strs (H := H) (ss.take len)) ≤ uptoBulk (DataW.slice (strs (H := H) (ss.take len)) (strs (ss.drop len))) := by
      rw [uptoBulk] at hb ⊢
      omega
    refine ⟨ss.take len, ⟨some a, cap, by rw [hlen], (fun e => by cases e), by omega, fun i s hi => ?_⟩, ?_, fun s hs => ?_⟩
    · have hil := (List.getElem?_eq_some_iff.1 hi).1
      rw [List.getElem?_take, if_pos (by omega)] at hi
      have hc := hcell i (by omega)
      have hs : ss.getD i ByteArray.empty = s := by simp [List.getD, hi]
      rw [hs] at hc
      obtain ⟨b, off, spot⟩ := a
      have hspot : spot = none := by simpa [Addr.add] using World.cell?_spot (hcell 0 (by omega))
      subst hspot
      exact ⟨b, off, rfl, by rw [← add_plain]; exact hc, hsz s (List.mem_of_getElem? hi), trivial⟩
    · rw [hlen]; exact Nat.le_trans hbl hub.2
    · have hm2 : (DataW.lit (.string s.data.toList) : DataW H) ∈ strs (H := H) (ss.take len) := List.mem_map.2 ⟨s, hs, rfl⟩
      have := bulk_mem hm2
      rw [uptoBulk] at this
      have e : s.data.toList.length = s.size := Array.length_toList
      exact Nat.le_trans (by omega) hub.2
theorem trod_fltW {fuel : Nat} {t : TypeId} {k : FloatKind} {c : Value} {x : DataW H × List MemPlace} (ht : Tryz.prog.underlying t = some (.float k)) (h : DataW.trod enc Tryz.prog w base (fun _ => true) held fuel t [c] = some x) : ∃ n, c = .float k n ∧ (Lit.float k n).wf = true := by
  cases fuel with
  | zero => simp [DataW.trod] at h
  | succ n =>
    unfold DataW.trod at h
    rw [ht] at h
    split at h <;> simp_all
theorem trod_f64 {fuel : Nat} {c : Value} {x : DataW H × List MemPlace} (h : DataW.trod enc Tryz.prog w base (fun _ => true) held fuel 44 [c] = some x) : ∃ n, c = .float .f64 n ∧ n < 18446744073709551616 := by
  obtain ⟨n, h1, h2⟩ := trod_fltW Tryz.underlying44 h
  exact ⟨n, h1, of_decide_eq_true h2⟩
theorem wf_i64 {n : Int} (h : (Lit.int .i64 n).wf = true) : I64' n := by
  have h2 : (decide (IntKind.i64.min ≤ n) && decide (n ≤ IntKind.i64.max)) = true := h
  rw [Bool.and_eq_true] at h2
  exact ⟨of_decide_eq_true h2.1, of_decide_eq_true h2.2⟩
theorem cnt_more : ∀ (d e : Nat) {w : World} {v : V} {r f : Value}, VI d w v r f → d ≤ e → cntP e v = cntP d v ∧ (NumV d v → NumV e v)
  | 0, _, _, _, _, _, h, _ => False.elim h
  | d + 1, 0, _, _, _, _, _, h => by omega
  | d + 1, e + 1, w, v, r, f, h, hde => by
    obtain ⟨_, _, a, cap, _, _, _, hi⟩ := h
    have each : ∀ x, x ∈ v.items → cntP e x = cntP d x ∧ (NumV d x → NumV e x) := fun x hx => by
      obtain ⟨i, hi'⟩ := List.getElem?_of_mem hx
      obtain ⟨_, _, _, _, _, _, _, _, _, _, _, q⟩ := hi i x hi'
      exact cnt_more d e q (by omega)
    refine ⟨?_, fun hn => ⟨hn.1, hn.2.1, fun x hx => (each x hx).2 (hn.2.2 x hx)⟩⟩
    show 1 + _ = 1 + _
    rw [List.map_congr_left (fun x hx => (each x hx).1)]
set_option maxRecDepth 100000 in
theorem open_valueB : ∀ (fuel : Nat) {cs : List Value} {x : DataW H × List MemPlace} (_ : DataW.trod enc Tryz.prog w base (fun _ => true) held fuel 47 cs = some x) (_ : uptoBulk x.1 ≤ 1048576), ∃ v, SixV (fuel + 1) w cs v ∧ NumV (fuel + 1) v ∧ cntP (fuel + 1) v ≤ uptoBulk x.1 := by
  intro fuel
  induction fuel using Nat.strongRecOn with
  | ind fuel ih =>
    intro cs x h hw
    obtain ⟨xs, n, hfu, hx, hcl, hxl, hf⟩ := DataW.trod_struct Tryz.underlying47 h
    rw [cellsV] at hcl
    match cs, hcl with
    | [c0, c1, c2, c3, c4, c5], _ =>
      match xs, hxl with
      | [y0, y1, y2, y3, y4, y5], _ =>
        have f0 : DataW.trod enc Tryz.prog w base (fun _ => true) held n 3 (([c0, c1, c2, c3, c4, c5].drop 0).take (Tryz.prog.cellsOf 3)) = some y0 := hf 0 _ rfl
        have f1 : DataW.trod enc Tryz.prog w base (fun _ => true) held n 2 (([c0, c1, c2, c3, c4, c5].drop 1).take (Tryz.prog.cellsOf 2)) = some y1 := hf 1 _ rfl
        have f2 : DataW.trod enc Tryz.prog w base (fun _ => true) held n 44 (([c0, c1, c2, c3, c4, c5].drop 2).take (Tryz.prog.cellsOf 44)) = some y2 := hf 2 _ rfl
        have f3 : DataW.trod enc Tryz.prog w base (fun _ => true) held n 9 (([c0, c1, c2, c3, c4, c5].drop 3).take (Tryz.prog.cellsOf 9)) = some y3 := hf 3 _ rfl
        have f4 : DataW.trod enc Tryz.prog w base (fun _ => true) held n 24 (([c0, c1, c2, c3, c4, c5].drop 4).take (Tryz.prog.cellsOf 24)) = some y4 := hf 4 _ rfl
        have f5 : DataW.trod enc Tryz.prog w base (fun _ => true) held n 45 (([c0, c1, c2, c3, c4, c5].drop 5).take (Tryz.prog.cellsOf 45)) = some y5 := hf 5 _ rfl
        rw [cellsI] at f0
        rw [cellsI6] at f1
        rw [cellsF] at f2
        rw [cellsS] at f3
        rw [cellsL] at f4
        rw [cellsVs] at f5
        simp only [List.drop, List.take] at f0 f1 f2 f3 f4 f5
        obtain ⟨k0, e0⟩ := trod_int_of Tryz.underlying3 f0
        obtain ⟨k1, e1, _, hk1⟩ := DataW.trod_int Tryz.underlying2 f1
        obtain ⟨k2, e2, hk2⟩ := trod_f64 f2
        obtain ⟨s3, e3, rfl, h3⟩ := DataW.trod_string Tryz.underlying9 f3
        subst e0 e2
        simp at e1 e3
        subst e1 e3
        subst hx
        have hbulk : uptoBulk y4.1 ≤ 1048576 ∧ uptoBulk y5.1 + 1 ≤ uptoBulk (DataW.agg ([y0, y1, y2, (DataW.lit (.string s3.data.toList), []), y4, y5].map (·.1))) ∧ uptoBulk (DataW.agg ([y0, y1, y2, (DataW.lit (.string s3.data.toList), []), y4, y5].map (·.1)) : DataW H) ≤ 1048576 := by
          simp only [List.map_cons, List.map_nil, uptoBulk, uptoBulkAll] at hw ⊢
          omega
        obtain ⟨ns, hns, _, _⟩ := open_listB f4 hbulk.1
        have hk1' := wf_i64 hk1
        rcases DataW.trod_slice Tryz.underlying45 f5 with ⟨hcs, _⟩ | ⟨a, len, cap, elems, rest, n', hn', hcs, hx5, _, hl, hm, hlen, hel, hsp, _⟩
        · simp at hcs
          subst hcs
          refine ⟨.mk k0 k1 k2 s3 ns [], ⟨_, _, rfl, h3, hns, none, 0, rfl, fun _ => rfl, by simp [V.items], fun i x h => by simp [V.items] at h⟩, ⟨hk1', hk2, fun x hx => by simp [V.items] at hx⟩, ?_⟩
          show 1 + _ ≤ _
          simp only [V.items, List.map_nil, List.sum_nil]
          exact bulk_pos _
        · simp at hcs
          subst hcs
          have hb5 : uptoBulkAll (elems.map (·.1)) + 1 ≤ uptoBulk y5.1 := by
            rw [hx5, uptoBulk]
            omega
          have hbl : len ≤ 1048576 := by
            have := bulk_len (elems.map (·.1))
            rw [List.length_map, hlen] at this
            omega
          have each : ∀ i (hi : i < len), ∃ (v : V) (r f : Value), (∀ j u, [Value.int .i64 v.kind, .int .i64 v.int, .float .f64 v.flt, .string v.text, r, f][j]? = some u → w.cell? ((a.add (i * 6)).add j) = some u) ∧ VI fuel w v r f ∧ NumV fuel v ∧ cntP fuel v ≤ uptoBulk ((elems.map (·.1))[i]?.getD (.lit (.string []))) := by
            intro i hi
            have h1 := hel i hi
            rw [cellsV, List.getElem?_eq_getElem (by omega)] at h1
            obtain ⟨cs', h2, h4⟩ := Option.bind_eq_some_iff.1 h1
            have hmem : uptoBulk elems[i].1 ≤ uptoBulkAll (elems.map (·.1)) := bulk_mem (List.mem_map.2 ⟨elems[i], List.getElem_mem _, rfl⟩)
            obtain ⟨v, ⟨r, f, rfl, hv⟩, hnv, hcv⟩ := ih n' (by omega) h4 (by omega)
            obtain ⟨_, _, hat⟩ := World.cells?_some h2
            obtain ⟨ec, en⟩ := cnt_more _ fuel hv (by omega)
            refine ⟨v, r, f, fun j u hj => ?_, hv.mono (by omega), en hnv, ?_⟩
            · rw [← hj]
              exact hat j (List.getElem?_eq_some_iff.1 hj).1
            · rw [ec, List.getElem?_map, List.getElem?_eq_getElem (by omega)]
              exact hcv
          have : Inhabited (V × Value × Value) := ⟨(.mk 0 0 0 ⟨#[]⟩ [] [], undef, undef)⟩
          obtain ⟨g, hg⟩ := Deep.choose_lt (α := V × Value × Value) (p := fun i x => (∀ j u, [Value.int .i64 x.1.kind, .int .i64 x.1.int, .float .f64 x.1.flt, .string x.1.text, x.2.1, x.2.2][j]? = some u → w.cell? ((a.add (i * 6)).add j) = some u) ∧ VI fuel w x.1 x.2.1 x.2.2 ∧ NumV fuel x.1 ∧ cntP fuel x.1 ≤ uptoBulk ((elems.map (·.1))[i]?.getD (.lit (.string [])))) (fun i hi => by
            obtain ⟨v, r, f, q⟩ := each i hi
            exact ⟨(v, r, f), q⟩)
          have hitem : ∀ i x, ((List.range len).map fun i => (g i).1)[i]? = some x → i < len ∧ x = (g i).1 := fun i x hi => by
            rw [List.getElem?_map] at hi
            have hil : i < len := by
              rcases Nat.lt_or_ge i len with h | h
              · exact h
              · rw [List.getElem?_eq_none (by simpa using h)] at hi; simp at hi
            rw [List.getElem?_eq_getElem (by simpa using hil)] at hi
            simp at hi
            exact ⟨hil, hi.symm⟩
          refine ⟨.mk k0 k1 k2 s3 ns ((List.range len).map fun i => (g i).1), ⟨c4, .slice (some a) len cap, rfl, h3, hns, some a, cap, by simp [V.items], (fun e => by cases e), by simp [V.items]; omega, fun i x hi => ?_⟩, ⟨hk1', hk2, fun x hx => ?_⟩, ?_⟩
          · obtain ⟨hil, rfl⟩ := hitem i x hi
            obtain ⟨q1, q2, _, _⟩ := hg i hil
            obtain ⟨b, off, spot⟩ := a
            have hspot : spot = none := by
              have k0 := (hg 0 (by omega)).1 0 _ rfl
              simpa [Addr.add] using World.cell?_spot k0
            subst hspot
            have cell : ∀ j u, [Value.int .i64 (g i).1.kind, .int .i64 (g i).1.int, .float .f64 (g i).1.flt, .string (g i).1.text, (g i).2.1, (g i).2.2][j]? = some u → w.cell? ⟨b, off + i * 6 + j, none⟩ = some u := by
              intro j u hj
              have := q1 j u hj
              rw [Deep.add_add, add_plain, ← Nat.add_assoc] at this
              exact this
            exact ⟨b, off, (g i).2.1, (g i).2.2, rfl, by have := cell 0 _ rfl; simpa using this, cell 1 _ rfl, cell 2 _ rfl, cell 3 _ rfl, cell 4 _ rfl, cell 5 _ rfl, q2⟩
          · obtain ⟨i, hi⟩ := List.getElem?_of_mem hx
            obtain ⟨hil, rfl⟩ := hitem i x hi
            exact (hg i hil).2.2.1
          · show 1 + (((List.range len).map fun i => (g i).1).map (cntP fuel)).sum ≤ _
            have h1 := bulk_sum (cntP fuel) (fun i => (elems.map (·.1))[i]?.getD (.lit (.string []))) ((List.range len).map fun i => (g i).1) 0 (fun i x hi => by
              obtain ⟨hil, rfl⟩ := hitem i x hi
              rw [Nat.zero_add]
              exact (hg i hil).2.2.2)
            have h2 : (List.range' 0 ((List.range len).map fun i => (g i).1).length).map (fun i => (elems.map (·.1))[i]?.getD (.lit (.string []))) = elems.map (·.1) := by
              apply List.ext_getElem
              · simp [hlen]
              · intro i hi1 hi2
                simp at hi1 hi2
                simp [hi2]
            rw [h2] at h1
            exact Nat.le_trans (by omega) hbulk.2.1
end
end Go.Proofs.YthefajkihnlgfaaGreatDoor

