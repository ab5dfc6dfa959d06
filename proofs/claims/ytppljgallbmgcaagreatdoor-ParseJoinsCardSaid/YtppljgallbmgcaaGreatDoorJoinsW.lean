/- ParseJoins: the walk. -/
import Derived.Test.YtppljgallbmgcaaGreatDoorJoinsP
import Derived.Test.YtppljgallbmgcaaGreatDoorBrackW
import Derived.Test.YtppljgallbmgcaaGreatDoorRegTab
import Derived.RegionTactic
namespace Go.Proofs.YtppljgallbmgcaaGreatDoor
open Go.RowKit Go.Shelf
/-- All blocks but some are as they were. -/
structure Chg (S : Nat → Prop) (w w' : World) : Prop where
  os : w'.os = w.os
  tape : w'.tape = w.tape
  output : w'.output = w.output
  size : w.heap.size ≤ w'.heap.size
  block : ∀ k, k < w.heap.size → ¬ S k → w'.heap[k]? = w.heap[k]?
section
variable {S : Nat → Prop} {a w w' : World}
theorem Chg.refl (S : Nat → Prop) (w : World) : Chg S w w := ⟨rfl, rfl, rfl, Nat.le_refl _, fun _ _ _ => rfl⟩
theorem Chg.setCell (h : Chg S a w) {p : Addr} (hp : S p.block) (u : Value) : Chg S a (w.setCell p u) :=
  ⟨h.os, h.tape, h.output, by have : (w.setCell p u).heap.size = w.heap.size := by simp [World.setCell]
                              rw [this]; exact h.size, fun k hk hn => (Below.heap_setCell w p u k (fun e => hn (e ▸ hp))).trans (h.block k hk hn)⟩
theorem Chg.drew (h : Chg S a w) : Chg S a w.drew :=
  have hd := Below.drew (Below.refl w.heap.size w)
  ⟨hd.os.trans h.os, hd.tape.trans h.tape, hd.output.trans h.output, Nat.le_trans h.size hd.size, fun k hk hn => (hd.block k (Nat.lt_of_lt_of_le hk h.size)).trans (h.block k hk hn)⟩
theorem Chg.drewN (h : Chg S a w) (n : Nat) : Chg S a (w.drewN n) :=
  have hd := below_drewN (Below.refl w.heap.size w) n
  ⟨hd.os.trans h.os, hd.tape.trans h.tape, hd.output.trans h.output, Nat.le_trans h.size hd.size, fun k hk hn => (hd.block k (Nat.lt_of_lt_of_le hk h.size)).trans (h.block k hk hn)⟩
theorem Chg.below (h : Chg S w w') {Z : Nat} (hZ : Z ≤ w.heap.size) (hS : ∀ k, k < Z → ¬ S k) : Below Z w w' := ⟨h.os, h.tape, h.output, h.size, fun k hk => h.block k (by omega) (hS k hk)⟩
theorem Chg.keeps (h : Chg S w w') {p : Nat → Prop} (hp : ∀ k, p k → ¬ S k) : Keeps p w w' := fun k hk hl => h.block k hl (hp k hk)
end
theorem Chg.next {S : Nat → Prop} {a w w' : World} (h : Chg S a w) (hb : Below w.heap.size w w') : Chg S a w' :=
  ⟨hb.os.trans h.os, hb.tape.trans h.tape, hb.output.trans h.output, Nat.le_trans h.size hb.size, fun k hk hn => (hb.block k (Nat.lt_of_lt_of_le hk h.size)).trans (h.block k hk hn)⟩
theorem free_keeps {w w' : World} {b j : Nat} (hb : Below w.heap.size w w') (hl : b < w.heap.size) (h : w.frozen? ⟨b, j, none⟩ = false) : w'.frozen? ⟨b, j, none⟩ = false := by
  have h1 := hb.block b hl
  unfold World.frozen? at h ⊢
  simp only at h ⊢
  rw [h1]
  exact h
theorem NRd.chg {S : Nat → Prop} {pn : Nat → Prop} {pk : Nat → Nat → Prop} {w w' : World} {g o : Nat} {ls : List NV} (h : NRd pn pk w g o ls) (hc : Chg S w w') (hg : ¬ S g) (h1 : ∀ k, pn k → ¬ S k) (h2 : ∀ i k, pk i k → ¬ S k) : NRd pn pk w' g o ls :=
  h.keep (hc.block g h.lt hg) (hc.keeps h1) (fun i => hc.keeps (h2 i))
theorem ND.rd2 {q : Nat → Prop} {A B : Nat} {w : World} {g n c : Nat} {ls : List NV} (h : ND q A B w (.slice (some ⟨g, 0, none⟩) n c) ls) : NRd (fun k => A ≤ k ∧ k < B) (kidAt ls) w g 0 ls := ⟨h.rd.blk, fun i x hi => h.nam i x hi, h.rd.kid⟩
/-- The kids' numbers, the first of them moved on. -/
def ksh (n j : Nat) (ks : List Nat) : List Nat := (ks.take j).map (· + n) ++ ks.drop j
theorem ksh_zero (n : Nat) (ks : List Nat) : ksh n 0 ks = ks := rfl
theorem ksh_len (n j : Nat) (ks : List Nat) : (ksh n j ks).length = ks.length := by unfold ksh; simp; omega
theorem ksh_all (n : Nat) (ks : List Nat) : ksh n ks.length ks = ks.map (· + n) := by unfold ksh; simp
theorem ksh_get {n j k : Nat} {ks : List Nat} (h : ks[j]? = some k) : (ksh n j ks)[j]? = some k := by
  have hlt : j < ks.length := (List.getElem?_eq_some_iff.1 h).1
  unfold ksh
  rw [List.getElem?_append_right (by simp; omega)]
  simp only [List.length_map, List.length_take, List.getElem?_drop]
  rw [show j + (j - min j ks.length) = j by omega]
  exact h
theorem ksh_set {n j k : Nat} {ks : List Nat} (h : ks[j]? = some k) : (ksh n j ks).set j (k + n) = ksh n (j + 1) ks := by
  obtain ⟨hlt, hx⟩ := List.getElem?_eq_some_iff.1 h
  unfold ksh
  rw [List.set_append_right _ _ (by simp; omega)]
  simp only [List.length_map, List.length_take]
  rw [show j - min j ks.length = 0 by omega, List.drop_eq_getElem_cons hlt, hx, List.take_succ_eq_append_getElem hlt, hx]
  simp
/-- A node of the second text, so many of its kids' numbers moved on. -/
def chJ (d n j : Nat) (x : NV) : NV := (x.at (x.nd.place + d)).wk (ksh n j x.nd.kids)
def chL (d n k : Nat) (ms : List NV) : List NV := (ms.take k).map (fun x => chJ d n x.nd.kids.length x) ++ ms.drop k
theorem chL_zero (d n : Nat) (ms : List NV) : chL d n 0 ms = ms := rfl
theorem chL_get {d n k : Nat} {ls : List NV} {x : NV} (h : ls[k]? = some x) : (chL d n k ls)[k]? = some x := by
  have hlt : k < ls.length := (List.getElem?_eq_some_iff.1 h).1
  unfold chL
  rw [List.getElem?_append_right (by simp; omega)]
  simp only [List.length_map, List.length_take, List.getElem?_drop]
  rw [show k + (k - min k ls.length) = k by omega]
  exact h
theorem chL_set {d n k : Nat} {ls : List NV} {x : NV} (h : ls[k]? = some x) : (chL d n k ls).set k (chJ d n x.nd.kids.length x) = chL d n (k + 1) ls := by
  obtain ⟨hlt, hx⟩ := List.getElem?_eq_some_iff.1 h
  unfold chL
  rw [List.set_append_right _ _ (by simp; omega)]
  simp only [List.length_map, List.length_take]
  rw [show k - min k ls.length = 0 by omega, List.drop_eq_getElem_cons hlt, hx, List.take_succ_eq_append_getElem hlt, hx]
  simp
theorem chL_all {d n : Nat} {ls : List NV} : chL d n ls.length ls = ls.map (fun x => chJ d n x.nd.kids.length x) := by
  unfold chL
  simp
theorem chL_len (d n k : Nat) (ls : List NV) : (chL d n k ls).length = ls.length := by
  unfold chL
  simp
  omega
theorem sg_row {w : World} {x : Nat} (hx : x < 14) (ty : TypeId) : (w.alloc (.cells #[.string ⟨#[124, 124]⟩, .string ⟨#[38, 38]⟩, .string ⟨#[61, 61]⟩, .string ⟨#[33, 61]⟩, .string ⟨#[60]⟩, .string ⟨#[60, 61]⟩, .string ⟨#[62]⟩, .string ⟨#[62, 61]⟩, .string ⟨#[47, 47]⟩, .string ⟨#[43]⟩, .string ⟨#[45]⟩, .string ⟨#[42]⟩, .string ⟨#[47]⟩, .string ⟨#[43, 43]⟩] ty)).cell? ⟨w.heap.size, x, none⟩ = some (.string (jsg x)) := by
  rcases (by omega : x = 0 ∨ x = 1 ∨ x = 2 ∨ x = 3 ∨ x = 4 ∨ x = 5 ∨ x = 6 ∨ x = 7 ∨ x = 8 ∨ x = 9 ∨ x = 10 ∨ x = 11 ∨ x = 12 ∨ x = 13) with rfl | rfl | rfl | rfl | rfl | rfl | rfl | rfl | rfl | rfl | rfl | rfl | rfl | rfl <;> exact block_cell (block_new _ _ rfl) rfl
theorem join_text (a b : ByteArray) (i : Nat) : (⟨#[40]⟩ ++ a ++ ⟨#[10, 41]⟩ ++ jsg i ++ ⟨#[40]⟩ ++ b ++ ⟨#[10, 41]⟩ : ByteArray).data.toList = 40 :: (a.data.toList ++ 10 :: 41 :: ((jsg i).data.toList ++ 40 :: (b.data.toList ++ [10, 41]))) := by
  rw [nw_app, nw_app, nw_app, nw_app, nw_app, nw_app]
  simp
mutual
theorem nodes_kid : ∀ (t : T) (b : Nat), ∀ x ∈ nodes t b, ∀ k ∈ x.kids, k < b + cnt t
  | .mk k tx n x ns p ks, b => by
    rw [nodes_mk, cnt_mk]
    intro y hy m hm
    rcases List.mem_append.1 hy with hy | hy
    · have := (nodesK_kid ks b []).1 y hy m hm
      omega
    · simp at hy
      subst hy
      have h1 := (nodesK_kid ks b []).2 m hm
      simp at h1
      omega
theorem nodesK_kid : ∀ (ks : List T) (b : Nat) (is : List Nat), (∀ x ∈ (nodesK ks b is).1, ∀ k ∈ x.kids, k < b + cntK ks) ∧ ∀ k ∈ (nodesK ks b is).2, k ∈ is ∨ k < b + cntK ks
  | [], b, is => by
    rw [nodesK_nil]
    exact ⟨fun x hx => (by cases hx), fun k hk => Or.inl hk⟩
  | t :: ks, b, is => by
    rw [nodesK_cons, cntK_cons]
    simp only
    have hl := nodes_len t b
    have hp := cnt_pos t
    obtain ⟨h1, h2⟩ := nodesK_kid ks (b + (nodes t b).length) (is ++ [b + (nodes t b).length - 1])
    refine ⟨fun y hy k hk => ?_, fun k hk => ?_⟩
    · rcases List.mem_append.1 hy with hy | hy
      · have := nodes_kid t b y hy k hk
        omega
      · have := h1 y hy k hk
        omega
    · rcases h2 k hk with h | h
      · rcases List.mem_append.1 h with h | h
        · exact Or.inl h
        · simp at h
          exact Or.inr (by omega)
      · exact Or.inr (by omega)
end
theorem kid_of {pf : ByteArray → Nat} {s : ByteArray} {l : List Nd} {ls : List NV} (h : parseP pf s = .ok l) (hm : ls.map NV.nd = l) : ∀ x ∈ ls, ∀ k ∈ x.nd.kids, k < 1000 := fun x hx k hk => by
  obtain ⟨_, t, _, _, _, _, _, _, hl, hc⟩ := taken h
  have hx2 : x.nd ∈ l := by rw [← hm]; exact List.mem_map.2 ⟨x, hx, rfl⟩
  rw [hl] at hx2
  have := nodes_kid t 0 _ hx2 k hk
  omega
theorem len_of {pf : ByteArray → Nat} {s : ByteArray} {l : List Nd} {ls : List NV} (h : parseP pf s = .ok l) (hm : ls.map NV.nd = l) : 0 < ls.length ∧ ls.length = l.length ∧ l.length ≤ 1000 ∧ s.size ≤ 4096 := by
  obtain ⟨_, t, _, _, hz, _, _, _, hl, hc⟩ := taken h
  have h1 : ls.length = l.length := by rw [← hm, List.length_map]
  have h2 : l.length = cnt t := by rw [hl, nodes_len]
  have := cnt_pos t
  omega
theorem NRd.kidcell {pn : Nat → Prop} {pk : Nat → Nat → Prop} {w : World} {g o : Nat} {ls : List NV} (h : NRd pn pk w g o ls) {i : Nat} {x : NV} (hi : ls[i]? = some x) {j k : Nat} (hk : x.nd.kids[j]? = some k) :
    ∃ b c, x.vk = .slice (some ⟨b, 0, none⟩) x.nd.kids.length c ∧ pk i b ∧ w.cell? ⟨b, j, none⟩ = some (.int .i64 (k : Int)) ∧ (∀ m, w.frozen? ⟨b, m, none⟩ = false) ∧ b < w.heap.size := by
  rcases h.kid i x hi with ⟨_, e2⟩ | ⟨b, cap, cur, e, q1, q2, q3, q4⟩
  · have : x.nd.kids = [] := by simpa using e2
    rw [this] at hk
    cases hk
  · refine ⟨b, cap, by rw [q1, List.length_map], q2, block_cell q3 (q4 j (num k) (by rw [List.getElem?_map, hk]; rfl)), fun m => block_free q3, block_lt q3⟩
theorem chJ_step {d n j k : Nat} {x : NV} (h : x.nd.kids[j]? = some k) : (chJ d n j x).wk ((chJ d n j x).nd.kids.set j (k + n)) = chJ d n (j + 1) x := by
  have e : (chJ d n j x).nd.kids = ksh n j x.nd.kids := rfl
  rw [e, ksh_set h]
  rfl
theorem nd_at {ls : List NV} {l : List Nd} (h : ls.map NV.nd = l) {i : Nat} {x : NV} (hx : ls[i]? = some x) : l[i]? = some x.nd := by
  rw [← h, List.getElem?_map, hx]
  rfl
theorem join_same1 {y : Nat} {s : ByteArray} {la lb : List Nd} {ls hs : List NV} (hm : ls.map NV.nd = la) (h3 : hs.map NV.nd = joinN y s la lb) : ∀ (i : Nat) (x z : NV), (mvL 1 la.length ls)[i]? = some x → (hs.take la.length)[i]? = some z → SameN true x.nd z.nd := by
  intro i x z hx hz
  have hfl : ls.length = la.length := by rw [← hm, List.length_map]
  have e : mvL 1 la.length ls = ls.map (fun x => x.at (x.nd.place + 1)) := by rw [← hfl]; exact mvL_all
  rw [e, List.getElem?_map] at hx
  cases hv : ls[i]? with
  | none => rw [hv] at hx; cases hx
  | some v =>
    rw [hv] at hx
    cases hx
    have h1 := nd_at hm hv
    have hil : i < la.length := (List.getElem?_eq_some_iff.1 h1).1
    rw [List.getElem?_take, if_pos hil] at hz
    have h2 := nd_at h3 hz
    unfold joinN at h2
    rw [List.getElem?_append_left (by simpa using hil), List.getElem?_map, h1] at h2
    have h4 : z.nd = Nd.mv 1 v.nd := (Option.some.inj h2).symm
    rw [h4]
    exact ⟨rfl, rfl, rfl, rfl, rfl, rfl, fun _ => rfl⟩
theorem join_same2 {y dd : Nat} {s : ByteArray} {la lb : List Nd} {ms hs : List NV} (hd : s.size + 4 + (jsg y).size = dd) (hm : ms.map NV.nd = lb) (h3 : hs.map NV.nd = joinN y s la lb) :
    ∀ (i : Nat) (x z : NV), (chL dd la.length lb.length ms)[i]? = some x → ((hs.drop la.length).take lb.length)[i]? = some z → SameN true x.nd z.nd := by
  intro i x z hx hz
  have hfl : ms.length = lb.length := by rw [← hm, List.length_map]
  have e : chL dd la.length lb.length ms = ms.map (fun x => chJ dd la.length x.nd.kids.length x) := by rw [← hfl]; exact chL_all
  rw [e, List.getElem?_map] at hx
  cases hv : ms[i]? with
  | none => rw [hv] at hx; cases hx
  | some v =>
    rw [hv] at hx
    cases hx
    have h1 := nd_at hm hv
    have hil : i < lb.length := (List.getElem?_eq_some_iff.1 h1).1
    rw [List.getElem?_take, if_pos hil, List.getElem?_drop] at hz
    have h2 := nd_at h3 hz
    unfold joinN at h2
    rw [List.getElem?_append_right (by simp), List.length_map, show la.length + i - la.length = i by omega, List.getElem?_append_left (by simpa using hil), List.getElem?_map, List.getElem?_map, h1] at h2
    have h4 : z.nd = Nd.up la.length (Nd.mv (s.size + 4 + (jsg y).size) v.nd) := (Option.some.inj h2).symm
    rw [h4, hd]
    refine ⟨rfl, rfl, rfl, rfl, rfl, ?_, fun _ => rfl⟩
    show ksh la.length v.nd.kids.length v.nd.kids = v.nd.kids.map (· + la.length)
    exact ksh_all _ _
theorem join_last {y : Nat} {s : ByteArray} {la lb : List Nd} {hs : List NV} (h3 : hs.map NV.nd = joinN y s la lb) {z : NV} (hz : hs[la.length + lb.length]? = some z) : z.nd = ⟨18, jsg y, 0, 0, [], [la.length - 1, la.length + lb.length - 1], s.size + 3⟩ := by
  have h2 := nd_at h3 hz
  unfold joinN at h2
  rw [List.getElem?_append_right (by simp), List.length_map, show la.length + lb.length - la.length = lb.length by omega, List.getElem?_append_right (by simp)] at h2
  simp at h2
  exact h2.symm
set_option maxHeartbeats 8000000 in
set_option maxRecDepth 100000 in
theorem joins_law {NG : Nat} {w : World} (hG : GP NG w) (hE : HndG w) (s t : ByteArray) (hs : s.size ≤ 9223372036854775807) (ht : t.size ≤ 9223372036854775807) (n : Int) (hn1 : -9223372036854775808 ≤ n) (hn2 : n ≤ 9223372036854775807) :
    Calls Tryz.prog 6 #[.string s, .string t, .int .i64 n] w fun e w' => e = .returned (.bool true) ∧ Below w.heap.size w w' := by
  have HSH := Lib.hid (shown_any hG)
  have HGW := Lib.hid (fun (w' : World) (hb : Below w.heap.size w w') t => Parse_any (hG.below hb) t)
  have HEW := Lib.hid (fun (w' : World) (hb : Below w.heap.size w w') => hE.keeps hb)
  obtain ⟨RA, hRA⟩ : ∃ R, parseP pfA s = R := ⟨_, rfl⟩
  obtain ⟨RB, hRB⟩ : ∃ R, parseP pfA t = R := ⟨_, rfl⟩
  have HRA := Lib.hid hRA
  have HRB := Lib.hid hRB
  clear hG hE hRA hRB
  go_enter Tryz.func6, Tryz.ntmps6
  go_wp2_with fail
  refine HSH.out.mono ?_
  rintro e w2 ⟨rfl, hb2⟩
  have HP := HGW.out w2 hb2 s
  rw [HRA.out] at HP
  have HP := Lib.hid HP
  cases RA with
  | error er =>
    obtain ⟨p, er⟩ := er
    go_wp2_with fail
    refine HP.out.mono ?_
    rintro e w3 ⟨⟨v, rfl, hft⟩, hb3⟩
    have hB3 := hb2.trans (hb3.mono hb2.size)
    clear hft
    have HQ := HGW.out w3 hB3 t
    rw [HRB.out] at HQ
    have HQ := Lib.hid HQ
    cases RB with
    | error er2 =>
      obtain ⟨p2, er2⟩ := er2
      go_wp2_with fail
      refine HQ.out.mono ?_
      rintro e w4 ⟨⟨v2, rfl, hft⟩, hb4⟩
      go_wp2_with fail
      go_ret
      exact ⟨rfl, hB3.trans (hb4.mono hB3.size)⟩
    | ok lb =>
      go_wp2_with fail
      refine HQ.out.mono ?_
      rintro e w4 ⟨⟨out, ls, A, B, rfl, _, _, _, _⟩, hb4⟩
      go_wp2_with fail
      go_ret
      exact ⟨rfl, hB3.trans (hb4.mono hB3.size)⟩
  | ok la =>
    go_wp2_with fail
    refine HP.out.mono ?_
    rintro e w3 ⟨⟨out, ls, A, B, rfl, hnd, hmap, hA, hAB⟩, hb3⟩
    have hB3 := hb2.trans (hb3.mono hb2.size)
    have HQ := HGW.out w3 hB3 t
    rw [HRB.out] at HQ
    have HQ := Lib.hid HQ
    obtain ⟨cf, capf, rfl⟩ := own_shape hnd.own
    cases RB with
    | error er2 =>
      obtain ⟨p2, er2⟩ := er2
      clear hnd hmap hA hAB
      go_wp2_with fail
      refine HQ.out.mono ?_
      rintro e w4 ⟨⟨v2, rfl, hft⟩, hb4⟩
      go_wp2_with fail
      go_ret
      exact ⟨rfl, hB3.trans (hb4.mono hB3.size)⟩
    | ok lb =>
      have HND := Lib.hid hnd
      have HMAP := Lib.hid hmap
      have hz2 := hb2.size
      clear hnd hmap HP
      go_wp2_with fail
      refine HQ.out.mono ?_
      rintro e w4 ⟨⟨out2, ms, A2, B2, rfl, hnd2, hmap2, hA2, hAB2⟩, hb4⟩
      have hB4 := hB3.trans (hb4.mono hB3.size)
      obtain ⟨cg, capg, rfl⟩ := own_shape hnd2.own
      have HND2 := Lib.hid hnd2
      have HMAP2 := Lib.hid hmap2
      have hz3 := hb4.size
      clear hnd2 hmap2 HQ
      obtain ⟨hf0, hfl, hf1, hsz⟩ := len_of HRA.out HMAP.out
      obtain ⟨hg0, hgl, hg1, htz⟩ := len_of HRB.out HMAP2.out
      by_cases hbig : 4076 < s.size + t.size
      · have hbI : 4076 < (s.size : Int) + (t.size : Int) := by omega
        go_wp2_with fail
        go_ret
        exact ⟨rfl, hB4⟩
      · have hbI : (s.size : Int) + (t.size : Int) ≤ 4076 := by omega
        have hwl := whN_le hn1 hn2
        have HWN := Lib.hid (fun h : n < 0 => whN_neg h)
        have HWP := Lib.hid (fun h : 0 ≤ n => whN_pos h)
        generalize whN n = q at *
        obtain ⟨y, hy⟩ : ∃ y, q % 14 = y := ⟨_, rfl⟩
        have hyI : (q : Int).tmod 14 = (y : Int) := by rw [Int.tmod_eq_emod_of_nonneg (by omega)]; omega
        have hy14 : y < 14 := by omega
        have hyL : (y : Int) < 14 := by omega
        obtain ⟨_, _, hgs⟩ := jsg_size hy14
        have hb5 := hB4.alloc hB4.size (.cells #[.string ⟨#[124, 124]⟩, .string ⟨#[38, 38]⟩, .string ⟨#[61, 61]⟩, .string ⟨#[33, 61]⟩, .string ⟨#[60]⟩, .string ⟨#[60, 61]⟩, .string ⟨#[62]⟩, .string ⟨#[62, 61]⟩, .string ⟨#[47, 47]⟩, .string ⟨#[43]⟩, .string ⟨#[45]⟩, .string ⟨#[42]⟩, .string ⟨#[47]⟩, .string ⟨#[43, 43]⟩] 9)
        have hb45 := (Below.refl w4.heap.size w4).alloc (Nat.le_refl _) (.cells #[.string ⟨#[124, 124]⟩, .string ⟨#[38, 38]⟩, .string ⟨#[61, 61]⟩, .string ⟨#[33, 61]⟩, .string ⟨#[60]⟩, .string ⟨#[60, 61]⟩, .string ⟨#[62]⟩, .string ⟨#[62, 61]⟩, .string ⟨#[47, 47]⟩, .string ⟨#[43]⟩, .string ⟨#[45]⟩, .string ⟨#[42]⟩, .string ⟨#[47]⟩, .string ⟨#[43, 43]⟩] 9)
        have c1 := sg_row (w := w4) hy14 9
        have HB5 := Lib.hid hb5
        have HB45 := Lib.hid hb45
        have C1 := Lib.hid c1
        clear hy hb5 hb45 c1
        go_upto_region 7 with fail
        generalize w4.alloc (.cells #[.string ⟨#[124, 124]⟩, .string ⟨#[38, 38]⟩, .string ⟨#[61, 61]⟩, .string ⟨#[33, 61]⟩, .string ⟨#[60]⟩, .string ⟨#[60, 61]⟩, .string ⟨#[62]⟩, .string ⟨#[62, 61]⟩, .string ⟨#[47, 47]⟩, .string ⟨#[43]⟩, .string ⟨#[45]⟩, .string ⟨#[42]⟩, .string ⟨#[47]⟩, .string ⟨#[43, 43]⟩] 9) = w5 at *
        obtain ⟨bs, hbs⟩ : ∃ b, w4.heap.size = b := ⟨_, rfl⟩
        rw [hbs] at C1 ⊢
        clear hbs
        go_upto_if 55 with fail
        go_cut [2] from 56 to 58 (fun v wx => v = .int .i64 (q : Int) ∧ wx = w5)
        case first =>
          by_cases hneg : n < 0
          · have h := HWN.out hneg
            have HH := Lib.hid h
            clear h
            go_wp2_with fail
            go_meet
            exact ⟨by rw [HH.out], rfl⟩
          · have h := HWP.out (by omega)
            have HH := Lib.hid h
            clear h
            go_wp2_with fail
            go_meet
            exact ⟨by rw [HH.out], rfl⟩
        case rest =>
          obtain ⟨rfl, rfl⟩ := hcut
          clear HWN HWP
          have c1 := C1.out
          have HJ := Lib.hid (joins hy14 HRA.out HRB.out (join_text s t y) (by omega))
          have HPJ := HGW.out wc HB5.out (⟨#[40]⟩ ++ s ++ ⟨#[10, 41]⟩ ++ jsg y ++ ⟨#[40]⟩ ++ t ++ ⟨#[10, 41]⟩)
          obtain ⟨RJ, hRJ⟩ : ∃ R, parseP pfA (⟨#[40]⟩ ++ s ++ ⟨#[10, 41]⟩ ++ jsg y ++ ⟨#[40]⟩ ++ t ++ ⟨#[10, 41]⟩) = R := ⟨_, rfl⟩
          rw [hRJ] at HJ HPJ
          have HPJ := Lib.hid HPJ
          obtain ⟨sg, hsg⟩ : ∃ sg, jsg y = sg := ⟨_, rfl⟩
          have HSG := Lib.hid hsg
          rw [hsg] at c1 hgs HPJ
          have HKID := Lib.hid (kid_of HRB.out HMAP2.out)
          have HFITA := Lib.hid (fit_of HRA.out HMAP.out)
          have HFITB := Lib.hid (fit_of HRB.out HMAP2.out)
          clear hRJ hsg C1 HGW HRA HRB HSH
          by_cases hN : 1000 ≤ la.length + lb.length
          · have hNI : 1000 ≤ (la.length : Int) + (lb.length : Int) := by omega
            obtain ⟨p, er, hRE⟩ : ∃ (p : Nat) (er : Int), RJ = .error (p, er) := by
              rcases HJ.out with h | ⟨p, h⟩
              · rw [if_pos (by omega)] at h
                exact ⟨_, _, h⟩
              · exact ⟨_, _, h⟩
            subst hRE
            clear HJ
            go_wp2_with fail
            refine HPJ.out.mono ?_
            rintro e w6 ⟨⟨v, rfl, hft⟩, hb6⟩
            clear hft
            go_wp2_with fail
            go_ret
            exact ⟨rfl, HB5.out.trans (hb6.mono HB5.out.size)⟩
          · have hNI : (la.length : Int) + (lb.length : Int) < 1000 := by omega
            rcases HJ.out with h | ⟨p, h⟩
            · rw [if_neg (by omega)] at h
              subst h
              clear HJ
              go_wp2_with fail
              refine HPJ.out.mono ?_
              rintro e w6 ⟨⟨out3, hs3, A3, B3, rfl, hnd3, hmap3, hA3, hAB3⟩, hb6⟩
              have hB6 := HB5.out.trans (hb6.mono HB5.out.size)
              have hb46 := HB45.out.trans (hb6.mono HB45.out.size)
              have hJl : hs3.length = la.length + lb.length + 1 := by
                rw [← List.length_map (f := NV.nd), hmap3]
                unfold joinN
                simp
                omega
              obtain ⟨x0, hx0⟩ := get_lt ls hf0
              obtain ⟨y0, hy0⟩ := get_lt ms hg0
              obtain ⟨z0, hz0⟩ := get_lt hs3 (k := 0) (by omega)
              obtain ⟨gf, nf', cf', hvf, hnf', hBf⟩ := HND.out.at_ne hx0
              obtain ⟨gg, ng', cg', hvg, hng', hBg⟩ := HND2.out.at_ne hy0
              obtain ⟨gh, nh', ch', rfl, hnh', hBh⟩ := hnd3.at_ne hz0
              cases hvf
              cases hvg
              rw [hJl] at hnh'
              subst hnh'
              have hcap : la.length + lb.length + 1 ≤ ch' := by
                obtain ⟨_, h1 | ⟨_, _, _, h1, _, _, hle, _, _⟩⟩ := hnd3.own
                · cases h1.1
                · simp only [Value.slice.injEq] at h1
                  omega
              obtain ⟨apf1, apf2, _⟩ := HND.out.apart
              obtain ⟨apg1, apg2, _⟩ := HND2.out.apart
              have hgfl := HND.out.rd.lt
              have hggl := HND2.out.rd.lt
              have hghl := hnd3.rd.lt
              have hz36 : w3.heap.size ≤ w6.heap.size := Nat.le_trans hz3 hb46.size
              have hrf : NRd (fun k => k < w3.heap.size ∧ k ≠ gf) (fun _ k => k < w3.heap.size ∧ k ≠ gf) w6 gf 0 ls :=
                (HND.out.rd.mono (fun k hk hl => ⟨hl, by omega⟩) (fun i k hk hl => ⟨hl, (apf1 i k hk).1⟩)).below (hb4.trans (hb46.mono hz3))
              have hrg : NRd (fun k => A2 ≤ k ∧ k < B2) (fun i k => kidAt ms i k ∧ w3.heap.size ≤ k ∧ k < w4.heap.size) w6 gg 0 ms :=
                (HND2.out.rd2.mono (fun k hk _ => hk) (fun i k hk hl => ⟨hk, by have := (apg1 i k hk).2; omega, hl⟩)).below hb46
              have hrh := hnd3.rd_from (Z := w4.heap.size) (by have := HB45.out.size; omega) hAB3
              have HRF := Lib.hid hrf
              have HRG := Lib.hid hrg
              have HRH := Lib.hid hrh
              have HAPG1 := Lib.hid apg1
              have HAPG2 := Lib.hid apg2
              have HM3 := Lib.hid hmap3
              have HB6 := Lib.hid hB6
              have HBA := Lib.hid HND.out.bound
              have HBB := Lib.hid HND2.out.bound
              have hz6 := hb46.size
              have hgh4 : w4.heap.size ≤ gh := by have := HB45.out.size; omega
              have hJI : ((la.length + lb.length + 1 : Nat) : Int) = (la.length : Int) + (lb.length : Int) + 1 := by omega
              have hlaI : (la.length : Int) ≤ 1000 := by omega
              have hlbI : (lb.length : Int) ≤ 1000 := by omega
              clear hrf hrg hrh apf1 apf2 apg1 apg2 hmap3 hnd3 HND HND2 HPJ c1 hx0 hy0 hz0 hb6
              go_wp2_with fail
              go_loopw [17] (fun iv wr => ∃ k : Nat, k ≤ la.length ∧ iv = .int .i64 (k : Int) ∧ NRd (fun k => k < w3.heap.size ∧ k ≠ gf) (fun _ k => k < w3.heap.size ∧ k ≠ gf) wr gf 0 (mvL 1 k ls) ∧ Chg (fun k => k = gf) w6 wr) (fun iv _ => la.length - (intOf iv).toNat)
              case atStart => exact ⟨0, Nat.zero_le _, rfl, HRF.out, Chg.refl _ _⟩
              case round =>
                obtain ⟨k, hk, rfl, hr, hct⟩ := hrel
                by_cases hlt : k < la.length
                · obtain ⟨x, hx⟩ := get_lt ls (k := k) (by omega)
                  have hkI : (k : Int) < (la.length : Int) := by omega
                  have c6 := hr.cell (mvL_get hx) 6 _ rfl
                  have f6 := hr.free (0 + k * 7 + 6)
                  simp only [Nat.zero_add] at c6 f6
                  have hpl := (HFITA.out x (List.mem_of_getElem? hx)).2
                  have HR := Lib.hid hr
                  have HX := Lib.hid hx
                  clear hr hx
                  have hgl2 := HR.out.lt
                  go_wp2_with fail
                  go_roundw
                  case rel =>
                    refine ⟨k + 1, by omega, by go_num, ?_, hct.setCell rfl _⟩
                    have h9 := HR.out.place (fun k hk => hk.2) (fun _ k hk => hk.2) (mvL_get HX.out) (x.nd.place + 1)
                    rw [mvL_set HX.out, Nat.zero_add] at h9
                    exact h9
                  case measure => simp [intOf]; omega
                · obtain rfl : k = la.length := by omega
                  have HRF7 := Lib.hid hr
                  have HC7 := Lib.hid hct
                  have HRG7 := Lib.hid (HRG.out.chg hct (by omega) (fun k hk => by omega) (fun _ k hk => by omega))
                  have HRH7 := Lib.hid (HRH.out.chg hct (by omega) (fun k hk => by have : w4.heap.size ≤ k := hk; omega) (fun _ k hk => by have : w4.heap.size ≤ k := hk; omega))
                  have hz7 := hct.size
                  clear hr hct HRF HRG HRH
                  obtain ⟨w7, hw7⟩ : ∃ w7, w7 = wr := ⟨_, rfl⟩
                  rw [← hw7] at HRF7 HC7 HRG7 HRH7 hz7 ⊢
                  clear hw7
                  obtain ⟨dd, hdd⟩ : ∃ dd, s.size + 4 + sg.size = dd := ⟨_, rfl⟩
                  have HDD := Lib.hid hdd
                  clear hdd
                  go_upto_region 23 with fail
                  go_loopw [18] (fun iv wp => ∃ i : Nat, i ≤ lb.length ∧ iv = .int .i64 (i : Int) ∧ NRd (fun k => A2 ≤ k ∧ k < B2) (fun i k => kidAt ms i k ∧ w3.heap.size ≤ k ∧ k < w4.heap.size) wp gg 0 (chL dd la.length i ms) ∧ Chg (fun k => w3.heap.size ≤ k ∧ k < w4.heap.size) w7 wp) (fun iv _ => lb.length - (intOf iv).toNat)
                  case atStart => exact ⟨0, Nat.zero_le _, rfl, HRG7.out, Chg.refl _ _⟩
                  case round =>
                    obtain ⟨i, hi, rfl, hr, hct⟩ := hrel
                    by_cases hlt : i < lb.length
                    · obtain ⟨x, hx⟩ := get_lt ms (k := i) (by omega)
                      have hiI : (i : Int) < (lb.length : Int) := by omega
                      have c6 := hr.cell (chL_get hx) 6 _ rfl
                      have f6 := hr.free (0 + i * 7 + 6)
                      simp only [Nat.zero_add] at c6 f6
                      have hpl := (HFITB.out x (List.mem_of_getElem? hx)).2
                      have HR := Lib.hid hr
                      have HX := Lib.hid hx
                      have HCT := Lib.hid hct
                      clear hr hx hct
                      have hgl2 := HR.out.lt
                      have hes : (x.nd.place : Int) + (s.size : Int) + 4 + (sg.size : Int) = ((x.nd.place + dd : Nat) : Int) := by have := HDD.out; omega
                      have HES := Lib.hid hes
                      clear hes
                      obtain ⟨_, _, a2, c2, _, hvk, _, _, _, _, _, _, _, _, _⟩ := HR.out.seven (chL_get HX.out)
                      have HVK := Lib.hid hvk
                      have HKX := Lib.hid (HKID.out x (List.mem_of_getElem? HX.out))
                      have hkn : x.nd.kids.length ≤ 9223372036854775807 := HBB.out x (List.mem_of_getElem? HX.out)
                      obtain ⟨kl, hkl⟩ : ∃ kl, x.nd.kids.length = kl := ⟨_, rfl⟩
                      rw [hkl] at HVK hkn
                      have HKL := Lib.hid hkl
                      have hch : (x.at (x.nd.place + dd)) = chJ dd la.length 0 x := rfl
                      have h9 := HR.out.place (fun k hk => by omega) (fun i k hk => (HAPG1.out i k hk.1).1) (chL_get HX.out) (x.nd.place + dd)
                      rw [hch, Nat.zero_add] at h9
                      unfold num at h9
                      rw [← HES.out] at h9
                      have HN := Lib.hid h9
                      have HCN := Lib.hid (HCT.out.setCell (p := ⟨gg, i * 7 + 6, none⟩) (show w3.heap.size ≤ gg ∧ gg < w4.heap.size by omega) (.int .i64 ((x.nd.place : Int) + (s.size : Int) + 4 + (sg.size : Int))))
                      clear hvk hkl hch h9
                      go_upto_region 26 with fail
                      clear c6 f6 hgl2
                      generalize (World.setCell _ ⟨gg, i * 7 + 6, none⟩ (.int .i64 ((x.nd.place : Int) + (s.size : Int) + 4 + (sg.size : Int)))) = wi at *
                      clear HR HCT HES
                      go_upto_region 27 with fail
                      go_loopw [19] (fun jv wj => ∃ j : Nat, j ≤ kl ∧ jv = .int .i64 (j : Int) ∧ NRd (fun k => A2 ≤ k ∧ k < B2) (fun i k => kidAt ms i k ∧ w3.heap.size ≤ k ∧ k < w4.heap.size) wj gg 0 ((chL dd la.length i ms).set i (chJ dd la.length j x)) ∧ Chg (fun k => w3.heap.size ≤ k ∧ k < w4.heap.size) w7 wj) (fun jv _ => kl - (intOf jv).toNat)
                      case atStart => exact ⟨0, Nat.zero_le _, rfl, HN.out, HCN.out⟩
                      case round =>
                        obtain ⟨j, hj, rfl, hr, hct⟩ := hrel
                        have hil : i < (chL dd la.length i ms).length := by rw [chL_len]; omega
                        have hge : ((chL dd la.length i ms).set i (chJ dd la.length j x))[i]? = some (chJ dd la.length j x) := List.getElem?_set_self hil
                        have c5 := hr.cell hge 5 _ rfl
                        rw [show (chJ dd la.length j x).vk = x.vk from rfl, HVK.out] at c5
                        simp only [Nat.zero_add] at c5
                        have HR := Lib.hid hr
                        have HGE := Lib.hid hge
                        have HCT := Lib.hid hct
                        have hgl3 := hr.lt
                        clear hr hge hct hil
                        by_cases hjl : j < kl
                        · have hjI : (j : Int) < (kl : Int) := by omega
                          obtain ⟨m, hm⟩ : ∃ m, x.nd.kids[j]? = some m := ⟨_, List.getElem?_eq_getElem (by rw [HKL.out]; exact hjl)⟩
                          have hm1000 := HKX.out m (List.mem_of_getElem? hm)
                          obtain ⟨b, cb, hvb, hpb, hcm, hfr, hbl⟩ := HR.out.kidcell HGE.out (show (chJ dd la.length j x).nd.kids[j]? = some m from ksh_get hm)
                          have hv2 : x.vk = .slice (some ⟨b, 0, none⟩) (chJ dd la.length j x).nd.kids.length cb := hvb
                          have hfj := hfr j
                          have HM := Lib.hid hm
                          have HVB := Lib.hid hvb
                          have hab : a2 = some ⟨b, 0, none⟩ ∧ c2 = cb := by
                            rw [HVK.out] at hv2
                            simp only [Value.slice.injEq] at hv2
                            exact ⟨hv2.1, hv2.2.2⟩
                          obtain ⟨rfl, rfl⟩ := hab
                          have HPB := Lib.hid hpb
                          clear hm hvb hv2 hfr hpb
                          obtain ⟨wj, hwj⟩ : ∃ W, wr = W := ⟨_, rfl⟩
                          rw [hwj] at HR HCT c5 hcm hfj hbl hgl3 ⊢
                          clear hwj
                          have hwn : IntKind.i64.wrap ((m : Int) + (la.length : Int)) = (m : Int) + (la.length : Int) := IntWalk.i64_in _ (by omega)
                          go_upto_region 29 with fail
                          refine with_frame fun a0 ha0 => ?_
                          have e10 : a0.eval (.tmp 10) = .slice (some ⟨gg, 0, none⟩) lb.length capg := by rw [ha0]; rfl
                          have e18 : a0.eval (.tmp 18) = .int .i64 (i : Int) := by rw [ha0]; rfl
                          have e19 : a0.eval (.tmp 19) = .int .i64 (j : Int) := by rw [ha0]; rfl
                          have e16 : a0.eval (.tmp 16) = .int .i64 (la.length : Int) := by rw [ha0]; rfl
                          have hsz : a0.tmps.size = 236 := by rw [ha0]; rfl
                          have HA := Lib.hid ha0
                          clear ha0
                          have hD : ∀ d, (List.range' 148 17).contains d = true → d < a0.tmps.size := by
                            intro d h
                            rw [hsz]
                            have hm : d ∈ List.range' 148 17 := by simpa using h
                            rw [List.mem_range'_1] at hm
                            omega
                          refine wp_region_tab (by kernel_rfl) 17 148 (fun jj => ([.slice (some ⟨gg, 0, none⟩) lb.length capg, .int .i64 (i : Int), .pointer (some ⟨gg, i * 7, none⟩), .pointer (some ⟨gg, i * 7 + 5, none⟩), .slice (some ⟨b, 0, none⟩) kl c2, .int .i64 (j : Int), .slice (some ⟨gg, 0, none⟩) lb.length capg, .int .i64 (i : Int), .pointer (some ⟨gg, i * 7, none⟩), .pointer (some ⟨gg, i * 7 + 5, none⟩), .slice (some ⟨b, 0, none⟩) kl c2, .int .i64 (j : Int), .pointer (some ⟨b, j, none⟩), .int .i64 (m : Int), .int .i64 (la.length : Int), .int .i64 ((m : Int) + (la.length : Int)), .pointer (some ⟨b, j, none⟩)] : List Value).getD jj undef) (fun w' => Below wj.heap.size wj w') rfl (by kernel_rfl) (by kernel_rfl) (by (repeat' (first | (with_reducible exact Below.refl _ _) | (with_reducible assumption) | (with_reducible refine below_drewN ?_ _) | (with_reducible refine Below.drew ?_) | (with_reducible refine Below.alloc ?_ ?_ _) | (with_reducible refine Below.setCell ?_ ?_ _) | omega | (simp; done) | (simp; omega)))) ?_ ?_
                          · intro i0 hi0 v w0 hW hv
                            have c5 := cell_keeps hW c5
                            have hcm := cell_keeps hW hcm
                            have inn : ∀ d, (List.range' 148 17).contains d = true → (frameOf a0 (List.range' 148 17) v).tmps[d]?.getD undef = v d := fun d h => frameOf_in' h (hD d h)
                            rcases (by omega : i0 = 0 ∨ i0 = 1 ∨ i0 = 2 ∨ i0 = 3 ∨ i0 = 4 ∨ i0 = 5 ∨ i0 = 6 ∨ i0 = 7 ∨ i0 = 8 ∨ i0 = 9 ∨ i0 = 10 ∨ i0 = 11 ∨ i0 = 12 ∨ i0 = 13 ∨ i0 = 14 ∨ i0 = 15 ∨ i0 = 16) with rfl | rfl | rfl | rfl | rfl | rfl | rfl | rfl | rfl | rfl | rfl | rfl | rfl | rfl | rfl | rfl | rfl
                            · -- operation 0
                              have E10 : (frameOf a0 (List.range' 148 17) v).tmps[10]?.getD undef = .slice (some ⟨gg, 0, none⟩) lb.length capg := (frameOf_out' rfl).trans e10
                              refine wpOp_value (v := .slice (some ⟨gg, 0, none⟩) lb.length capg) (w' := w0) rfl rfl (by go_simp) ?_
                              exact ⟨frameOf_put rfl, hW⟩
                            · -- operation 1
                              have E18 : (frameOf a0 (List.range' 148 17) v).tmps[18]?.getD undef = .int .i64 (i : Int) := (frameOf_out' rfl).trans e18
                              refine wpOp_value (v := .int .i64 (i : Int)) (w' := w0) rfl rfl (by go_simp) ?_
                              exact ⟨frameOf_put rfl, hW⟩
                            · -- operation 2
                              have x148 : v 148 = .slice (some ⟨gg, 0, none⟩) lb.length capg := hv 0 (by kernel_rfl)
                              have E148 := (inn 148 rfl).trans x148
                              have x149 : v 149 = .int .i64 (i : Int) := hv 1 (by kernel_rfl)
                              have E149 := (inn 149 rfl).trans x149
                              refine wpOp_value (v := .pointer (some ⟨gg, i * 7, none⟩)) (w' := w0) rfl rfl (by go_simp) ?_
                              exact ⟨frameOf_put rfl, hW⟩
                            · -- operation 3
                              have x150 : v 150 = .pointer (some ⟨gg, i * 7, none⟩) := hv 2 (by kernel_rfl)
                              have E150 := (inn 150 rfl).trans x150
                              refine wpOp_value (v := .pointer (some ⟨gg, i * 7 + 5, none⟩)) (w' := w0) rfl rfl (by go_simp) ?_
                              exact ⟨frameOf_put rfl, hW⟩
                            · -- operation 4
                              have x151 : v 151 = .pointer (some ⟨gg, i * 7 + 5, none⟩) := hv 3 (by kernel_rfl)
                              have E151 := (inn 151 rfl).trans x151
                              refine wpOp_value (v := .slice (some ⟨b, 0, none⟩) kl c2) (w' := w0) rfl rfl (by go_simp) ?_
                              exact ⟨frameOf_put rfl, hW⟩
                            · -- operation 5
                              have E19 : (frameOf a0 (List.range' 148 17) v).tmps[19]?.getD undef = .int .i64 (j : Int) := (frameOf_out' rfl).trans e19
                              refine wpOp_value (v := .int .i64 (j : Int)) (w' := w0) rfl rfl (by go_simp) ?_
                              exact ⟨frameOf_put rfl, hW⟩
                            · -- operation 6
                              have E10 : (frameOf a0 (List.range' 148 17) v).tmps[10]?.getD undef = .slice (some ⟨gg, 0, none⟩) lb.length capg := (frameOf_out' rfl).trans e10
                              refine wpOp_value (v := .slice (some ⟨gg, 0, none⟩) lb.length capg) (w' := w0) rfl rfl (by go_simp) ?_
                              exact ⟨frameOf_put rfl, hW⟩
                            · -- operation 7
                              have E18 : (frameOf a0 (List.range' 148 17) v).tmps[18]?.getD undef = .int .i64 (i : Int) := (frameOf_out' rfl).trans e18
                              refine wpOp_value (v := .int .i64 (i : Int)) (w' := w0) rfl rfl (by go_simp) ?_
                              exact ⟨frameOf_put rfl, hW⟩
                            · -- operation 8
                              have x154 : v 154 = .slice (some ⟨gg, 0, none⟩) lb.length capg := hv 6 (by kernel_rfl)
                              have E154 := (inn 154 rfl).trans x154
                              have x155 : v 155 = .int .i64 (i : Int) := hv 7 (by kernel_rfl)
                              have E155 := (inn 155 rfl).trans x155
                              refine wpOp_value (v := .pointer (some ⟨gg, i * 7, none⟩)) (w' := w0) rfl rfl (by go_simp) ?_
                              exact ⟨frameOf_put rfl, hW⟩
                            · -- operation 9
                              have x156 : v 156 = .pointer (some ⟨gg, i * 7, none⟩) := hv 8 (by kernel_rfl)
                              have E156 := (inn 156 rfl).trans x156
                              refine wpOp_value (v := .pointer (some ⟨gg, i * 7 + 5, none⟩)) (w' := w0) rfl rfl (by go_simp) ?_
                              exact ⟨frameOf_put rfl, hW⟩
                            · -- operation 10
                              have x157 : v 157 = .pointer (some ⟨gg, i * 7 + 5, none⟩) := hv 9 (by kernel_rfl)
                              have E157 := (inn 157 rfl).trans x157
                              refine wpOp_value (v := .slice (some ⟨b, 0, none⟩) kl c2) (w' := w0) rfl rfl (by go_simp) ?_
                              exact ⟨frameOf_put rfl, hW⟩
                            · -- operation 11
                              have E19 : (frameOf a0 (List.range' 148 17) v).tmps[19]?.getD undef = .int .i64 (j : Int) := (frameOf_out' rfl).trans e19
                              refine wpOp_value (v := .int .i64 (j : Int)) (w' := w0) rfl rfl (by go_simp) ?_
                              exact ⟨frameOf_put rfl, hW⟩
                            · -- operation 12
                              have x158 : v 158 = .slice (some ⟨b, 0, none⟩) kl c2 := hv 10 (by kernel_rfl)
                              have E158 := (inn 158 rfl).trans x158
                              have x159 : v 159 = .int .i64 (j : Int) := hv 11 (by kernel_rfl)
                              have E159 := (inn 159 rfl).trans x159
                              refine wpOp_value (v := .pointer (some ⟨b, j, none⟩)) (w' := w0) rfl rfl (by go_simp) ?_
                              exact ⟨frameOf_put rfl, hW⟩
                            · -- operation 13
                              have x160 : v 160 = .pointer (some ⟨b, j, none⟩) := hv 12 (by kernel_rfl)
                              have E160 := (inn 160 rfl).trans x160
                              refine wpOp_value (v := .int .i64 (m : Int)) (w' := w0) rfl rfl (by go_simp) ?_
                              exact ⟨frameOf_put rfl, hW⟩
                            · -- operation 14
                              have E16 : (frameOf a0 (List.range' 148 17) v).tmps[16]?.getD undef = .int .i64 (la.length : Int) := (frameOf_out' rfl).trans e16
                              refine wpOp_value (v := .int .i64 (la.length : Int)) (w' := w0) rfl rfl (by go_simp) ?_
                              exact ⟨frameOf_put rfl, hW⟩
                            · -- operation 15
                              have x161 : v 161 = .int .i64 (m : Int) := hv 13 (by kernel_rfl)
                              have E161 := (inn 161 rfl).trans x161
                              have x162 : v 162 = .int .i64 (la.length : Int) := hv 14 (by kernel_rfl)
                              have E162 := (inn 162 rfl).trans x162
                              refine wpOp_value (v := .int .i64 ((m : Int) + (la.length : Int))) (w' := w0) rfl rfl (by go_simp) ?_
                              exact ⟨frameOf_put rfl, hW⟩
                            · -- operation 16
                              have x152 : v 152 = .slice (some ⟨b, 0, none⟩) kl c2 := hv 4 (by kernel_rfl)
                              have E152 := (inn 152 rfl).trans x152
                              have x153 : v 153 = .int .i64 (j : Int) := hv 5 (by kernel_rfl)
                              have E153 := (inn 153 rfl).trans x153
                              refine wpOp_value (v := .pointer (some ⟨b, j, none⟩)) (w' := w0) rfl rfl (by go_simp) ?_
                              exact ⟨frameOf_put rfl, hW⟩
                          · intro w0 hW
                            have h0 := HA.out
                            subst h0
                            have hrg : List.range' 148 17 = [148, 149, 150, 151, 152, 153, 154, 155, 156, 157, 158, 159, 160, 161, 162, 163, 164] := rfl
                            rw [hrg]
                            clear hrg
                            simp only [frameOf_cons, frameOf_nil, Act.put, List.setIfInBounds_toArray, List.set_cons_zero, List.set_cons_succ]
                            have hfj := (free_keeps hW hbl hfj)
                            have hcm := cell_keeps hW hcm
                            refine wpOp_skip (w' := w0.setCell ⟨b, j, none⟩ (.int .i64 ((m : Int) + (la.length : Int)))) rfl rfl rfl (by go_simp) ?_
                            go_wp2_with fail
                            go_roundw
                            case rel =>
                              refine ⟨j + 1, by omega, by go_num, ?_, (HCT.out.next hW).setCell (p := ⟨b, j, none⟩) (show w3.heap.size ≤ b ∧ b < w4.heap.size from HPB.out.2) _⟩
                              have h9 := (HR.out.below hW).setKid HGE.out HVB.out (HAPG1.out i b HPB.out.1).1 (fun k hk => by have := (HAPG1.out i b HPB.out.1).2; omega) (fun j' k hj' hk e => hj' (HAPG2.out j' i k hk.1 (e ▸ HPB.out.1))) j (m + la.length)
                              rw [chJ_step HM.out, List.set_set] at h9
                              unfold num at h9
                              rw [show ((m + la.length : Nat) : Int) = (m : Int) + (la.length : Int) by omega] at h9
                              exact h9
                            case measure => simp [intOf]; omega
                        · obtain rfl : j = kl := by omega
                          go_wp2_with fail
                          go_roundw
                          case rel =>
                            refine ⟨i + 1, by omega, by go_num, ?_, HCT.out⟩
                            have h9 := HR.out
                            rw [← HKL.out, chL_set HX.out] at h9
                            exact h9
                          case measure => simp [intOf]; omega
                    · obtain rfl : i = lb.length := by omega
                      have HRF8 := Lib.hid (HRF7.out.chg hct (by omega) (fun k hk => by omega) (fun _ k hk => by omega))
                      have HRH8 := Lib.hid (HRH7.out.chg hct (by omega) (fun k hk => by have : w4.heap.size ≤ k := hk; omega) (fun _ k hk => by have : w4.heap.size ≤ k := hk; omega))
                      have HRG8 := Lib.hid hr
                      have hbw8 : Below w.heap.size w wr := HB6.out.trans ((HC7.out.below HB6.out.size (fun k hk => by have := hB3.size; omega)).trans (hct.below (by have := HB6.out.size; have := hz7; omega) (fun k hk => by have := hB3.size; omega)))
                      obtain ⟨w8, hw8⟩ : ∃ W, wr = W := ⟨_, rfl⟩
                      rw [hw8] at HRF8 HRH8 HRG8 hbw8 ⊢
                      clear hw8 hr hct HRF7 HRH7 HRG7 HC7
                      have hcI : (la.length : Int) ≤ (ch' : Int) := by omega
                      have hcI2 : (la.length : Int) + (lb.length : Int) ≤ (ch' : Int) := by omega
                      have hwl1 : IntKind.i64.wrap ((la.length : Int) + (lb.length : Int)) = (la.length : Int) + (lb.length : Int) := IntWalk.i64_in _ (by omega)
                      have hbd1 : ∀ x ∈ mvL 1 la.length ls, x.nd.names.length ≤ 9223372036854775807 ∧ x.nd.kids.length ≤ 9223372036854775807 := by
                        rw [show mvL 1 la.length ls = ls.map (fun x => x.at (x.nd.place + 1)) by rw [← hfl]; exact mvL_all]
                        intro x hx
                        obtain ⟨y, hy, rfl⟩ := List.mem_map.1 hx
                        have h1 := HBA.out y hy
                        exact ⟨Nat.le_trans (HFITA.out y hy).1 h1, h1⟩
                      have hbd2 : ∀ x ∈ chL dd la.length lb.length ms, x.nd.names.length ≤ 9223372036854775807 ∧ x.nd.kids.length ≤ 9223372036854775807 := by
                        rw [show chL dd la.length lb.length ms = ms.map (fun x => chJ dd la.length x.nd.kids.length x) by rw [← hgl]; exact chL_all]
                        intro x hx
                        obtain ⟨y, hy, rfl⟩ := List.mem_map.1 hx
                        have h1 : y.nd.kids.length ≤ 9223372036854775807 := HBB.out y hy
                        have h2 : (chJ dd la.length y.nd.kids.length y).nd.kids.length = y.nd.kids.length := ksh_len _ _ _
                        have h4 : y.nd.names.length ≤ y.nd.kids.length := (HFITB.out y hy).1
                        rw [h2]
                        exact ⟨Nat.le_trans h4 h1, h1⟩
                      have hta : (hs3.take la.length).length = la.length := by rw [List.length_take]; omega
                      have htb : ((hs3.drop la.length).take lb.length).length = lb.length := by rw [List.length_take, List.length_drop]; omega
                      have hrd := (HRH8.out.drop la.length).take lb.length
                      rw [Nat.zero_add] at hrd
                      have hdd2 : s.size + 4 + (jsg y).size = dd := by rw [HSG.out]; exact HDD.out
                      have HS1 := Lib.hid (same_true (c := capf) (c' := ch') (by omega) ((mvL_len 1 la.length ls).trans hfl) hta HRF8.out (HRH8.out.take la.length) hbd1 (join_same1 HMAP.out HM3.out))
                      have HS2 := Lib.hid (fun (W : World) (hb : Below w8.heap.size w8 W) => same_true (c := capg) (c' := ch' - la.length) (by omega) ((chL_len dd la.length lb.length ms).trans hgl) htb (HRG8.out.below hb) (hrd.below hb) hbd2 (join_same2 hdd2 HMAP2.out HM3.out))
                      obtain ⟨zl, hzl⟩ := get_lt hs3 (k := la.length + lb.length) (by omega)
                      have hzn := join_last HM3.out hzl
                      rw [HSG.out] at hzn
                      have HZL := Lib.hid hzl
                      have HZN := Lib.hid hzn
                      have HRH := HRH8
                      clear hbd1 hbd2 hta htb hrd hdd2 hzl hzn HRF8 HRG8 HSG
                      go_wp2_with fail
                      refine HS1.out.mono ?_
                      rintro e w9 ⟨rfl, hb9⟩
                      clear HS1
                      go_wp2_with fail
                      refine (HS2.out w9 hb9).mono ?_
                      rintro e w10 ⟨rfl, hb10⟩
                      have hb810 := hb9.trans (hb10.mono hb9.size)
                      have hB10 := hbw8.trans (hb810.mono hbw8.size)
                      obtain ⟨a1, c1, a2, c2, _, _, p0, p1, p2, p3, p4, p5, p6, pk, _⟩ := (HRH8.out.below hb810).seven HZL.out
                      have hghl := (HRH8.out.below hb810).lt
                      rw [HZN.out] at p0 p1 p2 p3 p4 p5 p6 pk
                      obtain ⟨b, e1, k0⟩ := pk 0 _ rfl
                      obtain ⟨b', e2, k1⟩ := pk 1 _ rfl
                      subst e1
                      cases e2
                      simp only [Nat.zero_add] at p0 p1 p2 p3 p4 p5 p6
                      have hbl := World.block_lt_of_cell? _ _ k0
                      have hsf := store_f64
                      have ek0 : ((la.length - 1 : Nat) : Int) = (la.length : Int) - 1 := by omega
                      have ek1 : ((la.length + lb.length - 1 : Nat) : Int) = (la.length : Int) + (lb.length : Int) - 1 := by omega
                      have ek2 : ((s.size + 3 : Nat) : Int) = (s.size : Int) + 3 := by omega
                      rw [ek0] at k0
                      rw [ek1] at k1
                      rw [ek2] at p6
                      have hti : ((la.length : Int) + (lb.length : Int)).toNat = la.length + lb.length := by omega
                      clear HS2 HRH8 HRH pk ek0 ek1 ek2 hb9 hb10
                      go_wp2_with fail
                      go_ret
                      exact ⟨rfl, hB10.alloc hB10.size _⟩
            · subst h
              clear HJ
              go_wp2_with fail
              refine HPJ.out.mono ?_
              rintro e w6 ⟨⟨v, rfl, f1, ty, rfl, g1⟩, hb6⟩
              have hB6 := HB5.out.trans (hb6.mono HB5.out.size)
              have HF1 := Lib.hid (fault_says (HEW.out w6 hB6) g1)
              clear g1
              have hff := fldF
              go_wp2_with fail
              refine HF1.out.mono ?_
              rintro e w7 ⟨rfl, hb7⟩
              go_wp2_with fail
              go_ret
              exact ⟨rfl, hB6.trans (hb7.mono hB6.size)⟩
end Go.Proofs.YtppljgallbmgcaaGreatDoor
