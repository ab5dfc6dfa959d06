/- Gh: what is used of them. -/
import Derived.Test.YtkoghgnjjfnamaaGreatDoorGg
namespace Go.Proofs.YtkoghgnjjfnamaaGreatDoor
set_option maxRecDepth 100000
set_option maxHeartbeats 4000000
open Go.RowKit Go.Shelf
def NewRow (w : World) (v v' : Value) : Prop := v'.ownBlock = v.ownBlock ∨ ∃ g, v'.ownBlock = some g ∧ w.heap.size ≤ g
structure AddPost (lo b : Nat) (w w' : World) (kind int : Int) (text : ByteArray) (flt : Nat) (place : Int) (vn vk vn' vk' : Value) (xs ys : List Value) (x y : Value) : Prop where
 node : w'.heap[b]? = some (.cells #[.int .i64 kind, .string text, .int .i64 int, .float .f64 flt, vn', .slice none 0 0, .int .i64 place, vk'] 85 (0, 0))
 names : w'.ownsRow lo 9 1 vn' (xs.length + 1) (xs ++ [x])
 kids : w'.ownsRow lo 51 1 vk' (ys.length + 1) (ys ++ [y])
 new1 : NewRow w vn vn'
 new2 : NewRow w vk vk'
 apart : ∀ g, vn'.ownBlock = some g → vk'.ownBlock ≠ some g
 block : ∀ k, k < w.heap.size → k ≠ b → some k ≠ vn.ownBlock → some k ≠ vk.ownBlock → w'.heap[k]? = w.heap[k]?
 below : Below lo w w'
theorem grown_set (w : World) (b i : Nat) (v : Value) : w.grownBy (w.setCell ⟨b, i, none⟩ v) (some b) :=
 ⟨rfl, rfl, rfl, by simp [World.setCell], fun k _ hne => Below.heap_setCell _ _ _ _ (fun e => hne (by rw [e]))⟩
theorem own_set {w : World} {lo n size b i : Nat} {e : TypeId} {v : Value} {xs : List Value} (h : w.ownsRow lo e size v n xs) (u : Value) (hne : v.ownBlock ≠ some b) : (w.setCell ⟨b, i, none⟩ u).ownsRow lo e size v n xs :=
 World.ownsRow.kept h (grown_set w b i u) (Or.inr hne)
theorem own_grown {w w' : World} {lo n size : Nat} {e : TypeId} {v u : Value} {xs : List Value} (h : w.ownsRow lo e size v n xs) (hg : w.grownBy w' u.ownBlock) (hne : ∀ g, u.ownBlock = some g → v.ownBlock ≠ some g) : w'.ownsRow lo e size v n xs := by
 refine World.ownsRow.kept h hg ?_; cases hu : u.ownBlock with
 | none =>
   cases hv : v.ownBlock with
   | none => exact Or.inl rfl
   | some g => exact Or.inr (by simp)
 | some g => exact Or.inr (hne g hu)
theorem addTo_any {w : World} {lo b c : Nat} {kind int place : Int} {text : ByteArray} {flt : Nat} {vn vk : Value} {xs ys : List Value} (s : ByteArray)
 (hn : w.heap[b]? = some (.cells #[.int .i64 kind, .string text, .int .i64 int, .float .f64 flt, vn, .slice none 0 0, .int .i64 place, vk] 85 (0, 0)))
 (h1 : w.ownsRow lo 9 1 vn xs.length xs) (h2 : w.ownsRow lo 51 1 vk ys.length ys) (hlo : lo ≤ b) (hb1 : vn.ownBlock ≠ some b) (hb2 : vk.ownBlock ≠ some b)
 (hap : ∀ g, vn.ownBlock = some g → vk.ownBlock ≠ some g) (hl1 : xs.length ≤ 10000) (hl2 : ys.length ≤ 10000) :
 Calls Tryz.prog 81 #[.pointer (some ⟨b, 0, none⟩), .string s, .pointer (some ⟨c, 0, none⟩)] w fun e w' => e = .returned (.tuple #[]) ∧ ∃ vn' vk', AddPost lo b w w' kind int text flt place vn vk vn' vk' xs ys (.string s) (.pointer (some ⟨c, 0, none⟩)) := by
 obtain ⟨na, nc, rfl⟩ := own_shape h1; obtain ⟨ka, kc, rfl⟩ := own_shape h2; have hblt := block_lt hn; have c4 := block_cell (i := 4) hn rfl; have HN := Lib.hid hn; have H1 := Lib.hid h1; have H2 := Lib.hid h2; have hlt1 := h1.lt; have hlt2 := h2.lt; have HL1 := Lib.hid hlt1; have HL2 := Lib.hid hlt2; have HAP := Lib.hid hap; have HB1 := Lib.hid hb1; have HB2 := Lib.hid hb2; clear hn h1 h2 hlt1 hlt2 hap hb1 hb2; go_enter Tryz.func81, Tryz.ntmps81; go_upto_region 1 with (
  at_builtin
  refine append_text rfl _ _ rfl lo (.slice na xs.length nc) xs.length xs (by rfl) (own_below H1.out ((Below.refl _ _).alloc (Nat.le_refl _) _)) _ _ s (by rfl) (block_new _ _ (by rfl)) (by omega) (by simp; omega) ?_; intro v1 w2 ho1 hg1 hv1; have hN2 := block_grown (block_alloc HN.out (.cells #[.string s] 9)) hg1 (fun e => HB1.out e.symm); obtain ⟨a1, c1, rfl⟩ := own_shape ho1; have d4 := block_cell (i := 4) hN2 rfl; have f4 := block_free (i := 4) hN2; have hN3 := block_set (i := 4) hN2 (.slice a1 (xs.length + 1) c1); have d7 := block_cell (i := 7) hN3 rfl; have hk3 := own_set (b := b) (i := 4) (own_grown (own_below H2.out ((Below.refl _ _).alloc (Nat.le_refl _) (.cells #[.string s] 9))) hg1 HAP.out) (.slice a1 (xs.length + 1) c1) HB2.out)
 have hz2 : w.heap.size + 1 ≤ w2.heap.size := by have := hg1.size; simpa using this
 have hz3 : w2.heap.size ≤ (w2.setCell ⟨b, 4, none⟩ (.slice a1 (xs.length + 1) c1)).heap.size := by simp [World.setCell]
 have hlo1 := ho1.lt; have hnw : NewRow w (.slice na xs.length nc) (.slice a1 (xs.length + 1) c1) := by
  rcases hv1 with h | h
  · exact Or.inl h
  · exact Or.inr ⟨_, h, by simp⟩
 have HG1 := Lib.hid hg1; have HO1 := Lib.hid (own_set (b := b) (i := 4) ho1 (.slice a1 (xs.length + 1) c1) (by
  rcases hv1 with h | h
  · rw [h]; exact HB1.out
  · rw [h]; simp; omega))
 have HN3 := Lib.hid hN3; have HK3 := Lib.hid hk3; have HN2 := Lib.hid hN2; have HW3 : Hid (∀ k, k < w.heap.size → k ≠ b → some k ≠ (Value.slice na xs.length nc).ownBlock → (w2.setCell ⟨b, 4, none⟩ (.slice a1 (xs.length + 1) c1)).heap[k]? = w.heap[k]?) := fun k hk hkb hkn =>
  (Below.heap_setCell _ _ _ _ hkb).trans ((hg1.block k (by simp; omega) hkn).trans (Below.heap_alloc _ _ _ hk))
 have HBE : Hid (Below lo w (w2.setCell ⟨b, 4, none⟩ (.slice a1 (xs.length + 1) c1))) := (Below.grown ((Below.refl lo w).alloc (by omega) (.cells #[.string s] 9)) hg1 (by simp; omega) (fun k hk => (HL1.out k hk).1)).setCell hlo _; clear hg1 ho1 hv1 hN2 d4 f4 hN3 hk3 c4; generalize (w2.setCell ⟨b, 4, none⟩ (.slice a1 (xs.length + 1) c1)) = w3 at *
 go_wp2_with (
  at_builtin
  refine append_ptr rfl _ _ rfl lo (.slice ka ys.length kc) ys.length ys (by rfl) (own_below HK3.out ((Below.refl _ _).alloc (Nat.le_refl _) _)) _ _ c (by rfl) (block_new _ _ (by rfl)) (by omega) (by simp; omega) ?_; intro v2 w4 ho2 hg2 hv2; have hN4 := block_grown (block_alloc HN3.out (.cells #[.pointer (some ⟨c, 0, none⟩)] 51)) hg2 (fun e => HB2.out e.symm); obtain ⟨a2, c2, rfl⟩ := own_shape ho2; have e7 := block_cell (i := 7) hN4 rfl; have f7 := block_free (i := 7) hN4)
 go_end0; have hz4 : w3.heap.size + 1 ≤ w4.heap.size := by have := hg2.size; simpa using this
 have hv2' : (Value.slice a2 (ys.length + 1) c2).ownBlock = (Value.slice ka ys.length kc).ownBlock ∨ (Value.slice a2 (ys.length + 1) c2).ownBlock = some (w3.heap.size + 1) := by simpa using hv2
 have hap2 : ∀ g, (Value.slice a1 (xs.length + 1) c1).ownBlock = some g → (Value.slice a2 (ys.length + 1) c2).ownBlock ≠ some g := fun g hg e => by
  have hgl := (HO1.out.lt g hg).2; rcases hv2' with h | h
  · rw [h] at e
    rcases hnw with h1 | ⟨g1, h1, h2⟩
    · rw [h1] at hg
      exact HAP.out g hg e
    · rw [h1] at hg
      cases hg; have := (HL2.out _ e).2; omega
  · rw [h] at e
    cases e; omega
 refine ⟨rfl, .slice a1 (xs.length + 1) c1, .slice a2 (ys.length + 1) c2, ?_, ?_, ?_, hnw, ?_, hap2, fun k hk hkb hkn hkk => ?_, ?_⟩
 · exact block_set (i := 7) hN4 _
 · refine own_set (b := b) (i := 7) (own_grown (own_below HO1.out ((Below.refl _ _).alloc (Nat.le_refl _) _)) hg2 (fun g hg e => ?_)) _ ?_
   · rcases hnw with h1 | ⟨g1, h1, h2⟩
     · rw [h1] at e
       exact HAP.out g e hg
     · rw [h1] at e
       cases e; have := (HL2.out _ hg).2; omega
   · rcases hnw with h1 | ⟨g1, h1, h2⟩
     · rw [h1]; exact HB1.out
     · rw [h1]; simp; omega
 · refine own_set (b := b) (i := 7) ho2 _ ?_
   rcases hv2' with h | h
   · rw [h]; exact HB2.out
   · rw [h]; simp; omega
 · rcases hv2' with h | h
   · exact Or.inl h
   · exact Or.inr ⟨_, h, by omega⟩
 · exact (Below.heap_setCell _ _ _ _ hkb).trans ((hg2.block k (by simp; omega) hkk).trans ((Below.heap_alloc _ _ _ (by omega)).trans (HW3.out k hk hkb hkn)))
 · exact (Below.grown (HBE.out.alloc (by omega) (.cells #[.pointer (some ⟨c, 0, none⟩)] 51)) hg2 (by simp; omega) (fun k hk => (HL2.out k hk).1)).setCell hlo _
structure Loc where
 B : Nat → Nat
 VN : Nat → Value
 VK : Nat → Value
 own : Nat → Option (Nat × Nat)
 m : Nat
def KidAt (L : Loc) (lo : Nat) (w : World) (i len c : Nat) : Kid → Prop
 | .leaf t => TR (fun k => lo ≤ k ∧ L.own k = none) w c t
 | .made j => i < j ∧ j < len ∧ c = L.B j
structure SetAt (L : Loc) (lo : Nat) (w : World) (kind : Int) (len i : Nat) (o : SO) : Prop where
 blk : L.own (L.B i) = some (i, 0)
 node : w.heap[L.B i]? = some (.cells #[.int .i64 (if i = 0 then kind else 6), .string ⟨#[]⟩, .int .i64 0, .float .f64 0, L.VN i, .slice none 0 0, .int .i64 (o.place : Int), L.VK i] 85 (0, 0))
 names : w.ownsRow lo 9 1 (L.VN i) o.names.length (o.names.map Value.string)
 own1 : ∀ g, (L.VN i).ownBlock = some g → L.own g = some (i, 1)
 own2 : ∀ g, (L.VK i).ownBlock = some g → L.own g = some (i, 2)
 eqn : o.names.length = o.kids.length
 kids : ∃ is : List Nat, is.length = o.kids.length ∧ w.ownsRow lo 51 1 (L.VK i) o.kids.length (is.map ptr) ∧ ∀ (j c : Nat) (kid : Kid), is[j]? = some c → o.kids[j]? = some kid → KidAt L lo w i len c kid
structure AR (lo : Nat) (kind : Int) (N : Nat) (w : World) (L : Loc) (ar : Ar) : Prop where
 pos : 0 < ar.length
 set : ∀ (i : Nat) (o : SO), ar[i]? = some o → SetAt L lo w kind ar.length i o
 room : ∀ (i : Nat) (o : SO), ar[i]? = some o → o.names.length ≤ N
 lt : ∀ k, L.own k ≠ none → lo ≤ k ∧ k < w.heap.size
 mown : L.own L.m = some (0, 3)
 map : ∃ ps, MP w L.m ps ∧ ∀ c, c ∈ ps ↔ ∃ j, 0 < j ∧ j < ar.length ∧ L.B j = c
section
variable {L L' : Loc} {lo N : Nat} {kind : Int} {w w' : World} {ar : Ar} {i : Nat} {o : SO}
theorem own_keeps {size n : Nat} {e : TypeId} {v : Value} {xs : List Value} (h : w.ownsRow lo e size v n xs) (hk : Keeps (fun k => lo ≤ k) w w') : w'.ownsRow lo e size v n xs := by
 obtain ⟨hl, h2 | ⟨g, cap, cur, hv, hg, hh, r⟩⟩ := h
 · exact ⟨hl, Or.inl h2⟩
 · exact ⟨hl, Or.inr ⟨g, cap, cur, hv, hg, (hk g hg (block_lt hh)).trans hh, r⟩⟩
theorem own_blk {size n : Nat} {e : TypeId} {v : Value} {xs : List Value} (h : w.ownsRow lo e size v n xs) (hk : ∀ g, v.ownBlock = some g → g < w.heap.size → w'.heap[g]? = w.heap[g]?) : w'.ownsRow lo e size v n xs := by
 obtain ⟨hl, h2 | ⟨g, cap, cur, hv, hg, hh, r⟩⟩ := h
 · exact ⟨hl, Or.inl h2⟩
 · exact ⟨hl, Or.inr ⟨g, cap, cur, hv, hg, (hk g (by rw [hv]; rfl) (block_lt hh)).trans hh, r⟩⟩
theorem KidAt.keep {len c : Nat} {kid : Kid} (h : KidAt L lo w i len c kid) (hk : Keeps (fun k => lo ≤ k) w w') : KidAt L lo w' i len c kid := by
 cases kid with
 | leaf t => exact TR.keep h fun k h1 h2 => hk k h1.1 h2
 | made j => exact h
theorem AR.keep (h : AR lo kind N w L ar) (hk : Keeps (fun k => lo ≤ k) w w') (hs : w.heap.size ≤ w'.heap.size) : AR lo kind N w' L ar := by
 refine ⟨h.pos, fun i o hi => ?_, h.room, fun k hk' => ⟨(h.lt k hk').1, Nat.lt_of_lt_of_le (h.lt k hk').2 hs⟩, h.mown, ?_⟩
 · have s := h.set i o hi
   obtain ⟨is, h1, h2, h3⟩ := s.kids; exact ⟨s.blk, (hk _ (h.lt _ (by rw [s.blk]; simp)).1 (block_lt s.node)).trans s.node, own_keeps s.names hk, s.own1, s.own2, s.eqn, is, h1, own_keeps h2 hk, fun j c kid hj hkk => (h3 j c kid hj hkk).keep hk⟩
 · obtain ⟨ps, h1, h2⟩ := h.map
   exact ⟨ps, h1.same (hk _ (h.lt _ (by rw [h.mown]; simp)).1 h1.lt), h2⟩
theorem AR.but {pb B : Nat} (h : AR lo kind N w L ar) (hb : But pb B w w') (hB : w.heap.size ≤ B) (hp : pb < lo) : AR lo kind N w' L ar := h.keep (hb.keeps hB fun k hk => by omega) hb.size
theorem AR.below (h : AR lo kind N w L ar) (hb : Below w.heap.size w w') : AR lo kind N w' L ar := h.keep (Below.keeps hb) hb.size
theorem AR.mono {M : Nat} (h : AR lo kind N w L ar) (hM : N ≤ M) : AR lo kind M w L ar := ⟨h.pos, h.set, fun i o hi => Nat.le_trans (h.room i o hi) hM, h.lt, h.mown, h.map⟩
theorem AR.cel (h : AR lo kind N w L ar) (hi : ar[i]? = some o) : Cel w (L.B i) := ⟨_, _, (h.set i o hi).node⟩
theorem AR.inj (h : AR lo kind N w L ar) {j : Nat} {p : SO} (hi : ar[i]? = some o) (hj : ar[j]? = some p) (e : L.B i = L.B j) : i = j := by
 have h1 := (h.set i o hi).blk; have h2 := (h.set j p hj).blk; rw [e, h2] at h1; simp at h1; exact h1.symm
theorem AR.look (h : AR lo kind N w L ar) {b : Nat} (hb : Cel w b) :
 ∃ r : Bool, (Instr.lookup 126 (.map (some L.m)) (ptr b) false).run Tryz.prog w = .ok (.bool r) w ∧ (r = true ↔ ∃ j, 0 < j ∧ j < ar.length ∧ L.B j = b) := by
 obtain ⟨ps, h1, h2⟩ := h.map; refine ⟨_, h1.look hb (fun p hp => ?_), by rw [decide_eq_true_eq]; exact h2 b⟩; obtain ⟨j, hj0, hj, rfl⟩ := (h2 p).1 hp; exact h.cel (List.getElem?_eq_getElem hj)
theorem AR.add (h : AR lo kind N w L ar) (hi : ar[i]? = some o) (s : ByteArray) (c : Nat) (kid : Kid) (hk : KidAt L lo w i ar.length c kid) {M : Nat} (hM : o.names.length + 1 ≤ M) (hNM : N ≤ M) (hN : M ≤ 9000) :
 Calls Tryz.prog 81 #[.pointer (some ⟨L.B i, 0, none⟩), .string s, .pointer (some ⟨c, 0, none⟩)] w fun e w' =>
  e = .returned (.tuple #[]) ∧ ∃ L', AR lo kind M w' L' (ar.addAt i s kid) ∧ Below lo w w' ∧ L'.B = L.B ∧ L'.m = L.m ∧ (∀ k, k < w.heap.size → L.own k = none → w'.heap[k]? = w.heap[k]? ∧ L'.own k = none) := by
 have st := h.set i o hi; obtain ⟨is, h1, h2, h3⟩ := st.kids; have hlo := (h.lt _ (by rw [st.blk]; simp)).1; have hroom := h.room i o hi; have hln := st.eqn; refine (addTo_any (w := w) (lo := lo) (b := L.B i) (c := c) (xs := o.names.map Value.string) (ys := is.map ptr) s st.node (by simpa using st.names) (by simpa [h1] using h2) hlo
  (fun e => by have := st.own1 _ e; rw [st.blk] at this; simp at this) (fun e => by have := st.own2 _ e; rw [st.blk] at this; simp at this)
  (fun g hg e => by have h4 := st.own1 _ hg; rw [st.own2 _ e] at h4; simp at h4) (by simp; omega) (by simp; omega)).mono ?_
 rintro e w' ⟨rfl, vn', vk', hp⟩; obtain ⟨own', how⟩ : ∃ own' : Nat → Option (Nat × Nat), own' = fun k => if vn'.ownBlock = some k then some (i, 1) else if vk'.ownBlock = some k then some (i, 2) else L.own k := ⟨_, rfl⟩
 have hne1 : ∀ k, k < w.heap.size → L.own k ≠ some (i, 1) → vn'.ownBlock ≠ some k := fun k hk hx e => by
  rcases hp.new1 with h4 | ⟨g, h4, h5⟩
  · rw [h4] at e
    exact hx (st.own1 k e)
  · rw [h4] at e
    cases e; omega
 have hne2 : ∀ k, k < w.heap.size → L.own k ≠ some (i, 2) → vk'.ownBlock ≠ some k := fun k hk hx e => by
  rcases hp.new2 with h4 | ⟨g, h4, h5⟩
  · rw [h4] at e
    exact hx (st.own2 k e)
  · rw [h4] at e
    cases e; omega
 have hsame : ∀ k, k < w.heap.size → L.own k ≠ some (i, 0) → L.own k ≠ some (i, 1) → L.own k ≠ some (i, 2) → w'.heap[k]? = w.heap[k]? ∧ own' k = L.own k := fun k hk h0 h1 h2 =>
  ⟨hp.block k hk (fun e => h0 (by rw [e]; exact st.blk)) (fun e => h1 (st.own1 k e.symm)) (fun e => h2 (st.own2 k e.symm)), by
   rw [how]; simp only
   rw [if_neg (hne1 k hk h1), if_neg (hne2 k hk h2)]⟩
 have hnone : ∀ k, k < w.heap.size → L.own k = none → w'.heap[k]? = w.heap[k]? ∧ own' k = none := fun k hk h0 => by
  obtain ⟨h1, h2⟩ := hsame k hk (by rw [h0]; simp) (by rw [h0]; simp) (by rw [h0]; simp); exact ⟨h1, h2.trans h0⟩
 have hkid : ∀ (j c : Nat) (kid : Kid), KidAt L lo w j ar.length c kid → KidAt ⟨L.B, fun j => if j = i then vn' else L.VN j, fun j => if j = i then vk' else L.VK j, own', L.m⟩ lo w' j ar.length c kid := fun j c kid hkk => by
  cases kid with
  | made m => exact hkk
  | leaf t =>
    have h9 := TR.mono (q := fun k => (lo ≤ k ∧ own' k = none) ∧ L.own k = none) hkk (fun k hk hl => ⟨⟨hk.1, (hnone k hl hk.2).2⟩, hk.2⟩); exact (h9.keep fun k hk hl => (hnone k hl hk.2).1).mono fun k hk _ => hk.1
 have hBi : own' (L.B i) = some (i, 0) := by
  have hlt := block_lt st.node; rw [how]; simp only
  rw [if_neg (hne1 _ hlt (by rw [st.blk]; simp)), if_neg (hne2 _ hlt (by rw [st.blk]; simp))]; exact st.blk
 have hlen : (ar.addAt i s kid).length = ar.length := by simp [Ar.addAt]
 refine ⟨rfl, ⟨L.B, fun j => if j = i then vn' else L.VN j, fun j => if j = i then vk' else L.VK j, own', L.m⟩, ⟨by rw [hlen]; exact h.pos, fun j p hj => ?_, fun j p hj => ?_, fun k hk' => ?_, ?_, ?_⟩, hp.below, rfl, rfl, fun k hk0 hkn => hnone k hk0 hkn⟩
 · rw [hlen]
   rw [Ar.addAt, List.getElem?_modify] at hj; by_cases hij : i = j
   · subst hij
     simp [hi] at hj
     subst hj; refine ⟨hBi, ?_, ?_, ?_, ?_, ?_, is ++ [c], ?_, ?_, ?_⟩
     · simpa [SO.add] using hp.node
     · simpa [SO.add] using hp.names
     · intro g hg
       simp at hg; show own' g = _; rw [how]; simp [hg]
     · intro g hg
       simp at hg; show own' g = _; rw [how]; have : vn'.ownBlock ≠ some g := fun e => hp.apart g e hg
       simp [hg, this]
     · simp [SO.add, hln]
     · simp [SO.add, h1]
     · simpa [SO.add, h1, ptr] using hp.kids
     · intro a d kd ha hd
       by_cases hlt : a < is.length
       · rw [List.getElem?_append_left hlt] at ha
         rw [SO.add, List.getElem?_append_left (by omega)] at hd; exact hkid i d kd (h3 a d kd ha hd)
       · rw [List.getElem?_append_right (by omega)] at ha
         rw [SO.add, List.getElem?_append_right (by omega)] at hd; have e : a - is.length = 0 := by
          rcases Nat.eq_zero_or_pos (a - is.length) with h | h
          · exact h
          · rw [List.getElem?_eq_none (by simp; omega)] at ha; cases ha
         rw [← h1, e] at hd; rw [e] at ha; simp at ha hd; subst ha; subst hd; exact hkid i c kid hk
   · have hji : j ≠ i := fun e => hij e.symm
     simp [hij] at hj
     have sj := h.set j p hj; obtain ⟨js, g1, g2, g3⟩ := sj.kids; have hx : ∀ k x, L.own k = some (j, x) → k < w.heap.size → w'.heap[k]? = w.heap[k]? ∧ own' k = L.own k := fun k x e hk => hsame k hk (by rw [e]; simp [hji]) (by rw [e]; simp [hji]) (by rw [e]; simp [hji])
     have hbj := hx _ _ sj.blk (block_lt sj.node); refine ⟨hbj.2.trans sj.blk, ?_, ?_, ?_, ?_, sj.eqn, js, g1, ?_, fun a d kd ha hd => hkid j d kd (g3 a d kd ha hd)⟩
     · simp only [if_neg hji]
       exact hbj.1.trans sj.node
     · simp only [if_neg hji]
       exact own_blk sj.names fun g hg hl => (hx g 1 (sj.own1 g hg) hl).1
     · intro g hg
       simp only [if_neg hji] at hg; exact (hx g 1 (sj.own1 g hg) (sj.names.lt g hg).2).2.trans (sj.own1 g hg)
     · intro g hg
       simp only [if_neg hji] at hg; exact (hx g 2 (sj.own2 g hg) (g2.lt g hg).2).2.trans (sj.own2 g hg)
     · simp only [if_neg hji]
       exact own_blk g2 fun g hg hl => (hx g 2 (sj.own2 g hg) hl).1
 · rw [Ar.addAt, List.getElem?_modify] at hj
   by_cases hij : i = j
   · subst hij
     simp [hi] at hj
     subst hj; simp [SO.add]
     omega
   · simp [hij] at hj
     have := h.room j p hj; omega
 · show lo ≤ k ∧ k < w'.heap.size
   have hkk : own' k ≠ none := hk'; rw [how] at hkk; simp only at hkk; by_cases e1 : vn'.ownBlock = some k
   · exact hp.names.lt k e1
   · rw [if_neg e1] at hkk
     by_cases e2 : vk'.ownBlock = some k
     · exact hp.kids.lt k e2
     · rw [if_neg e2] at hkk
       have := h.lt k hkk
       have := hp.below.size; omega
 · have hm := h.mown
   have hml := (h.lt _ (by rw [hm]; simp)).2; exact (hsame _ hml (by rw [hm]; simp) (by rw [hm]; simp) (by rw [hm]; simp)).2.trans hm
 · obtain ⟨ps, q1, q2⟩ := h.map
   have hm := h.mown; refine ⟨ps, q1.same (hsame _ q1.lt (by rw [hm]; simp) (by rw [hm]; simp) (by rw [hm]; simp)).1, ?_⟩; rw [hlen]; exact q2
end
def setC (kind : Int) (place : Nat) : Array Value := #[.int .i64 kind, .string ⟨#[]⟩, .int .i64 0, .float .f64 0, .slice none 0 0, .slice none 0 0, .int .i64 (place : Int), .slice none 0 0]
section
variable {L : Loc} {lo N : Nat} {kind : Int} {w w' : World} {ar : Ar} {i : Nat} {o : SO}
theorem AR.start (kind : Int) (place : Nat) (w : World) (hlo : lo ≤ w.heap.size) :
 AR lo kind 0 ((w.alloc (.cells (setC kind place) 85)).alloc (.map #[] 0)) ⟨fun _ => w.heap.size, fun _ => .slice none 0 0, fun _ => .slice none 0 0, fun k => if k = w.heap.size then some (0, 0) else if k = w.heap.size + 1 then some (0, 3) else none, w.heap.size + 1⟩ [⟨[], [], place⟩] := by
 refine ⟨by simp, fun i o hi => ?_, fun i o hi => ?_, fun k hk => ?_, by simp, [], ?_, fun c => by simp; omega⟩
 · match i, hi with
   | 0, hi =>
     simp at hi; subst hi; exact ⟨by simp, block_alloc (block_new _ _ rfl) _, World.ownsRow_nil _ _ _ _, fun g hg => (by cases hg), fun g hg => (by cases hg), rfl, [], rfl, World.ownsRow_nil _ _ _ _, fun j c kid hj => (by simp at hj)⟩
   | i + 1, hi => simp at hi
 · match i, hi with
   | 0, hi => simp at hi; subst hi; simp
   | i + 1, hi => simp at hi
 · simp only [ne_eq] at hk
   simp
   by_cases h1 : k = w.heap.size
   · omega
   · by_cases h2 : k = w.heap.size + 1
     · omega
     · rw [if_neg h1, if_neg h2] at hk
       exact absurd rfl hk
 · have := MP.made (w.alloc (.cells (setC kind place) 85))
   simpa using this
theorem AR.push (h : AR lo kind N w L ar) (place : Nat) (hlo : lo ≤ w.heap.size) :
 ∃ w2, (Instr.mapUpdate 126 (.map (some L.m)) (ptr w.heap.size) (.bool true)).run Tryz.prog (w.alloc (.cells (setC 6 place) 85)) = .ok () w2 ∧
   AR lo kind N w2 ⟨fun j => if j = ar.length then w.heap.size else L.B j, fun j => if j = ar.length then .slice none 0 0 else L.VN j, fun j => if j = ar.length then .slice none 0 0 else L.VK j, fun k => if k = w.heap.size then some (ar.length, 0) else L.own k, L.m⟩ (ar ++ [⟨[], [], place⟩]) ∧
   w2.heap.size = w.heap.size + 1 ∧ (w.alloc (.cells (setC 6 place) 85)).grownBy w2 (some L.m) := by
 obtain ⟨ps, hmp, hps⟩ := h.map; have hml := (h.lt _ (by rw [h.mown]; simp)).2; have hpos := h.pos; have hmp1 : MP (w.alloc (.cells (setC 6 place) 85)) L.m ps := hmp.same (Below.heap_alloc _ _ _ hml); have hcel : ∀ p ∈ ps, Cel (w.alloc (.cells (setC 6 place) 85)) p ∧ p < w.heap.size := fun p hp => by
  obtain ⟨j, hj0, hj, rfl⟩ := (hps p).1 hp; have st := h.set j _ (List.getElem?_eq_getElem hj); exact ⟨⟨_, _, block_alloc st.node _⟩, block_lt st.node⟩
 obtain ⟨w2, hrun, hmp2, hg, hsz⟩ := hmp1.put ⟨_, _, block_new _ _ rfl⟩ (fun p hp => (hcel p hp).1) (fun hp => by have := (hcel _ hp).2; omega); have hsz2 : w2.heap.size = w.heap.size + 1 := by rw [hsz]; simp
 have hold : ∀ k, k < w.heap.size → k ≠ L.m → w2.heap[k]? = w.heap[k]? := fun k hk hne => (hg.block k (by simp; omega) (by simp; exact hne)).trans (Below.heap_alloc _ _ _ hk)
 have hown : ∀ k, k < w.heap.size → (if k = w.heap.size then some (ar.length, 0) else L.own k) = L.own k := fun k hk => by rw [if_neg (by omega)]
 refine ⟨w2, hrun, ⟨by simp, fun j p hj => ?_, fun j p hj => ?_, fun k hk => ?_, ?_, ps ++ [w.heap.size], hmp2, fun c => ?_⟩, hsz2, hg⟩
 · by_cases hlt : j < ar.length
   · rw [List.getElem?_append_left hlt] at hj
     have st := h.set j p hj; obtain ⟨is, h1, h2, h3⟩ := st.kids; have hjn : j ≠ ar.length := by omega
     have hm3 : ∀ k x, x < 3 → L.own k = some (j, x) → k ≠ L.m := fun k x hx e e2 => by
      rw [e2, h.mown] at e; simp at e; omega
     refine ⟨?_, ?_, ?_, ?_, ?_, st.eqn, is, h1, ?_, fun a c kid ha hk => ?_⟩
     · simp only [if_neg hjn]
       rw [hown _ (block_lt st.node)]; exact st.blk
     · simp only [if_neg hjn]
       exact (hold _ (block_lt st.node) (hm3 _ 0 (by omega) st.blk)).trans st.node
     · simp only [if_neg hjn]
       exact own_blk st.names fun g hg hl => hold g hl (hm3 _ 1 (by omega) (st.own1 g hg))
     · intro g hg
       simp only [if_neg hjn] at hg; have := (st.names.lt g hg).2; show (if g = w.heap.size then _ else _) = _; rw [hown g this]; exact st.own1 g hg
     · intro g hg
       simp only [if_neg hjn] at hg; have := (h2.lt g hg).2; show (if g = w.heap.size then _ else _) = _; rw [hown g this]; exact st.own2 g hg
     · simp only [if_neg hjn]
       exact own_blk h2 fun g hg hl => hold g hl (hm3 _ 2 (by omega) (st.own2 g hg))
     · have hka := h3 a c kid ha hk
       cases kid with
       | made q =>
         obtain ⟨k1, k2, k3⟩ := hka; refine ⟨k1, by simp; omega, ?_⟩; show c = if q = ar.length then _ else _
         rw [if_neg (by omega)]; exact k3
       | leaf t =>
         have h9 := TR.mono (q := fun k => (lo ≤ k ∧ (if k = w.heap.size then some (ar.length, 0) else L.own k) = none) ∧ k ≠ L.m) hka (fun k hk hl => ⟨⟨hk.1, by rw [hown k hl]; exact hk.2⟩, fun e => by have := hk.2; rw [e, h.mown] at this; cases this⟩); exact (h9.keep fun k hk hl => hold k hl hk.2).mono fun k hk _ => hk.1
   · rw [List.getElem?_append_right (by omega)] at hj
     have e : j = ar.length := by
      rcases Nat.lt_or_ge ar.length j with h1 | h1
      · rw [List.getElem?_eq_none (by simp; omega)] at hj; cases hj
      · omega
     subst e; simp at hj; subst hj; refine ⟨by simp, ?_, ?_, fun g hg => (by simp [Value.ownBlock] at hg), fun g hg => (by simp [Value.ownBlock] at hg), rfl, [], rfl, ?_, fun a c kid ha => (by simp at ha)⟩
     · simp only [if_true]
       rw [if_neg (show ¬ ar.length = 0 by omega)]; exact (hg.block _ (by simp) (by simp; omega)).trans (block_new _ _ rfl)
     · simp only [if_true]; exact World.ownsRow_nil _ _ _ _
     · simp only [if_true]; exact World.ownsRow_nil _ _ _ _
 · by_cases hlt : j < ar.length
   · rw [List.getElem?_append_left hlt] at hj
     exact h.room j p hj
   · rw [List.getElem?_append_right (by omega)] at hj
     have e : j - ar.length = 0 := by
      rcases Nat.eq_zero_or_pos (j - ar.length) with h1 | h1
      · exact h1
      · rw [List.getElem?_eq_none (by simp; omega)] at hj; cases hj
     rw [e] at hj; simp at hj; subst hj; simp
 · show lo ≤ k ∧ k < w2.heap.size
   have hk' : (if k = w.heap.size then some (ar.length, 0) else L.own k) ≠ none := hk; by_cases e : k = w.heap.size
   · omega
   · rw [if_neg e] at hk'
     have := h.lt k hk'; omega
 · show (if L.m = w.heap.size then _ else _) = _
   rw [if_neg (by omega)]; exact h.mown
 · rw [List.mem_append, hps]
   constructor
   · rintro (⟨j, h0, hj, rfl⟩ | h1)
     · exact ⟨j, h0, by simp; omega, by show (if j = ar.length then _ else _) = _; rw [if_neg (by omega)]⟩
     · simp at h1
       exact ⟨ar.length, hpos, by simp, by show (if ar.length = ar.length then _ else _) = _; rw [if_pos rfl, h1]⟩
   · rintro ⟨j, h0, hj, hb⟩
     simp at hj; have hb' : (if j = ar.length then w.heap.size else L.B j) = c := hb; by_cases e : j = ar.length
     · rw [if_pos e] at hb'
       exact Or.inr (by simp [hb'])
     · rw [if_neg e] at hb'
       exact Or.inl ⟨j, h0, by omega, hb'⟩
theorem AR.tree (h : AR lo kind N w L ar) : ∀ (f j : Nat) (o : SO), ar[j]? = some o → 0 < j → ar.length < f + j → TR (fun k => lo ≤ k ∧ ∀ x, L.own k ≠ some (0, x)) w (L.B j) (treeOf ar f j) := by
 intro f; induction f with
 | zero =>
   intro j o hj _ hf; have := (List.getElem?_eq_some_iff.1 hj).1; omega
 | succ f ih =>
   intro j o hj hj0 hf; have st := h.set j o hj; obtain ⟨is, h1, h2, h3⟩ := st.kids; have hq : ∀ k x, L.own k = some (j, x) → lo ≤ k ∧ ∀ x, L.own k ≠ some (0, x) := fun k x e => ⟨(h.lt k (by rw [e]; simp)).1, fun y hy => by rw [e] at hy; simp at hy; omega⟩
   unfold treeOf; rw [hj]; refine .mk (L.VN j) (L.VK j) is (hq _ 0 st.blk) ?_ (RowR.own st.names rfl fun g _ hg => hq g 1 (st.own1 g hg)) (RowR.own h2 rfl fun g _ hg => hq g 2 (st.own2 g hg)) (by simpa using h1) ?_
   · have := st.node
     rw [if_neg (by omega)] at this; exact this
   · intro a c t ha ht
     simp only [List.getElem?_map] at ht; cases hk : o.kids[a]? with
     | none => rw [hk] at ht; cases ht
     | some kid =>
       rw [hk] at ht; simp at ht; have hka := h3 a c kid ha hk; cases kid with
       | leaf u =>
         simp at ht; subst ht; exact TR.mono hka fun k hk2 _ => ⟨hk2.1, fun x hx => by rw [hk2.2] at hx; cases hx⟩
       | made q =>
         obtain ⟨k1, k2, rfl⟩ := hka; simp at ht; subst ht; exact ih q _ (List.getElem?_eq_getElem k2) (by omega) (by omega)
def NodeR (lo : Nat) (w : World) (b : Nat) (kind : Int) (place : Nat) (names : List ByteArray) (ks : List T) : Prop :=
 lo ≤ b ∧ ∃ vn vk, w.heap[b]? = some (.cells #[.int .i64 kind, .string ⟨#[]⟩, .int .i64 0, .float .f64 0, vn, .slice none 0 0, .int .i64 (place : Int), vk] 85 (0, 0)) ∧
  RowR (fun k => lo ≤ k ∧ k ≠ b ∧ some k ≠ vk.ownBlock) w vn (names.map Value.string) ∧ KR (fun k => k ≠ b) lo w vk ks
def kidsOf (ar : Ar) (o : SO) : List T := o.kids.map fun | .leaf t => t | .made j => treeOf ar ar.length j
theorem rootOf_is (kind : Int) (place : Nat) (more : List T) (h : ar[0]? = some o) : rootOf kind place more ar = .mk kind ⟨#[]⟩ 0 0 o.names place (kidsOf ar o ++ more) := by
 unfold rootOf treeOf; rw [h]; rfl
theorem AR.root (h : AR lo kind N w L ar) (ho : ar[0]? = some o) : NodeR lo w (L.B 0) kind o.place o.names (kidsOf ar o) := by
 have st := h.set 0 o ho; obtain ⟨is, h1, h2, h3⟩ := st.kids; refine ⟨(h.lt _ (by rw [st.blk]; simp)).1, L.VN 0, L.VK 0, by simpa using st.node, RowR.own st.names rfl (fun g hg he => ⟨hg, fun e => ?_, fun e => ?_⟩), is, by simp [kidsOf, h1], by simpa [kidsOf] using h2, fun g hg e => ?_, fun a c t ha ht => ?_⟩
 · have h4 := st.own1 g he
   rw [e, st.blk] at h4; simp at h4
 · have h4 := st.own1 g he
   rw [st.own2 g e.symm] at h4; simp at h4
 · have h4 := st.own2 g hg
   rw [e, st.blk] at h4; simp at h4
 · simp only [kidsOf, List.getElem?_map] at ht
   cases hk : o.kids[a]? with
   | none => rw [hk] at ht; cases ht
   | some kid =>
     rw [hk] at ht; simp at ht; have hka := h3 a c kid ha hk; have hx : ∀ k, (∀ x, L.own k ≠ some (0, x)) → k ≠ L.B 0 ∧ some k ≠ (L.VK 0).ownBlock := fun k hk => ⟨fun e => hk 0 (by rw [e]; exact st.blk), fun e => hk 2 (st.own2 k e.symm)⟩
     cases kid with
     | leaf u =>
       simp at ht; subst ht; exact TR.mono hka fun k hk2 _ => by
        have := hx k (fun x e => by rw [hk2.2] at e; cases e); exact ⟨this.1, hk2.1, this.2⟩
     | made q =>
       obtain ⟨k1, k2, rfl⟩ := hka; simp at ht; subst ht; exact (h.tree ar.length q _ (List.getElem?_eq_getElem k2) (by omega) (by omega)).mono fun k hk2 _ => ⟨(hx k hk2.2).1, hk2.1, (hx k hk2.2).2⟩
theorem NodeR.tr {b : Nat} {place : Nat} {names : List ByteArray} {ks : List T} (h : NodeR lo w b kind place names ks) : TR (fun k => lo ≤ k) w b (.mk kind ⟨#[]⟩ 0 0 names place ks) := by
 obtain ⟨h0, vn, vk, h1, h2, h3⟩ := h; exact KR.node h3 h1 (h2.mono fun k hk _ => hk.1) h0
theorem NodeR.keep {b : Nat} {place : Nat} {names : List ByteArray} {ks : List T} (h : NodeR lo w b kind place names ks) (hk : Keeps (fun k => lo ≤ k) w w') : NodeR lo w' b kind place names ks := by
 obtain ⟨h0, vn, vk, h1, h2, h3⟩ := h; exact ⟨h0, vn, vk, (hk b h0 (block_lt h1)).trans h1, h2.keep fun k hk1 hk2 => hk k hk1.1 hk2, h3.keep fun k hk1 hk2 => hk k hk1.2 hk2⟩
end
end Go.Proofs.YtkoghgnjjfnamaaGreatDoor
