/- ParAid, ParNR: what is used of them. -/
import Derived.Test.YtkoghgnjjfnamaaGreatDoorGr
import Derived.BigQuiet
import Derived.Laws.IdiomStrings
namespace Go.Proofs.YtkoghgnjjfnamaaGreatDoor
open Go.RowKit Go.Shelf
theorem ND.node {q : Nat → Prop} {A B : Nat} {w : World} {v : Value} {ls : List NV} {a : Option Addr} {m c : Nat} (h : ND q A B w v ls) (hv : v = .slice a m c) {i : Nat} {x : NV} (hx : ls[i]? = some x) :
 ∃ g, a = some ⟨g, 0, none⟩ ∧ B ≤ g ∧ m = ls.length ∧ ∀ (k : Nat) u, x.cells[k]? = some u → w.cell? ⟨g, i * 7 + k, none⟩ = some u := by
 have hlen : ∀ y : NV, y.cells.length = 7 := fun y => rfl
 have hget : ∀ (l : List NV) (i : Nat), l[i]? = some x → ∀ (k : Nat) u, x.cells[k]? = some u → (l.flatMap NV.cells)[i * 7 + k]? = some u := by
  intro l; induction l with
  | nil => intro i hi; simp at hi
  | cons y l ih =>
    intro i hi k u hu; have hk : k < 7 := by
     have := (List.getElem?_eq_some_iff.1 hu).1; rw [hlen] at this; exact this
    rw [List.flatMap_cons]; cases i with
    | zero =>
      simp at hi; subst hi; rw [List.getElem?_append_left (by rw [hlen]; omega)]; simpa using hu
    | succ i =>
      rw [List.getElem?_append_right (by rw [hlen]; omega), hlen, show (i + 1) * 7 + k - 7 = i * 7 + k by omega]; exact ih i (by simpa using hi) k u hu
 have h0 : x.cells[0]? = some (.int .i64 x.nd.kind) := rfl; obtain ⟨g, e0, h1, h2, _⟩ := own_cell h.own hv (j := i * 7 + 0) (hget ls i hx 0 _ h0); refine ⟨g, e0, h1, h2, fun k u hu => ?_⟩; obtain ⟨g2, e2, _, _, h3⟩ := own_cell h.own hv (j := i * 7 + k) (hget ls i hx k u hu); rw [e0] at e2; cases e2; exact h3
theorem GP.below {NG : Nat} {w w' : World} (h : GP NG w) (hb : Below w.heap.size w w') : GP NG w' := h.keeps h.1.2 hb
theorem nw_app (a b : ByteArray) : (a ++ b).data.toList = a.data.toList ++ b.data.toList := by
 rw [ByteArray.data_append, Array.toList_append]
theorem _root_.Go.RowKit.Below.next {a b c : World} (h : Below a.heap.size a b) (k : Below b.heap.size b c) : Below a.heap.size a c := h.trans (k.mono h.size)
open Go.RowKit
structure NRd (pn : Nat → Prop) (pk : Nat → Nat → Prop) (w : World) (g o : Nat) (ls : List NV) : Prop where
 blk : ∃ cur e, w.heap[g]? = some (.cells cur e (0, 0)) ∧ ∀ (i : Nat) (x : NV), ls[i]? = some x → ∀ (k : Nat) (u : Value), x.cells[k]? = some u → cur[o + i * 7 + k]? = some u
 nam : ∀ (i : Nat) (x : NV), ls[i]? = some x → RowR pn w x.vn (x.nd.names.map Value.string)
 kid : ∀ (i : Nat) (x : NV), ls[i]? = some x → RowR (pk i) w x.vk (x.nd.kids.map num)
section
variable {pn : Nat → Prop} {pk : Nat → Nat → Prop} {w w' : World} {g o : Nat} {ls : List NV}
theorem NRd.lt (h : NRd pn pk w g o ls) : g < w.heap.size := by
 obtain ⟨cur, e, h1, _⟩ := h.blk; exact block_lt h1
theorem NRd.cell (h : NRd pn pk w g o ls) {i : Nat} {x : NV} (hi : ls[i]? = some x) (k : Nat) (u : Value) (hu : x.cells[k]? = some u) : w.cell? ⟨g, o + i * 7 + k, none⟩ = some u := by
 obtain ⟨cur, e, h1, h2⟩ := h.blk; exact block_cell h1 (h2 i x hi k u hu)
theorem NRd.free (h : NRd pn pk w g o ls) (j : Nat) : w.frozen? ⟨g, j, none⟩ = false := by
 obtain ⟨cur, e, h1, h2⟩ := h.blk; exact block_free h1
theorem NRd.keep (h : NRd pn pk w g o ls) (h0 : w'.heap[g]? = w.heap[g]?) (h1 : Keeps pn w w') (h2 : ∀ i, Keeps (pk i) w w') : NRd pn pk w' g o ls := by
 obtain ⟨cur, e, h3, h4⟩ := h.blk; exact ⟨⟨cur, e, h0.trans h3, h4⟩, fun i x hi => (h.nam i x hi).keep h1, fun i x hi => (h.kid i x hi).keep (h2 i)⟩
theorem NRd.below (h : NRd pn pk w g o ls) (hb : Below w.heap.size w w') : NRd pn pk w' g o ls := h.keep (hb.block g h.lt) (Below.keeps hb) (fun _ => Below.keeps hb)
theorem NRd.next {base : Nat} {wr : World} (h : NRd pn pk w g o ls) (hbase : w.heap.size ≤ base) (hb : Below base w wr) : NRd pn pk wr g o ls := h.below (hb.mono hbase)
theorem NRd.take (h : NRd pn pk w g o ls) (n : Nat) : NRd pn pk w g o (ls.take n) := by
 have hg : ∀ (i : Nat) (x : NV), (ls.take n)[i]? = some x → ls[i]? = some x := fun i x hi => by
  rw [List.getElem?_take] at hi; split at hi
  · exact hi
  · cases hi
 obtain ⟨cur, e, h3, h4⟩ := h.blk; exact ⟨⟨cur, e, h3, fun i x hi => h4 i x (hg i x hi)⟩, fun i x hi => h.nam i x (hg i x hi), fun i x hi => h.kid i x (hg i x hi)⟩
theorem NRd.drop (h : NRd pn pk w g o ls) (n : Nat) : NRd pn (fun i => pk (n + i)) w g (o + n * 7) (ls.drop n) := by
 have hg : ∀ (i : Nat) (x : NV), (ls.drop n)[i]? = some x → ls[n + i]? = some x := fun i x hi => by rwa [List.getElem?_drop] at hi
 obtain ⟨cur, e, h3, h4⟩ := h.blk; exact ⟨⟨cur, e, h3, fun i x hi k u hu => by
  have := h4 (n + i) x (hg i x hi) k u hu; rw [show o + n * 7 + i * 7 + k = o + (n + i) * 7 + k by omega]; exact this⟩, fun i x hi => h.nam _ x (hg i x hi), fun i x hi => h.kid _ x (hg i x hi)⟩
theorem cells_lt {x : NV} {k : Nat} {u : Value} (h : x.cells[k]? = some u) : k < 7 := (List.getElem?_eq_some_iff.1 h).1
def NV.at (x : NV) (p : Nat) : NV := { x with nd := { x.nd with place := p } }
theorem NRd.place (h : NRd pn pk w g o ls) (h1 : ∀ k, pn k → k ≠ g) (h2 : ∀ i k, pk i k → k ≠ g) {i : Nat} {x : NV} (hi : ls[i]? = some x) (p : Nat) : NRd pn pk (w.setCell ⟨g, o + i * 7 + 6, none⟩ (num p)) g o (ls.set i (x.at p)) := by
 have hlt : i < ls.length := (List.getElem?_eq_some_iff.1 hi).1; have hget : ∀ (j : Nat) (y : NV), (ls.set i (x.at p))[j]? = some y → (j = i ∧ y = x.at p) ∨ (j ≠ i ∧ ls[j]? = some y) := fun j y hj => by
  by_cases e : i = j
  · subst e
    rw [List.getElem?_set_self hlt] at hj; cases hj; exact Or.inl ⟨rfl, rfl⟩
  · rw [List.getElem?_set_ne e] at hj
    exact Or.inr ⟨fun e2 => e e2.symm, hj⟩
 have hK : ∀ q : Nat → Prop, (∀ k, q k → k ≠ g) → Keeps q w (w.setCell ⟨g, o + i * 7 + 6, none⟩ (num p)) := fun q hq k hk _ => Below.heap_setCell _ _ _ _ (hq k hk)
 obtain ⟨cur, e, h3, h4⟩ := h.blk; refine ⟨⟨_, e, block_set h3 _, fun j y hj k u hu => ?_⟩, fun j y hj => ?_, fun j y hj => ?_⟩
 · have hk := cells_lt hu
   rcases hget j y hj with ⟨rfl, rfl⟩ | ⟨hne, hj⟩
   · by_cases h6 : k = 6
     · subst h6
       have := h4 j x hi 6 _ rfl; have hs : o + j * 7 + 6 < cur.size := (Array.getElem?_eq_some_iff.1 this).1; have hu' : u = num p := (Option.some.inj hu).symm; rw [hu', Array.getElem?_setIfInBounds_self_of_lt hs]
     · rw [Array.getElem?_setIfInBounds_ne (by omega)]
       refine h4 j x hi k u ?_; rcases (by omega : k = 0 ∨ k = 1 ∨ k = 2 ∨ k = 3 ∨ k = 4 ∨ k = 5) with rfl | rfl | rfl | rfl | rfl | rfl <;> exact hu
   · rw [Array.getElem?_setIfInBounds_ne (by
      intro e2; have : j = i := by omega
      exact hne this)]
     exact h4 j y hj k u hu
 · rcases hget j y hj with ⟨rfl, rfl⟩ | ⟨_, hj⟩
   · exact (h.nam j x hi).keep (hK _ h1)
   · exact (h.nam j y hj).keep (hK _ h1)
 · rcases hget j y hj with ⟨rfl, rfl⟩ | ⟨_, hj⟩
   · exact (h.kid j x hi).keep (hK _ (h2 j))
   · exact (h.kid j y hj).keep (hK _ (h2 j))
end
theorem NRd.seven {pn : Nat → Prop} {pk : Nat → Nat → Prop} {w : World} {g o : Nat} {ls : List NV} (h : NRd pn pk w g o ls) {i : Nat} {x : NV} (hi : ls[i]? = some x) : ∃ a1 c1 a2 c2, x.vn = .slice a1 x.nd.names.length c1 ∧ x.vk = .slice a2 x.nd.kids.length c2 ∧
 w.cell? ⟨g, o + i * 7, none⟩ = some (.int .i64 x.nd.kind) ∧ w.cell? ⟨g, o + i * 7 + 1, none⟩ = some (.string x.nd.text) ∧ w.cell? ⟨g, o + i * 7 + 2, none⟩ = some (.int .i64 x.nd.int) ∧ w.cell? ⟨g, o + i * 7 + 3, none⟩ = some (.float .f64 x.nd.flt) ∧
 w.cell? ⟨g, o + i * 7 + 4, none⟩ = some (.slice a1 x.nd.names.length c1) ∧ w.cell? ⟨g, o + i * 7 + 5, none⟩ = some (.slice a2 x.nd.kids.length c2) ∧ w.cell? ⟨g, o + i * 7 + 6, none⟩ = some (.int .i64 (x.nd.place : Int)) ∧
 (∀ (j k : Nat), x.nd.kids[j]? = some k → ∃ b, a2 = some ⟨b, 0, none⟩ ∧ w.cell? ⟨b, j, none⟩ = some (.int .i64 (k : Int))) ∧ ∀ (j : Nat) (s : ByteArray), x.nd.names[j]? = some s → ∃ b, a1 = some ⟨b, 0, none⟩ ∧ w.cell? ⟨b, j, none⟩ = some (.string s) := by
 obtain ⟨a1, c1, h1⟩ := (h.nam i x hi).shape; obtain ⟨a2, c2, h2⟩ := (h.kid i x hi).shape; rw [List.length_map] at h1 h2; have k4 := h.cell hi 4 _ rfl; have k5 := h.cell hi 5 _ rfl; rw [h1] at k4; rw [h2] at k5; refine ⟨a1, c1, a2, c2, h1, h2, h.cell hi 0 _ rfl, h.cell hi 1 _ rfl, h.cell hi 2 _ rfl, h.cell hi 3 _ rfl, k4, k5, h.cell hi 6 _ rfl, fun j k hk => ?_, fun j s hs => ?_⟩
 · obtain ⟨b, e, _, hc⟩ := (h.kid i x hi).cell h2 (j := j) (u := num k) (by rw [List.getElem?_map, hk]; rfl)
   exact ⟨b, e, hc⟩
 · obtain ⟨b, e, _, hc⟩ := (h.nam i x hi).cell h1 (j := j) (u := .string s) (by rw [List.getElem?_map, hs]; rfl)
   exact ⟨b, e, hc⟩
def kidAt (ls : List NV) (i k : Nat) : Prop := ∃ x, ls[i]? = some x ∧ x.vk.ownBlock = some k
theorem ND.rd {q : Nat → Prop} {A B : Nat} {w : World} {g n c : Nat} {ls : List NV} (h : ND q A B w (.slice (some ⟨g, 0, none⟩) n c) ls) : NRd (fun k => k < B) (kidAt ls) w g 0 ls := by
 refine ⟨?_, fun i x hi => (h.nam i x hi).mono fun k hk _ => hk.2, fun i x hi => RowR.own (h.kid i x hi) rfl fun b _ hb => ⟨x, hi, hb⟩⟩; obtain ⟨hl, h1 | ⟨g2, cap, cur, h1, hb, hh, hle, hm, hsz, htk⟩⟩ := h.own
 · cases h1.1
 · simp only [Value.slice.injEq, Option.some.injEq, Addr.mk.injEq, and_true] at h1
   obtain ⟨rfl, _, _⟩ := h1; refine ⟨_, _, hh, fun i x hi k u hu => ?_⟩; have hlen : ∀ y : NV, y.cells.length = 7 := fun y => rfl
   have hget : ∀ (l : List NV) (i : Nat), l[i]? = some x → ∀ (k : Nat) u, x.cells[k]? = some u → (l.flatMap NV.cells)[i * 7 + k]? = some u := by
    intro l; induction l with
    | nil => intro i hi; simp at hi
    | cons y l ih =>
      intro i hi k u hu; have hk : k < 7 := cells_lt hu; rw [List.flatMap_cons]; cases i with
      | zero =>
        simp at hi; subst hi; rw [List.getElem?_append_left (by rw [hlen]; omega)]; simpa using hu
      | succ i =>
        rw [List.getElem?_append_right (by rw [hlen]; omega), hlen, show (i + 1) * 7 + k - 7 = i * 7 + k by omega]; exact ih i (by simpa using hi) k u hu
   have h9 := hget ls i hi k u hu; rw [← htk, List.getElem?_take] at h9; split at h9
   · rw [Nat.zero_add]
     simpa using h9
   · cases h9
theorem ND.at_ne {q : Nat → Prop} {A B : Nat} {w : World} {v : Value} {ls : List NV} {x : NV} {i : Nat} (h : ND q A B w v ls) (hi : ls[i]? = some x) : ∃ g n c, v = .slice (some ⟨g, 0, none⟩) n c ∧ n = ls.length ∧ B ≤ g := by
 obtain ⟨a, cap, rfl⟩ := own_shape h.own; obtain ⟨g, rfl, hg, hm, _⟩ := h.node rfl hi; exact ⟨g, _, _, rfl, hm, hg⟩
theorem ND.apart {q : Nat → Prop} {A B : Nat} {w : World} {g n c : Nat} {ls : List NV} (h : ND q A B w (.slice (some ⟨g, 0, none⟩) n c) ls) : (∀ i k, kidAt ls i k → k ≠ g ∧ B ≤ k) ∧ (∀ i j k, kidAt ls i k → kidAt ls j k → i = j) ∧ (ls ≠ [] → B ≤ g) := by
 refine ⟨fun i k ⟨x, hx, hk⟩ => ⟨fun e => ?_, ((h.kid i x hx).lt k hk).1⟩, fun i j k ⟨x, hx, hk⟩ ⟨y, hy, hk2⟩ => h.sep i j x y k hx hy hk hk2, fun hne => ?_⟩
 · subst e
   exact (h.kq i x k hx hk).2 rfl
 · exact (h.own.lt g rfl).1
end Go.Proofs.YtkoghgnjjfnamaaGreatDoor
