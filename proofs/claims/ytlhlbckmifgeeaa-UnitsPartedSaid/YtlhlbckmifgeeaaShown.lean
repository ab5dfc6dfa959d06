/- What must be in any case: the small case of every law on units. -/
import Derived.Test.YtlhlbckmifgeeaaOrder
namespace Go.Proofs.Ytlhlbckmifgeeaa
open Go.RowKit

theorem sortS_eq {a b : List ByteArray} (hp : b.Perm a) (hs : (bytesOf b).Pairwise (fun x y => decide (x ≤ y) = true)) : sortS a = b := by
  have h := (sortS_sorted a)
  have hpp : (bytesOf (sortS a)).Perm (bytesOf b) := ((sortS_perm a).trans hp.symm).map _
  have := List.Perm.eq_of_pairwise (le := fun x y => decide (x ≤ y) = true) (fun x y _ _ h1 h2 => by simp at h1 h2; exact List.le_antisymm h1 h2) h hs hpp
  rw [← ofBytes_bytesOf (sortS a), this, ofBytes_bytesOf]

def bA : ByteArray := ⟨#[97]⟩
def bB : ByteArray := ⟨#[98]⟩
def bC : ByteArray := ⟨#[99]⟩
def e0 : ByteArray := ⟨#[]⟩
def sh3 : List U := [⟨bC, e0, [], [bA]⟩, ⟨bB, e0, [], []⟩, ⟨bA, e0, [bB], []⟩]
def sh1 : List U := [⟨bA, e0, [], [bA]⟩]
theorem sh3_order : orderU sh3 = ([⟨bB, e0, [], []⟩, ⟨bA, e0, [bB], []⟩, ⟨bC, e0, [], [bA]⟩], e0, 0) := by
  have hs : sortS (nm sh3) = [bA, bB, bC] := sortS_eq (by decide +kernel) (by decide +kernel)
  have h1 : twiceU sh3 = none := twiceU_none (by decide +kernel)
  unfold orderU
  rw [if_neg (by decide), orderB_none h1]
  unfold orderC
  rw [hs]
  rfl
theorem sh1_order : orderU sh1 = ([], bA, 29) := by
  have hs : sortS (nm sh1) = [bA] := sortS_eq (by decide +kernel) (by decide +kernel)
  have h1 : twiceU sh1 = none := twiceU_none (by decide +kernel)
  unfold orderU
  rw [if_neg (by decide), orderB_none h1]
  unfold orderC
  rw [hs]
  rfl

theorem slp_nil (p : Nat → Prop) (w : World) : SLP p w (.slice none 0 0) [] := ⟨none, 0, rfl, fun _ => rfl, by simp, fun i s h => by simp at h⟩
theorem slp_one {w : World} {g : Nat} {s : ByteArray} {c : Nat} (h : w.cell? ⟨g, 0, none⟩ = some (.string s)) (hs : s.size ≤ maxLen) : SL w (.slice (some ⟨g, 0, none⟩) 1 c) [s] :=
  ⟨_, _, rfl, (fun h => by cases h), by simp, fun i x hi => by
    match i, hi with
    | 0, hi => simp at hi; subst hi; exact ⟨g, 0, rfl, h, hs, trivial⟩
    | i + 1, hi => simp at hi⟩

theorem ul_sh3 {W : World} {g a b : Nat} (hg : W.heap[g]? = some (.cells #[.string bC, .string e0, .slice none 0 0, .slice (some ⟨a, 0, none⟩) 1 1, .string bB, .string e0, .slice none 0 0, .slice none 0 0, .string bA, .string e0, .slice (some ⟨b, 0, none⟩) 1 1, .slice none 0 0] 32 (0, 0)))
    (ha : W.cell? ⟨a, 0, none⟩ = some (.string bA)) (hb : W.cell? ⟨b, 0, none⟩ = some (.string bB)) : UL W (.slice (some ⟨g, 0, none⟩) 3 3) sh3 :=
  ⟨_, _, rfl, by decide, fun i u hi => by
    have sz : ∀ s ∈ [bA, bB, bC, e0], s.size ≤ maxLen := by decide
    refine ⟨g, 0, rfl, ?_, trivial⟩
    match i, hi with
    | 0, hi => simp [sh3] at hi; subst hi; exact ⟨block_cell hg rfl, block_cell hg rfl, sz _ (by decide), sz _ (by decide), _, _, block_cell hg rfl, block_cell hg rfl, slp_nil _ _, slp_one ha (sz _ (by decide))⟩
    | 1, hi => simp [sh3] at hi; subst hi; exact ⟨block_cell hg rfl, block_cell hg rfl, sz _ (by decide), sz _ (by decide), _, _, block_cell hg rfl, block_cell hg rfl, slp_nil _ _, slp_nil _ _⟩
    | 2, hi => simp [sh3] at hi; subst hi; exact ⟨block_cell hg rfl, block_cell hg rfl, sz _ (by decide), sz _ (by decide), _, _, block_cell hg rfl, block_cell hg rfl, slp_one hb (sz _ (by decide)), slp_nil _ _⟩
    | i + 3, hi => simp [sh3] at hi⟩
theorem ul_sh1 {W : World} {g a : Nat} (hg : W.heap[g]? = some (.cells #[.string bA, .string e0, .slice none 0 0, .slice (some ⟨a, 0, none⟩) 1 1] 32 (0, 0)))
    (ha : W.cell? ⟨a, 0, none⟩ = some (.string bA)) : UL W (.slice (some ⟨g, 0, none⟩) 1 1) sh1 :=
  ⟨_, _, rfl, by decide, fun i u hi => by
    have sz : ∀ s ∈ [bA, bB, bC, e0], s.size ≤ maxLen := by decide
    refine ⟨g, 0, rfl, ?_, trivial⟩
    match i, hi with
    | 0, hi => simp [sh1] at hi; subst hi; exact ⟨block_cell hg rfl, block_cell hg rfl, sz _ (by decide), sz _ (by decide), _, _, block_cell hg rfl, block_cell hg rfl, slp_nil _ _, slp_one ha (sz _ (by decide))⟩
    | i + 1, hi => simp [sh1] at hi⟩

/-- An answer's list, read. -/
theorem Ans.read {w w' : World} {e : Ending} {r : List U × ByteArray × Int} (h : Ans w w' e r) (hl : r.1.length ≤ 1759218604390) :
    ∃ v, e = .returned (.tuple #[v, .string r.2.1, .int .i64 r.2.2]) ∧ ULP (fun b => w.heap.size ≤ b ∧ v.ownBlock = some b) (fun b => (w.heap.size ≤ b ∧ v.ownBlock ≠ some b) ∧ Fz w' b) w' v r.1 ∧ Below w.heap.size w w' := by
  obtain ⟨v, he, ⟨xs, ho, hf⟩, hb⟩ := h
  exact ⟨v, he, ULP.of_own ho hf hl, hb⟩

set_option maxHeartbeats 1000000 in
theorem shown_any (w : World) : Calls Try.prog 8 #[] w fun e w' => e = .returned (.bool true) ∧ Below w.heap.size w w' := by
  go_enter Try.func8, Try.ntmps8
  go_wp2_with fail
  refine (order_any (us := sh3) (ul_sh3 (block_new _ _ (by simp)) (block_cell (block_alloc (block_alloc (block_new w _ rfl) _) _) rfl) (block_cell (block_alloc (block_new (w.alloc _) _ (by simp)) _) rfl)) (by decide)).mono ?_
  rintro e w1 h1
  rw [sh3_order] at h1
  obtain ⟨v1, rfl, hu1, hb1⟩ := h1.read (by decide)
  obtain ⟨a1, c1, rfl, _, hc1⟩ := hu1
  obtain ⟨g0, o0, rfl, ⟨p0, _⟩, _⟩ := hc1 0 _ rfl
  obtain ⟨g2, o2, he2, ⟨p2, _⟩, _⟩ := hc1 2 _ rfl
  simp only [Option.some.injEq, Addr.mk.injEq, and_true] at he2
  obtain ⟨rfl, rfl⟩ := he2
  simp only [bA, bB, bC, e0, List.length_cons, List.length_nil] at p0 p2 ⊢
  have hb1' : Below w.heap.size w w1 := (Below.trans (b := ((w.alloc _).alloc _).alloc _) (by (repeat' (first | (with_reducible exact Below.refl _ _) | (with_reducible assumption) | (with_reducible refine below_drewN ?_ _) | (with_reducible refine Below.drew ?_) | (with_reducible refine Below.alloc ?_ ?_ _) | (with_reducible refine Below.setCell ?_ ?_ _) | omega | (simp; done) | (simp; omega)))) (hb1.mono (by simp; omega)))
  have hz1 := hb1'.size
  clear hc1 h1
  go_wp2_with fail
  refine (order_any (us := sh1) (ul_sh1 (block_new _ _ (by simp)) (block_cell (block_alloc (block_new w1 _ rfl) _) rfl)) (by decide)).mono ?_
  rintro e w2 h2
  rw [sh1_order] at h2
  obtain ⟨v2, rfl, hu2, hb2⟩ := h2.read (by decide)
  have hb2' : Below w1.heap.size w1 w2 := (Below.trans (b := (w1.alloc _).alloc _) (by (repeat' (first | (with_reducible exact Below.refl _ _) | (with_reducible assumption) | (with_reducible refine below_drewN ?_ _) | (with_reducible refine Below.drew ?_) | (with_reducible refine Below.alloc ?_ ?_ _) | (with_reducible refine Below.setCell ?_ ?_ _) | omega | (simp; done) | (simp; omega)))) (hb2.mono (by simp; omega)))
  have p0 := cell_keeps hb2' p0
  have p2 := cell_keeps hb2' p2
  simp only [bA]
  simp only [Nat.zero_mul, Nat.add_zero] at p0
  clear hu2 h2
  go_wp2_with fail
  go_ret
  exact ⟨rfl, hb1'.trans (hb2'.mono hz1)⟩
end Go.Proofs.Ytlhlbckmifgeeaa
