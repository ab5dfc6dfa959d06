/- ParShown, ParFault, ParAid. -/
import Derived.Test.YtppljgallbmgcaaGreatDoorGr
import Derived.Test.YtppljgallbmgcaaGreatDoorAs
import Derived.Handy
import Derived.Laws.Rows
import Derived.BigQuiet
import Derived.Laws.IdiomStrings
/- What the laws of the parser show. -/
namespace Go.Proofs.YtppljgallbmgcaaGreatDoor
open Go.RowKit
def shwP : ByteArray := ⟨#[123, 32, 97, 46, 98, 32, 61, 32, 49, 59, 32, 99, 32, 61, 32, 102, 32, 120, 46, 121, 59, 32, 97, 46, 100, 32, 61, 32, 51, 59, 32, 125]⟩
def shN : List Nd := [⟨1, ⟨#[]⟩, 1, 0, [], [], 8⟩, ⟨1, ⟨#[]⟩, 3, 0, [], [], 28⟩, ⟨6, ⟨#[]⟩, 0, 0, [⟨#[98]⟩, ⟨#[100]⟩], [0, 1], 2⟩, ⟨4, ⟨#[102]⟩, 0, 0, [], [], 15⟩, ⟨4, ⟨#[120]⟩, 0, 0, [], [], 17⟩, ⟨8, ⟨#[121]⟩, 0, 0, [], [4], 18⟩, ⟨10, ⟨#[]⟩, 0, 0, [], [3, 5], 15⟩, ⟨6, ⟨#[]⟩, 0, 0, [⟨#[97]⟩, ⟨#[99]⟩], [2, 6], 0⟩]
theorem shwP_parse : parseP pfA shwP = .ok shN := by kernel_rfl
/-- The cells of a node of the answer. -/
theorem ND.node {q : Nat → Prop} {A B : Nat} {w : World} {v : Value} {ls : List NV} {a : Option Addr} {m c : Nat} (h : ND q A B w v ls) (hv : v = .slice a m c) {i : Nat} {x : NV} (hx : ls[i]? = some x) :
    ∃ g, a = some ⟨g, 0, none⟩ ∧ B ≤ g ∧ m = ls.length ∧ ∀ (k : Nat) u, x.cells[k]? = some u → w.cell? ⟨g, i * 7 + k, none⟩ = some u := by
  have hlen : ∀ y : NV, y.cells.length = 7 := fun y => rfl
  have hget : ∀ (l : List NV) (i : Nat), l[i]? = some x → ∀ (k : Nat) u, x.cells[k]? = some u → (l.flatMap NV.cells)[i * 7 + k]? = some u := by
    intro l
    induction l with
    | nil => intro i hi; simp at hi
    | cons y l ih =>
      intro i hi k u hu
      have hk : k < 7 := by
        have := (List.getElem?_eq_some_iff.1 hu).1
        rw [hlen] at this
        exact this
      rw [List.flatMap_cons]
      cases i with
      | zero =>
        simp at hi
        subst hi
        rw [List.getElem?_append_left (by rw [hlen]; omega)]
        simpa using hu
      | succ i =>
        rw [List.getElem?_append_right (by rw [hlen]; omega), hlen, show (i + 1) * 7 + k - 7 = i * 7 + k by omega]
        exact ih i (by simpa using hi) k u hu
  have h0 : x.cells[0]? = some (.int .i64 x.nd.kind) := rfl
  obtain ⟨g, e0, h1, h2, _⟩ := own_cell h.own hv (j := i * 7 + 0) (hget ls i hx 0 _ h0)
  refine ⟨g, e0, h1, h2, fun k u hu => ?_⟩
  obtain ⟨g2, e2, _, _, h3⟩ := own_cell h.own hv (j := i * 7 + k) (hget ls i hx k u hu)
  rw [e0] at e2
  cases e2
  exact h3
set_option maxRecDepth 100000 in
theorem shown_any {NG : Nat} {w : World} (hG : GP NG w) : Calls Tryz.prog 11 #[] w fun e w' => e = .returned (.bool true) ∧ Below w.heap.size w w' := by
  have HALL := Lib.hid (Parse_any hG shwP)
  rw [shwP_parse] at HALL
  go_enter Tryz.func11, Tryz.ntmps11
  go_wp2_with fail
  refine HALL.out.mono ?_
  rintro e w2 ⟨⟨out, ls, A, B, rfl, hnd, hmap, hA, hAB⟩, hb⟩
  obtain ⟨a, cap, rfl⟩ := own_shape hnd.own
  have hl : ls.length = 8 := by have := congrArg List.length hmap; rw [List.length_map] at this; exact this
  rw [hl]
  have hx : ∀ i, i < 8 → ∃ x, ls[i]? = some x ∧ shN[i]? = some x.nd := fun i hi => by
    refine ⟨ls[i], List.getElem?_eq_getElem (by omega), ?_⟩
    rw [← hmap, List.getElem?_map, List.getElem?_eq_getElem (by omega)]
    rfl
  obtain ⟨x7, h7, n7⟩ := hx 7 (by decide)
  obtain ⟨x2, h2, n2⟩ := hx 2 (by decide)
  obtain ⟨g, rfl, hg, _, c7⟩ := hnd.node rfl h7
  obtain ⟨_, he, _, _, c2⟩ := hnd.node rfl h2
  cases he
  have e7 : x7.nd = ⟨6, ⟨#[]⟩, 0, 0, [⟨#[97]⟩, ⟨#[99]⟩], [2, 6], 0⟩ := (Option.some.inj n7).symm
  have e2 : x2.nd = ⟨6, ⟨#[]⟩, 0, 0, [⟨#[98]⟩, ⟨#[100]⟩], [0, 1], 2⟩ := (Option.some.inj n2).symm
  have hn7 := hnd.nam 7 x7 h7
  rw [e7] at hn7
  obtain ⟨na, nc, hvn⟩ := hn7.shape
  have k7 : w2.cell? ⟨g, 49, none⟩ = some (.int .i64 6) := by have := c7 0 _ rfl; rw [e7] at this; exact this
  have m7 : w2.cell? ⟨g, 53, none⟩ = some (.slice na 2 nc) := by have := c7 4 _ rfl; rw [hvn] at this; exact this
  have k2 : w2.cell? ⟨g, 14, none⟩ = some (.int .i64 6) := by have := c2 0 _ rfl; rw [e2] at this; exact this
  clear hmap hx h7 h2 n7 n2 e7 e2 hn7 hvn c7 c2 hnd hl hG
  go_wp2_with fail
  go_ret
  exact ⟨rfl, hb⟩
end Go.Proofs.YtppljgallbmgcaaGreatDoor

/- What a fault says. -/
namespace Go.Proofs.YtppljgallbmgcaaGreatDoor
open Go.RowKit
theorem as_fault (e t : Addr) (old : Value) (w : World) (hg : w.cell? ⟨0, 0, none⟩ = some (.iface 110 (.agg #[.pointer (some ⟨16, 25, none⟩)]))) (ht0 : w.cell? t = some old) (hf0 : w.frozen? t = false) :
    Calls Tryz.prog 22 #[.iface 52 (.pointer (some e)), .iface 63 (.pointer (some t))] w fun ev w' => ev = .returned (.bool true) ∧ w'.cell? t = some (.pointer (some e)) ∧ Below t.block w w' := by
  have htl : t.block < w.heap.size := by
    rcases Nat.lt_or_ge t.block w.heap.size with h | h
    · exact h
    · simp [World.cell?, Array.getElem?_eq_none h] at ht0
  refine (as_hit e t old w hg ht0 hf0).mono ?_
  rintro ev w' ⟨rfl, rfl⟩
  refine ⟨rfl, ?_, ?_⟩
  · refine World.cell?_setCell_same' _ _ _ ?_
    rw [World.cell?_alloc_lt _ _ t (by simp; omega), World.cell?_alloc_lt _ _ t (by simp; omega), World.cell?_alloc_lt _ _ t (by simp; omega), World.cell?_alloc_lt _ _ t htl, ht0]
    rfl
  · (repeat' (first | (with_reducible exact Below.refl _ _) | (with_reducible assumption) | (with_reducible refine below_drewN ?_ _) | (with_reducible refine Below.drew ?_) | (with_reducible refine Below.alloc ?_ ?_ _) | (with_reducible refine Below.setCell ?_ ?_ _) | omega | (simp; done) | (simp; omega)))
theorem fault_says {w : World} {f : Nat} {p e : Int} {ty : TypeId} (hg : w.cell? ⟨0, 0, none⟩ = some (.iface 110 (.agg #[.pointer (some ⟨16, 25, none⟩)]))) (hft : w.heap[f]? = some (.cells #[.int .i64 p, .int .i64 e] ty (0, 0))) :
    Calls Tryz.prog 14 #[.iface 52 (.pointer (some ⟨f, 0, none⟩))] w fun en w' => en = .returned (.agg #[.int .i64 p, .int .i64 e]) ∧ Below w.heap.size w w' := by
  have hlt : f < w.heap.size := by
    rcases Nat.lt_or_ge f w.heap.size with h | h
    · exact h
    · rw [Array.getElem?_eq_none h] at hft; cases hft
  have h0 : 0 < w.heap.size := by
    rcases Nat.lt_or_ge 0 w.heap.size with h | h
    · exact h
    · simp [World.cell?, Array.getElem?_eq_none h] at hg
  have c0 : w.cell? ⟨f, 0, none⟩ = some (.int .i64 p) := by simp [World.cell?, hft]
  have c1 : w.cell? ⟨f, 1, none⟩ = some (.int .i64 e) := by simp [World.cell?, hft]
  have hgA : ((w.alloc (.cells #[.int .i64 0, .int .i64 0] 37)).alloc (.cells #[.pointer none] 52)).cell? ⟨0, 0, none⟩ = some (.iface 110 (.agg #[.pointer (some ⟨16, 25, none⟩)])) := by
    rw [World.cell?_alloc_lt _ _ ⟨0, 0, none⟩ (by simp), World.cell?_alloc_lt _ _ ⟨0, 0, none⟩ h0]; exact hg
  have htA : ((w.alloc (.cells #[.int .i64 0, .int .i64 0] 37)).alloc (.cells #[.pointer none] 52)).cell? ⟨w.heap.size + 1, 0, none⟩ = some (.pointer none) := by simp
  have hfA : ((w.alloc (.cells #[.int .i64 0, .int .i64 0] 37)).alloc (.cells #[.pointer none] 52)).frozen? ⟨w.heap.size + 1, 0, none⟩ = false := by simp
  go_enter Tryz.func14, Tryz.ntmps14
  go_wp2_with fail
  refine (as_fault _ _ (.pointer none) _ hgA htA hfA).mono ?_
  rintro ev w' ⟨rfl, hc, hb⟩
  have hb' : Below (w.heap.size + 1) ((w.alloc (.cells #[.int .i64 0, .int .i64 0] 37)).alloc (.cells #[.pointer none] 52)) w' := hb
  have e0 : w'.cell? ⟨f, 0, none⟩ = some (.int .i64 p) := by
    rw [hb'.cell (show f < w.heap.size + 1 by omega), World.cell?_alloc_lt _ _ ⟨f, 0, none⟩ (by simp; omega), World.cell?_alloc_lt _ _ ⟨f, 0, none⟩ hlt]; exact c0
  have e1 : w'.cell? ⟨f, 1, none⟩ = some (.int .i64 e) := by
    rw [hb'.cell (show f < w.heap.size + 1 by omega), World.cell?_alloc_lt _ _ ⟨f, 1, none⟩ (by simp; omega), World.cell?_alloc_lt _ _ ⟨f, 1, none⟩ hlt]; exact c1
  have hbk : w'.heap[w.heap.size]? = some (.cells #[.int .i64 0, .int .i64 0] 37 (0, 0)) := by
    rw [hb'.block _ (Nat.lt_succ_self _)]
    exact block_alloc (block_new _ _ rfl) _
  have hB : Below w.heap.size w w' := by
    refine Below.trans ?_ (hb'.mono (Nat.le_succ _))
    (repeat' (first | (with_reducible exact Below.refl _ _) | (with_reducible assumption) | (with_reducible refine below_drewN ?_ _) | (with_reducible refine Below.drew ?_) | (with_reducible refine Below.alloc ?_ ?_ _) | (with_reducible refine Below.setCell ?_ ?_ _) | omega | (simp; done) | (simp; omega)))
  have r0 : w'.cell? ⟨w.heap.size, 0, none⟩ = some (.int .i64 0) := by simp [World.cell?, hbk]
  have r1 : w'.cell? ⟨w.heap.size, 1, none⟩ = some (.int .i64 0) := by simp [World.cell?, hbk]
  have q0 : w'.frozen? ⟨w.heap.size, 0, none⟩ = false := by simp [World.frozen?, hbk]
  have q1 : w'.frozen? ⟨w.heap.size, 1, none⟩ = false := by simp [World.frozen?, hbk]
  have hne : w.heap.size < w'.heap.size := by
    rcases Nat.lt_or_ge w.heap.size w'.heap.size with h | h
    · exact h
    · rw [Array.getElem?_eq_none h] at hbk; cases hbk
  clear hb hb' hgA htA hfA
  go_wp2_with fail
  have hrow : ((w'.setCell ⟨w.heap.size, 0, none⟩ (.int .i64 p)).setCell ⟨w.heap.size, 1, none⟩ (.int .i64 e)).heap[w.heap.size]? = some (.cells #[.int .i64 p, .int .i64 e] 37 (0, 0)) := by
    have h1 := block_set (i := 1) (block_set (i := 0) hbk (.int .i64 p)) (.int .i64 e)
    exact h1
  refine bodyPost_ret (results_cell_row rfl _ _ w.heap.size 37 _ (0, 0) _ rfl hrow Tryz.underlying37 rfl (by kernel_rfl)) rfl ?_
  exact ⟨rfl, (by (repeat' (first | (with_reducible exact Below.refl _ _) | (with_reducible assumption) | (with_reducible refine below_drewN ?_ _) | (with_reducible refine Below.drew ?_) | (with_reducible refine Below.alloc ?_ ?_ _) | (with_reducible refine Below.setCell ?_ ?_ _) | omega | (simp; done) | (simp; omega))))⟩
end Go.Proofs.YtppljgallbmgcaaGreatDoor

/- Small things that the laws of the parser share. -/
namespace Go.Proofs.YtppljgallbmgcaaGreatDoor
open Go.RowKit Go.Shelf
def whN (n : Int) : Nat := if n < 0 then (-(n + 1)).toNat else n.toNat
theorem whN_le {n : Int} (h1 : -9223372036854775808 ≤ n) (h2 : n ≤ 9223372036854775807) : whN n ≤ 9223372036854775807 := by
  unfold whN
  split <;> omega
theorem whN_neg {n : Int} (h : n < 0) : (whN n : Int) = -(n + 1) := by unfold whN; rw [if_pos h]; omega
theorem whN_pos {n : Int} (h : 0 ≤ n) : (whN n : Int) = n := by unfold whN; rw [if_neg (by omega)]; omega
def HndG (w : World) : Prop := w.cell? ⟨0, 0, none⟩ = some (.iface 110 (.agg #[.pointer (some ⟨16, 25, none⟩)]))
theorem HndG.keeps {w w' : World} (hb : Below w.heap.size w w') (h : HndG w) : HndG w' := by
  have hE : 0 < w.heap.size := World.block_lt_of_cell? w _ h
  unfold HndG
  rw [hb.cell (show (0 : Nat) < w.heap.size from hE)]
  exact h
theorem GP.below {NG : Nat} {w w' : World} (h : GP NG w) (hb : Below w.heap.size w w') : GP NG w' := h.keeps h.1.2 hb
theorem nw_app (a b : ByteArray) : (a ++ b).data.toList = a.data.toList ++ b.data.toList := by
  rw [ByteArray.data_append, Array.toList_append]
theorem fault_in (p e p' e' : Int) (w : World) : (Op.equalIn 10000 37 (.agg #[.int .i64 p, .int .i64 e]) (.agg #[.int .i64 p', .int .i64 e'])).run Tryz.prog w = .ok (decide (p = p') && decide (e = e')) w := by
  rw [run_equalIn_agg (P := Tryz.prog) w 9999 37 _ _ (by kernel_rfl) (by kernel_rfl)]
  by_cases h1 : p = p' <;> by_cases h2 : e = e' <;> simp [go_sem, Tryz.underlying37, Tryz.underlying3, Tryz.underlying35, h1, h2]
end Go.Proofs.YtppljgallbmgcaaGreatDoor
