/- What a fault says. -/
import Derived.Test.YtnhdedoobagbbaaGreatDoorAs
import Derived.Test.YtnhdedoobagbbaaGreatDoorPut
import Derived.Handy
import Derived.Laws.Rows
namespace Go.Proofs.YtnhdedoobagbbaaGreatDoor
open Go.RowKit
theorem as_fault (e t : Addr) (old : Value) (w : World) (hg : w.cell? ⟨0, 0, none⟩ = some (.iface 81 (.agg #[.pointer (some ⟨16, 25, none⟩)]))) (ht0 : w.cell? t = some old) (hf0 : w.frozen? t = false) :
    Calls Tryz.prog 21 #[.iface 40 (.pointer (some e)), .iface 50 (.pointer (some t))] w fun ev w' => ev = .returned (.bool true) ∧ w'.cell? t = some (.pointer (some e)) ∧ Below t.block w w' := by
  have htl : t.block < w.heap.size := by
    rcases Nat.lt_or_ge t.block w.heap.size with h | h
    · exact h
    · simp [World.cell?, Array.getElem?_eq_none h] at ht0
  refine (as_hit e t old w hg ht0 hf0).mono ?_
  rintro ev w' ⟨rfl, rfl⟩
  refine ⟨rfl, ?_, ?_⟩
  · refine World.cell?_setCell_same' _ _ _ ?_
    rw [World.cell?_alloc_lt _ _ t (by simp; omega), World.cell?_alloc_lt _ _ t (by simp; omega), World.cell?_alloc_lt _ _ t (by simp; omega), World.cell?_alloc_lt _ _ t htl, ht0]
    rfl
  · (repeat' (first | (with_reducible exact Below.refl _ _) | (with_reducible assumption) | (with_reducible refine below_drewN ?_ _) | (with_reducible refine Below.drew ?_) | (with_reducible refine Below.alloc ?_ ?_ _) | (with_reducible refine Below.setCell ?_ ?_ _) | omega | (simp; done) | (simp; omega)))
theorem fault_says {w : World} {f : Nat} {p e : Int} (hg : w.cell? ⟨0, 0, none⟩ = some (.iface 81 (.agg #[.pointer (some ⟨16, 25, none⟩)]))) (hft : w.heap[f]? = some (.cells #[.int .i64 p, .int .i64 e] 30 (0, 0))) :
    Calls Tryz.prog 8 #[.iface 40 (.pointer (some ⟨f, 0, none⟩))] w fun en w' => en = .returned (.agg #[.int .i64 p, .int .i64 e]) ∧ Below w.heap.size w w' := by
  have hlt : f < w.heap.size := by
    rcases Nat.lt_or_ge f w.heap.size with h | h
    · exact h
    · rw [Array.getElem?_eq_none h] at hft; cases hft
  have h0 : 0 < w.heap.size := by
    rcases Nat.lt_or_ge 0 w.heap.size with h | h
    · exact h
    · simp [World.cell?, Array.getElem?_eq_none h] at hg
  have c0 : w.cell? ⟨f, 0, none⟩ = some (.int .i64 p) := by simp [World.cell?, hft]
  have c1 : w.cell? ⟨f, 1, none⟩ = some (.int .i64 e) := by simp [World.cell?, hft]
  have hgA : ((w.alloc (.cells #[.int .i64 0, .int .i64 0] 30)).alloc (.cells #[.pointer none] 40)).cell? ⟨0, 0, none⟩ = some (.iface 81 (.agg #[.pointer (some ⟨16, 25, none⟩)])) := by
    rw [World.cell?_alloc_lt _ _ ⟨0, 0, none⟩ (by simp), World.cell?_alloc_lt _ _ ⟨0, 0, none⟩ h0]; exact hg
  have htA : ((w.alloc (.cells #[.int .i64 0, .int .i64 0] 30)).alloc (.cells #[.pointer none] 40)).cell? ⟨w.heap.size + 1, 0, none⟩ = some (.pointer none) := by simp
  have hfA : ((w.alloc (.cells #[.int .i64 0, .int .i64 0] 30)).alloc (.cells #[.pointer none] 40)).frozen? ⟨w.heap.size + 1, 0, none⟩ = false := by simp
  go_enter Tryz.func8, Tryz.ntmps8
  go_wp2_with fail
  refine (as_fault _ _ (.pointer none) _ hgA htA hfA).mono ?_
  rintro ev w' ⟨rfl, hc, hb⟩
  have hb' : Below (w.heap.size + 1) ((w.alloc (.cells #[.int .i64 0, .int .i64 0] 30)).alloc (.cells #[.pointer none] 40)) w' := hb
  have e0 : w'.cell? ⟨f, 0, none⟩ = some (.int .i64 p) := by
    rw [hb'.cell (show f < w.heap.size + 1 by omega), World.cell?_alloc_lt _ _ ⟨f, 0, none⟩ (by simp; omega), World.cell?_alloc_lt _ _ ⟨f, 0, none⟩ hlt]; exact c0
  have e1 : w'.cell? ⟨f, 1, none⟩ = some (.int .i64 e) := by
    rw [hb'.cell (show f < w.heap.size + 1 by omega), World.cell?_alloc_lt _ _ ⟨f, 1, none⟩ (by simp; omega), World.cell?_alloc_lt _ _ ⟨f, 1, none⟩ hlt]; exact c1
  have hbk : w'.heap[w.heap.size]? = some (.cells #[.int .i64 0, .int .i64 0] 30 (0, 0)) := by
    rw [hb'.block _ (Nat.lt_succ_self _)]
    exact block_alloc (block_new _ _ rfl) _
  have hB : Below w.heap.size w w' := by
    refine Below.trans ?_ (hb'.mono (Nat.le_succ _))
    (repeat' (first | (with_reducible exact Below.refl _ _) | (with_reducible assumption) | (with_reducible refine below_drewN ?_ _) | (with_reducible refine Below.drew ?_) | (with_reducible refine Below.alloc ?_ ?_ _) | (with_reducible refine Below.setCell ?_ ?_ _) | omega | (simp; done) | (simp; omega)))
  have r0 : w'.cell? ⟨w.heap.size, 0, none⟩ = some (.int .i64 0) := by simp [World.cell?, hbk]
  have r1 : w'.cell? ⟨w.heap.size, 1, none⟩ = some (.int .i64 0) := by simp [World.cell?, hbk]
  have q0 : w'.frozen? ⟨w.heap.size, 0, none⟩ = false := by simp [World.frozen?, hbk]
  have q1 : w'.frozen? ⟨w.heap.size, 1, none⟩ = false := by simp [World.frozen?, hbk]
  have hne : w.heap.size < w'.heap.size := by
    rcases Nat.lt_or_ge w.heap.size w'.heap.size with h | h
    · exact h
    · rw [Array.getElem?_eq_none h] at hbk; cases hbk
  clear hb hb' hgA htA hfA
  go_wp2_with fail
  have hrow : ((w'.setCell ⟨w.heap.size, 0, none⟩ (.int .i64 p)).setCell ⟨w.heap.size, 1, none⟩ (.int .i64 e)).heap[w.heap.size]? = some (.cells #[.int .i64 p, .int .i64 e] 30 (0, 0)) := by
    have h1 := block_set (i := 1) (block_set (i := 0) hbk (.int .i64 p)) (.int .i64 e)
    exact h1
  refine bodyPost_ret (results_cell_row rfl _ _ w.heap.size 30 _ (0, 0) _ rfl hrow Tryz.underlying30 rfl (by kernel_rfl)) rfl ?_
  exact ⟨rfl, (by (repeat' (first | (with_reducible exact Below.refl _ _) | (with_reducible assumption) | (with_reducible refine below_drewN ?_ _) | (with_reducible refine Below.drew ?_) | (with_reducible refine Below.alloc ?_ ?_ _) | (with_reducible refine Below.setCell ?_ ?_ _) | omega | (simp; done) | (simp; omega))))⟩
end Go.Proofs.YtnhdedoobagbbaaGreatDoor
