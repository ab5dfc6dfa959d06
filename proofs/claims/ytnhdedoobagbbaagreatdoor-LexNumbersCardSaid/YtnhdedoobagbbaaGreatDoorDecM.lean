/- A decimal of many digits, as it lies in memory. -/
import Derived.Test.YtnhdedoobagbbaaGreatDoorDecF
import Derived.Test.YtnhdedoobagbbaaGreatDoorMem
namespace Go.Proofs.YtnhdedoobagbbaaGreatDoor
open Go.RowKit

/-- Block g holds the decimal D. -/
def DB (w : World) (g : Nat) (D : Dc) : Prop := ∃ cs : Array Value, w.heap[g]? = some (.cells cs 137 (0, 0)) ∧ cs.size = 804 ∧
  (∀ i : Nat, i < 800 → cs[i]? = some (.int .u8 (D.d i : Nat))) ∧ cs[800]? = some (.int .i64 (D.nd : Nat)) ∧ cs[801]? = some (.int .i64 D.dp) ∧ cs[802]? = some (.bool D.neg) ∧ cs[803]? = some (.bool D.tr)
section
variable {w : World} {g : Nat} {D : Dc}
theorem DB.cell_d (h : DB w g D) {i : Nat} (hi : i < 800) : w.cell? ⟨g, i, none⟩ = some (.int .u8 (D.d i : Nat)) := by
  obtain ⟨cs, h1, _, h2, _⟩ := h
  exact block_cell h1 (h2 i hi)
theorem DB.cell_nd (h : DB w g D) : w.cell? ⟨g, 800, none⟩ = some (.int .i64 (D.nd : Nat)) := by
  obtain ⟨cs, h1, _, _, h2, _⟩ := h
  exact block_cell h1 h2
theorem DB.cell_dp (h : DB w g D) : w.cell? ⟨g, 801, none⟩ = some (.int .i64 D.dp) := by
  obtain ⟨cs, h1, _, _, _, h2, _⟩ := h
  exact block_cell h1 h2
theorem DB.cell_neg (h : DB w g D) : w.cell? ⟨g, 802, none⟩ = some (.bool D.neg) := by
  obtain ⟨cs, h1, _, _, _, _, h2, _⟩ := h
  exact block_cell h1 h2
theorem DB.cell_tr (h : DB w g D) : w.cell? ⟨g, 803, none⟩ = some (.bool D.tr) := by
  obtain ⟨cs, h1, _, _, _, _, _, h2⟩ := h
  exact block_cell h1 h2
theorem DB.free (h : DB w g D) (i : Nat) : w.frozen? ⟨g, i, none⟩ = false := by
  obtain ⟨cs, h1, _⟩ := h
  exact block_free h1
theorem DB.lt (h : DB w g D) : g < w.heap.size := by
  obtain ⟨cs, h1, _⟩ := h
  exact block_lt h1
theorem DB.keep {w' : World} (h : DB w g D) (hb : Below w.heap.size w w') : DB w' g D := by
  obtain ⟨cs, h1, h2⟩ := h
  exact ⟨cs, block_below h1 hb, h2⟩
theorem DB.drewN (h : DB w g D) (n : Nat) : DB (w.drewN n) g D := h
theorem DB.set_d (h : DB w g D) {i : Nat} (hi : i < 800) (v : Nat) : DB (w.setCell ⟨g, i, none⟩ (.int .u8 (v : Nat))) g { D with d := upd D.d i v } := by
  obtain ⟨cs, h1, hs, h2, h3, h4, h5, h6⟩ := h
  refine ⟨cs.setIfInBounds i (.int .u8 (v : Nat)), block_set h1 _, by simpa using hs, fun j hj => ?_, ?_, ?_, ?_, ?_⟩
  · by_cases e : i = j
    · subst e
      rw [Array.getElem?_setIfInBounds_self_of_lt (by omega)]
      show _ = some (Value.int .u8 (upd D.d i v i : Nat))
      rw [upd_same]
    · rw [Array.getElem?_setIfInBounds_ne e]
      show _ = some (Value.int .u8 (upd D.d i v j : Nat))
      rw [upd_ne (fun e' => e e'.symm)]
      exact h2 j hj
  all_goals (rw [Array.getElem?_setIfInBounds_ne (by omega)]; assumption)
theorem DB.set_nd (h : DB w g D) (n : Nat) : DB (w.setCell ⟨g, 800, none⟩ (.int .i64 (n : Nat))) g { D with nd := n } := by
  obtain ⟨cs, h1, hs, h2, h3, h4, h5, h6⟩ := h
  refine ⟨cs.setIfInBounds 800 _, block_set h1 _, by simpa using hs, fun j hj => ?_, ?_, ?_, ?_, ?_⟩
  · rw [Array.getElem?_setIfInBounds_ne (by omega)]; exact h2 j hj
  · rw [Array.getElem?_setIfInBounds_self_of_lt (by omega)]
  all_goals (rw [Array.getElem?_setIfInBounds_ne (by omega)]; assumption)
theorem DB.set_dp (h : DB w g D) (n : Int) : DB (w.setCell ⟨g, 801, none⟩ (.int .i64 n)) g { D with dp := n } := by
  obtain ⟨cs, h1, hs, h2, h3, h4, h5, h6⟩ := h
  refine ⟨cs.setIfInBounds 801 _, block_set h1 _, by simpa using hs, fun j hj => ?_, ?_, ?_, ?_, ?_⟩
  · rw [Array.getElem?_setIfInBounds_ne (by omega)]; exact h2 j hj
  · rw [Array.getElem?_setIfInBounds_ne (by omega)]; exact h3
  · rw [Array.getElem?_setIfInBounds_self_of_lt (by omega)]
  all_goals (rw [Array.getElem?_setIfInBounds_ne (by omega)]; assumption)
theorem DB.set_neg (h : DB w g D) (b : Bool) : DB (w.setCell ⟨g, 802, none⟩ (.bool b)) g { D with neg := b } := by
  obtain ⟨cs, h1, hs, h2, h3, h4, h5, h6⟩ := h
  refine ⟨cs.setIfInBounds 802 _, block_set h1 _, by simpa using hs, fun j hj => ?_, ?_, ?_, ?_, ?_⟩
  · rw [Array.getElem?_setIfInBounds_ne (by omega)]; exact h2 j hj
  · rw [Array.getElem?_setIfInBounds_ne (by omega)]; exact h3
  · rw [Array.getElem?_setIfInBounds_ne (by omega)]; exact h4
  · rw [Array.getElem?_setIfInBounds_self_of_lt (by omega)]
  · rw [Array.getElem?_setIfInBounds_ne (by omega)]; exact h6
theorem DB.set_tr (h : DB w g D) (b : Bool) : DB (w.setCell ⟨g, 803, none⟩ (.bool b)) g { D with tr := b } := by
  obtain ⟨cs, h1, hs, h2, h3, h4, h5, h6⟩ := h
  refine ⟨cs.setIfInBounds 803 _, block_set h1 _, by simpa using hs, fun j hj => ?_, ?_, ?_, ?_, ?_⟩
  · rw [Array.getElem?_setIfInBounds_ne (by omega)]; exact h2 j hj
  · rw [Array.getElem?_setIfInBounds_ne (by omega)]; exact h3
  · rw [Array.getElem?_setIfInBounds_ne (by omega)]; exact h4
  · rw [Array.getElem?_setIfInBounds_ne (by omega)]; exact h5
  · rw [Array.getElem?_setIfInBounds_self_of_lt (by omega)]
end
end Go.Proofs.YtnhdedoobagbbaaGreatDoor
