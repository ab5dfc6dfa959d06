/- slices.Sort and slices.Delete at a list of strings of the call's own. -/
import Derived.Test.YtlhlbckmifgeeaaShelf
import Derived.Test.YtlhlbckmifgeeaaClone
import Derived.Sort.OwnSorted
import Derived.Lib.OwnBridge
namespace Go.Proofs.Ytlhlbckmifgeeaa
open Go.RowKit Go.Sort

def bytesOf (ss : List ByteArray) : List (List UInt8) := ss.map (·.data.toList)
def ofBytes (ls : List (List UInt8)) : List ByteArray := ls.map fun l => ⟨l.toArray⟩
theorem ofBytes_bytesOf (ss : List ByteArray) : ofBytes (bytesOf ss) = ss := by
  unfold ofBytes bytesOf
  rw [List.map_map]
  conv => rhs; rw [← List.map_id ss]
  apply List.map_congr_left
  intro x _
  simp
theorem bytesOf_ofBytes (ls : List (List UInt8)) : bytesOf (ofBytes ls) = ls := by
  unfold ofBytes bytesOf
  rw [List.map_map]
  conv => rhs; rw [← List.map_id ls]
  apply List.map_congr_left
  intro x _
  simp
theorem enc_bytesOf (ss : List ByteArray) : (bytesOf ss).map encStr = ss.map Value.string := Lib.map_encStr ss
theorem enc_ofBytes (ls : List (List UInt8)) : ls.map encStr = (ofBytes ls).map Value.string := by
  rw [← enc_bytesOf, bytesOf_ofBytes]

/-- The strings in rising order. -/
def sortS (ss : List ByteArray) : List ByteArray := ofBytes ((bytesOf ss).mergeSort fun x y => decide (x ≤ y))
theorem sortS_perm (ss : List ByteArray) : (sortS ss).Perm ss := by
  have h := (List.mergeSort_perm (bytesOf ss) (fun x y => decide (x ≤ y))).map (fun l => (⟨l.toArray⟩ : ByteArray))
  have e : (bytesOf ss).map (fun l => (⟨l.toArray⟩ : ByteArray)) = ss := ofBytes_bytesOf ss
  rw [e] at h
  exact h
theorem sortS_length (ss : List ByteArray) : (sortS ss).length = ss.length := (sortS_perm ss).length_eq

theorem own_block_form {w : World} {base n : Nat} {v : Value} {xs : List Value} {e : TypeId} {size : Nat} (h : w.ownsRow base e size v n xs) : (v = .slice none 0 0 ∧ n = 0 ∧ xs = []) ∨ ∃ g cap, v = .slice (some ⟨g, 0, none⟩) n cap := by
  obtain ⟨hl, h⟩ := h
  rcases h with ⟨h1, h2⟩ | ⟨g, cap, _, h, _⟩
  · exact Or.inl ⟨h1, h2, by subst h2; simpa using hl⟩
  · exact Or.inr ⟨g, cap, h⟩

theorem sort_own {base : Nat} {v : Value} {ss : List ByteArray} {w : World} (h : OS base w v ss) (hl : ss.length ≤ 8796093022208) :
    Calls Try.prog 20 #[v] w fun e w' => e = .returned (.tuple #[]) ∧ OS base w' v (sortS ss) ∧ w.grownBy w' v.ownBlock := by
  rcases own_block_form h with ⟨rfl, h0, _⟩ | ⟨g, cap, rfl⟩
  · have : ss = [] := List.eq_nil_of_length_eq_zero h0
    subst this
    refine (Try.slices_Sort_string_none none 0 w).mono ?_
    rintro e w' ⟨rfl, rfl⟩
    exact ⟨rfl, by rw [show sortS [] = [] from List.eq_nil_of_length_eq_zero (by rw [sortS_length]; rfl)]; exact h, ⟨rfl, rfl, rfl, Nat.le_refl _, fun _ _ _ => rfl⟩⟩
  · have h' : w.ownsRow base 9 1 (.slice (some ⟨g, 0, none⟩) (bytesOf ss).length cap) (bytesOf ss).length ((bytesOf ss).map encStr) := by
      rw [enc_bytesOf]
      simpa [OS, bytesOf] using h
    obtain ⟨_, _, hv, hb, hlt, hn, hm, hlen, hH⟩ := Lib.holds_of_ownsRow h' (by intro e; cases e)
    simp at hv
    obtain ⟨rfl, rfl⟩ := hv
    have hc := Try.slices_Sort_string g 0 cap (bytesOf ss) w hH hlt (by simp [bytesOf]; omega)
    have el : (bytesOf ss).length = ss.length := by simp [bytesOf]
    rw [el] at hc
    refine hc.mono ?_
    rintro e w' ⟨rfl, n, os, rfl⟩
    refine ⟨rfl, ?_, grownBy_sorted _⟩
    rcases h.2 with ⟨h1, _⟩ | ⟨g', cap', cur, h1, h2, h3, h4, h5, h6, h7⟩
    · cases h1
    · simp at h1
      obtain ⟨rfl, rfl⟩ := h1
      have := ownsRow_sorted (n := n) (os := os) (e := 9) (ss := bytesOf ss) (ts := (bytesOf ss).mergeSort fun x y => decide (x ≤ y)) (by simp) h2 h3 (by rw [el]; exact h4) h5 h6
      rw [el, enc_ofBytes] at this
      unfold OS
      rw [sortS_length]
      exact this

theorem delete_own {base : Nat} {v : Value} {ss : List ByteArray} {w : World} {i : Nat} (h : OS base w v ss) (hi : i < ss.length) :
    Calls Try.prog 27 #[v, .int .i64 i, .int .i64 (i + 1)] w fun e w' => ∃ v', e = .returned v' ∧ OS base w' v' (ss.eraseIdx i) ∧ w.grownBy w' v.ownBlock ∧ v'.ownBlock = v.ownBlock := by
  rcases own_block_form h with ⟨rfl, h0, _⟩ | ⟨g, cap, rfl⟩
  · omega
  · have el : (bytesOf ss).length = ss.length := by simp [bytesOf]
    have h' : w.ownsRow base 9 1 (.slice (some ⟨g, 0, none⟩) (bytesOf ss).length cap) (bytesOf ss).length ((bytesOf ss).map encStr) := by
      rw [enc_bytesOf, el]
      exact h
    obtain ⟨_, _, hv, hb, hlt, hn, hm, hlen, hH⟩ := Lib.holds_of_ownsRow h' (by intro e; cases e)
    simp at hv
    obtain ⟨rfl, rfl⟩ := hv
    have hc := Try.slices_Delete_string g 0 cap i (i + 1) (bytesOf ss) w hH hn (by unfold maxLen at hm; omega) (by omega) (by omega)
    rw [el] at hc
    refine hc.mono ?_
    rintro e w' ⟨rfl, q, rfl⟩
    refine ⟨_, rfl, ?_, ⟨rfl, rfl, rfl, by simp [putRow, mapBlock, Sort.ahead], fun k hk hne => ?_⟩, rfl⟩
    · have ht : ((bytesOf ss).take i ++ (bytesOf ss).drop (i + 1) ++ List.replicate (i + 1 - i) []).take (ss.length - 1) = bytesOf (ss.eraseIdx i) := by
        have e1 : (bytesOf ss).take i ++ (bytesOf ss).drop (i + 1) = bytesOf (ss.eraseIdx i) := by
          rw [List.eraseIdx_eq_take_drop_succ]; simp [bytesOf]
        rw [e1]
        have e2 : (bytesOf (ss.eraseIdx i)).length = ss.length - 1 := by simp [bytesOf, List.length_eraseIdx, hi]
        rw [← e2, List.take_left]
      have := Lib.ownsRow_putRow (q := q) (k := ss.length - 1) (ys := (bytesOf ss).take i ++ (bytesOf ss).drop (i + 1) ++ List.replicate (i + 1 - i) []) h' (by simp [el]; omega) (by omega)
      rw [ht, enc_bytesOf] at this
      unfold OS
      have e3 : (ss.eraseIdx i).length = ss.length - 1 := by simp [List.length_eraseIdx, hi]
      rw [e3, show ss.length - (i + 1 - i) = ss.length - 1 by omega]
      exact this
    · simp [putRow, mapBlock, Sort.ahead, Array.getElem?_modify, show g ≠ k from fun e => hne (by rw [e]; rfl)]
end Go.Proofs.Ytlhlbckmifgeeaa
