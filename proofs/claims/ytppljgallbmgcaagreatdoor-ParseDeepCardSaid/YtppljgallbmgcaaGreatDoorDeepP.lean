/- How deep a text may go: each of the texts. -/
import Derived.Test.YtppljgallbmgcaaGreatDoorGc
namespace Go.Proofs.YtppljgallbmgcaaGreatDoor
open Go.RowKit
def dpO (w : Nat) : List UInt8 := if w = 0 then [40] else if w = 1 then [91] else if w = 2 then [33] else [45]
def dpS (w : Nat) : List UInt8 := if w = 0 then [41] else if w = 1 then [93] else []
def dpR (c : List UInt8) (n : Nat) : List UInt8 := (List.replicate n c).flatten
def dpT (w n : Nat) : ByteArray := ⟨(dpR (dpO w) n ++ [97] ++ dpR (dpS w) n).toArray⟩
def dpQ (r : Except Er (List Nd)) (w n : Nat) : Bool := match r with
  | .ok l => decide (n ≤ 31) && (l.length == if w = 0 then 1 else n + 1)
  | .error (p, e) => decide (31 < n) && (p == (if w = 0 then 32 else 31)) && (e == 9)
set_option maxRecDepth 100000
theorem dp0 (pf : ByteArray → Nat) : ((List.range 70).all fun n => dpQ (parseP pf (dpT 0 n)) 0 n) = true := by kernel_rfl
theorem dp1 (pf : ByteArray → Nat) : ((List.range 70).all fun n => dpQ (parseP pf (dpT 1 n)) 1 n) = true := by kernel_rfl
theorem dp2 (pf : ByteArray → Nat) : ((List.range 70).all fun n => dpQ (parseP pf (dpT 2 n)) 2 n) = true := by kernel_rfl
theorem dp3 (pf : ByteArray → Nat) : ((List.range 70).all fun n => dpQ (parseP pf (dpT 3 n)) 3 n) = true := by kernel_rfl
theorem dp_all (pf : ByteArray → Nat) {w n : Nat} (hw : w < 4) (hn : n < 70) : dpQ (parseP pf (dpT w n)) w n = true := by
  have hm : n ∈ List.range 70 := List.mem_range.2 hn
  rcases (show w = 0 ∨ w = 1 ∨ w = 2 ∨ w = 3 by omega) with rfl | rfl | rfl | rfl
  · exact List.all_eq_true.1 (dp0 pf) n hm
  · exact List.all_eq_true.1 (dp1 pf) n hm
  · exact List.all_eq_true.1 (dp2 pf) n hm
  · exact List.all_eq_true.1 (dp3 pf) n hm
theorem dp_ok (pf : ByteArray → Nat) {w n : Nat} (hw : w < 4) (hn : n ≤ 31) : ∃ l, parseP pf (dpT w n) = .ok l ∧ l.length = if w = 0 then 1 else n + 1 := by
  have h := dp_all pf hw (show n < 70 by omega)
  unfold dpQ at h
  split at h
  · rename_i l hl
    rw [Bool.and_eq_true, beq_iff_eq] at h
    exact ⟨l, hl, h.2⟩
  · rw [Bool.and_eq_true, Bool.and_eq_true, decide_eq_true_eq] at h
    omega
theorem dp_err (pf : ByteArray → Nat) {w n : Nat} (hw : w < 4) (hn : 31 < n) (h70 : n < 70) : parseP pf (dpT w n) = .error (if w = 0 then 32 else 31, 9) := by
  have h := dp_all pf hw h70
  unfold dpQ at h
  split at h
  · rw [Bool.and_eq_true, decide_eq_true_eq] at h
    omega
  · rename_i p e hl
    rw [Bool.and_eq_true, Bool.and_eq_true, decide_eq_true_eq, beq_iff_eq, beq_iff_eq] at h
    obtain ⟨⟨_, rfl⟩, rfl⟩ := h
    exact hl
theorem dpR_succ (c : List UInt8) (n : Nat) : dpR c (n + 1) = dpR c n ++ c := by simp [dpR, List.replicate_succ']
theorem dpR_len (c : List UInt8) (n : Nat) (h : c.length ≤ 1) : (dpR c n).length ≤ n := by
  induction n with
  | zero => simp [dpR]
  | succ n ih => rw [dpR_succ]; simp; omega
end Go.Proofs.YtppljgallbmgcaaGreatDoor
