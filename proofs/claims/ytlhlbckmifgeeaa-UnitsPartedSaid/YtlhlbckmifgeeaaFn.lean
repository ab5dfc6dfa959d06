/- slices.IndexFunc and slices.ContainsFunc at strings, of any predicate that turns nothing that was there. -/
import Derived.Test.YtlhlbckmifgeeaaRef1
import Derived.Shelf.Abstract
import Derived.Lib.Walk
namespace Go.Proofs.Ytlhlbckmifgeeaa
open Go.RowKit Go.Shelf

/-- A function value that tells p of each of the strings, wherever it is asked. -/
def PredS (g : Nat) (lb : Array Value) (w : World) (ss : List ByteArray) (p : ByteArray → Bool) : Prop :=
  ∀ s, s ∈ ss → ∀ W, Below w.heap.size w W → Calls Try.prog g (#[.string s] ++ lb) W fun e w' => e = .returned (.bool (p s)) ∧ Below W.heap.size W w'

def idxP (p : ByteArray → Bool) (ss : List ByteArray) : Int := match ss.findIdx? p with | some k => k | none => -1
theorem idxP_some {p : ByteArray → Bool} {ss : List ByteArray} {k : Nat} {s : ByteArray} (hk : ss[k]? = some s) (he : p s = true) (hb : ∀ (j : Nat) (x : ByteArray), j < k → ss[j]? = some x → p x = false) : idxP p ss = k := by
  have : ss.findIdx? p = some k := by
    obtain ⟨hlt, hx⟩ := List.getElem?_eq_some_iff.1 hk
    rw [List.findIdx?_eq_some_iff_getElem]
    refine ⟨hlt, by rw [hx]; exact he, fun j hj => ?_⟩
    have := hb j (ss[j]'(by omega)) hj (List.getElem?_eq_getElem (by omega))
    simpa using this
  unfold idxP; rw [this]
theorem idxP_none {p : ByteArray → Bool} {ss : List ByteArray} (hb : ∀ (j : Nat) (x : ByteArray), ss[j]? = some x → p x = false) : idxP p ss = -1 := by
  have : ss.findIdx? p = none := by
    rw [List.findIdx?_eq_none_iff]
    intro x hx
    obtain ⟨j, hj⟩ := List.getElem?_of_mem hx
    exact hb j x hj
  unfold idxP; rw [this]
theorem idxP_any (p : ByteArray → Bool) (ss : List ByteArray) : decide (0 ≤ idxP p ss) = ss.any p := by
  unfold idxP
  cases h : ss.findIdx? p with
  | none =>
    rw [List.findIdx?_eq_none_iff] at h
    have : ss.any p = false := by rw [List.any_eq_false]; intro x hx; simp [h x hx]
    rw [this]; rfl
  | some k =>
    rw [List.findIdx?_eq_some_iff_getElem] at h
    have : ss.any p = true := by rw [List.any_eq_true]; exact ⟨_, List.getElem_mem h.1, h.2.1⟩
    rw [this]; simp

def PTo (p : ByteArray → Bool) (ss : List ByteArray) (k : Nat) : Prop := ∀ (j : Nat) (x : ByteArray), j < k → ss[j]? = some x → p x = false
theorem PTo.step {p : ByteArray → Bool} {ss : List ByteArray} {k : Nat} {s : ByteArray} (h : PTo p ss k) (hs : ss[k]? = some s) (he : p s = false) : PTo p ss (k + 1) := by
  intro j x hj hx
  by_cases hjk : j < k
  · exact h j x hjk hx
  · obtain rfl : j = k := by omega
    rw [hs] at hx; cases hx; exact he

set_option maxHeartbeats 400000 in
theorem indexFunc_any {g : Nat} {lb : Array Value} {v : Value} {ss : List ByteArray} {w : World} {q : Nat → Prop} {p : ByteArray → Bool} (eg : Enters Try.prog g) (h1 : SLP q w v ss) (hp : PredS g lb w ss p) :
    Calls Try.prog 24 #[v, .func (.func g) #[] lb] w fun e w' => e = .returned (.int .i64 (idxP p ss)) ∧ Below w.heap.size w w' := by
  obtain ⟨a, cap, rfl, _, hm, hc⟩ := h1
  generalize hn : ss.length = n at *
  have HN := Lib.hid hn
  have HC := Lib.hid hc
  have HP := Lib.hid hp
  have eg' : ∀ (args : Array Value) (w : World), (callFunc g args).run Try.prog w = .ok (.enter g args) w := eg
  clear hn hc hp
  go_enter Try.func24, Try.ntmps24
  go_wp2
  go_loopw [5, 8] (fun _ i wr => ∃ k : Nat, k ≤ n ∧ i = .int .i64 k ∧ Below w.heap.size w wr ∧ PTo p ss k) (fun _ i _ => n - (intOf i).toNat)
  case atStart => exact ⟨0, Nat.zero_le _, rfl, Below.refl _ _, fun _ _ hj => absurd hj (Nat.not_lt_zero _)⟩
  case round =>
    obtain ⟨k, hk, rfl, hb, hto⟩ := hrel
    by_cases hlt : k < n
    · obtain ⟨s, hs⟩ := get_lt ss (k := k) (by have := HN.out; omega)
      obtain ⟨b, off, rfl, hcell, _, _⟩ := HC.out k _ hs
      have hcell := cell_keeps hb hcell
      have hcall := Lib.hid (HP.out s (List.mem_of_getElem? hs) wr hb)
      have HS := Lib.hid hs
      clear hs
      cases hps : p s
      · have HPS := Lib.hid hps
        clear hps
        go_wp2_with (go_at_fn g; refine hcall.out.mono ?_; rw [HPS.out]; rintro e w1 ⟨rfl, hb1⟩)
        go_roundw
        case rel => exact ⟨k + 1, by omega, by go_num, hb.trans (hb1.mono hb.size), hto.step HS.out HPS.out⟩
        case measure => simp [intOf]; omega
      · have HPS := Lib.hid hps
        clear hps
        go_wp2_with (go_at_fn g; refine hcall.out.mono ?_; rw [HPS.out]; rintro e w1 ⟨rfl, hb1⟩)
        go_ret
        exact ⟨ret_int (idxP_some HS.out HPS.out hto).symm, hb.trans (hb1.mono hb.size)⟩
    · obtain rfl : k = n := by omega
      go_wp2
      go_ret
      exact ⟨ret_int (idxP_none (fun j x hx => hto j x (by have := (List.getElem?_eq_some_iff.1 hx).1; rw [HN.out] at this; exact this) hx)).symm, hb⟩

set_option maxHeartbeats 400000 in
theorem containsFunc_any {g : Nat} {lb : Array Value} {v : Value} {ss : List ByteArray} {w : World} {q : Nat → Prop} {p : ByteArray → Bool} (eg : Enters Try.prog g) (h1 : SLP q w v ss) (hp : PredS g lb w ss p) :
    Calls Try.prog 22 #[v, .func (.func g) #[] lb] w fun e w' => e = .returned (.bool (ss.any p)) ∧ Below w.heap.size w w' := by
  have HP := Lib.hid hp
  have h1' := h1
  obtain ⟨a, cap, rfl, _, hm, hc⟩ := h1'
  clear hp hc
  rw [← idxP_any]
  generalize hr : idxP p ss = r
  have HR := Lib.hid hr
  clear hr
  go_enter Try.func22, Try.ntmps22
  go_wp2_with fail
  refine (indexFunc_any eg h1 HP.out).mono ?_
  rw [HR.out]
  rintro e w1 ⟨rfl, hb1⟩
  go_wp2_with fail
  go_ret
  exact ⟨rfl, hb1⟩
end Go.Proofs.Ytlhlbckmifgeeaa
