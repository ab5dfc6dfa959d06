/- The place of a unit by its name, as the program finds it; whether two are the same; what is gone. -/
import Derived.Test.YtlhlbckmifgeeaaShelf
import Derived.Test.YtlhlbckmifgeeaaFn
import Derived.Test.YtlhlbckmifgeeaaMap
import Derived.Test.YtlhlbckmifgeeaaOwn
import Derived.Test.YtlhlbckmifgeeaaDiffP
namespace Go.Proofs.Ytlhlbckmifgeeaa
open Go.RowKit Go.Shelf

def PredU (g : Nat) (lb : Array Value) (w : World) (us : List U) (p : U → Bool) : Prop :=
  ∀ u, u ∈ us → ∀ W v, Below w.heap.size w W → UV W v u → Calls Try.prog g (#[v] ++ lb) W fun e w' => e = .returned (.bool (p u)) ∧ Below W.heap.size W w'
def idxU (p : U → Bool) (us : List U) : Int := match us.findIdx? p with | some k => k | none => -1
theorem idxU_some {p : U → Bool} {us : List U} {k : Nat} {u : U} (hk : us[k]? = some u) (he : p u = true) (hb : ∀ (j : Nat) (x : U), j < k → us[j]? = some x → p x = false) : idxU p us = k := by
  have : us.findIdx? p = some k := by
    obtain ⟨hlt, hx⟩ := List.getElem?_eq_some_iff.1 hk
    rw [List.findIdx?_eq_some_iff_getElem]
    refine ⟨hlt, by rw [hx]; exact he, fun j hj => ?_⟩
    have := hb j (us[j]'(by omega)) hj (List.getElem?_eq_getElem (by omega))
    simpa using this
  unfold idxU; rw [this]
theorem idxU_none {p : U → Bool} {us : List U} (hb : ∀ (j : Nat) (x : U), us[j]? = some x → p x = false) : idxU p us = -1 := by
  have : us.findIdx? p = none := by
    rw [List.findIdx?_eq_none_iff]
    intro x hx
    obtain ⟨j, hj⟩ := List.getElem?_of_mem hx
    exact hb j x hj
  unfold idxU; rw [this]
def PTU (p : U → Bool) (us : List U) (k : Nat) : Prop := ∀ (j : Nat) (x : U), j < k → us[j]? = some x → p x = false
theorem PTU.step {p : U → Bool} {us : List U} {k : Nat} {u : U} (h : PTU p us k) (hs : us[k]? = some u) (he : p u = false) : PTU p us (k + 1) := by
  intro j x hj hx
  by_cases hjk : j < k
  · exact h j x hjk hx
  · obtain rfl : j = k := by omega
    rw [hs] at hx; cases hx; exact he
set_option maxHeartbeats 400000 in
theorem indexFuncU_any {g : Nat} {lb : Array Value} {v : Value} {us : List U} {w : World} {p : U → Bool} (eg : Enters Try.prog g) (h1 : UL w v us) (hp : PredU g lb w us p) :
    Calls Try.prog 36 #[v, .func (.func g) #[] lb] w fun e w' => e = .returned (.int .i64 (idxU p us)) ∧ Below w.heap.size w w' := by
  obtain ⟨a, cap, rfl, hm, hc⟩ := h1
  generalize hn : us.length = n at *
  have HN := Lib.hid hn
  have HC := Lib.hid hc
  have HP := Lib.hid hp
  have eg' : ∀ (args : Array Value) (w : World), (callFunc g args).run Try.prog w = .ok (.enter g args) w := eg
  clear hn hc hp
  go_enter Try.func36, Try.ntmps36
  go_wp2
  go_loopw [5, 8] (fun _ i wr => ∃ k : Nat, k ≤ n ∧ i = .int .i64 k ∧ Below w.heap.size w wr ∧ PTU p us k) (fun _ i _ => n - (intOf i).toNat)
  case atStart => exact ⟨0, Nat.zero_le _, rfl, Below.refl _ _, fun _ _ hj => absurd hj (Nat.not_lt_zero _)⟩
  case round =>
    obtain ⟨k, hk, rfl, hb, hto⟩ := hrel
    by_cases hlt : k < n
    · obtain ⟨u, hu⟩ := get_lt us (k := k) (by have := HN.out; omega)
      obtain ⟨b, off, rfl, huc, _⟩ := HC.out k _ hu
      have huc := UCP.keeps (w' := wr) (hb.mono (Nat.le_refl _)) huc
      obtain ⟨r, f, x2, x3, huv⟩ := huc.value
      obtain ⟨x0, x1, _⟩ := huc
      have hcall := Lib.hid (HP.out u (List.mem_of_getElem? hu) wr _ hb huv)
      have HU := Lib.hid hu
      clear hu huv
      cases hps : p u
      · have HPS := Lib.hid hps
        clear hps
        go_wp2_with (go_at_fn g; refine hcall.out.mono ?_; rw [HPS.out]; rintro e w1 ⟨rfl, hb1⟩)
        go_roundw
        case rel => exact ⟨k + 1, by omega, by go_num, hb.trans (hb1.mono hb.size), hto.step HU.out HPS.out⟩
        case measure => simp [intOf]; omega
      · have HPS := Lib.hid hps
        clear hps
        go_wp2_with (go_at_fn g; refine hcall.out.mono ?_; rw [HPS.out]; rintro e w1 ⟨rfl, hb1⟩)
        go_ret
        exact ⟨ret_int (idxU_some HU.out HPS.out hto).symm, hb.trans (hb1.mono hb.size)⟩
    · obtain rfl : k = n := by omega
      go_wp2
      go_ret
      exact ⟨ret_int (idxU_none (fun j x hx => hto j x (by have := (List.getElem?_eq_some_iff.1 hx).1; rw [HN.out] at this; exact this) hx)).symm, hb⟩
theorem entersI1 : Enters Try.prog 37 := enters_of Try.func37 (by kernel_rfl) rfl
theorem index1_any {u : U} {v : Value} {W : World} {B : Nat} {s : ByteArray} (hv : UV W v u) (hB : W.cell? ⟨B, 0, none⟩ = some (.string s)) :
    Calls Try.prog 37 #[v, .pointer (some ⟨B, 0, none⟩)] W fun e w' => e = .returned (.bool (u.name.toList == s.toList)) ∧ Below W.heap.size W w' := by
  obtain ⟨r, f, rfl, _⟩ := hv
  have hlt : B < W.heap.size := World.block_lt_of_cell? W _ hB
  have hB2 : (W.alloc (.cells #[.string u.name, .string u.start, r, f] 32)).cell? ⟨B, 0, none⟩ = some (.string s) := by
    rw [World.cell?_alloc_lt _ _ ⟨B, 0, none⟩ hlt]; exact hB
  go_enter Try.func37, Try.ntmps37
  go_wp2_with fail
  go_ret
  exact ⟨rfl, (Below.refl _ _).alloc (Nat.le_refl _) _⟩
set_option maxRecDepth 100000 in
theorem index_any {v : Value} {us : List U} {w : World} (h1 : UL w v us) (s : ByteArray) :
    Calls Try.prog 28 #[v, .string s] w fun e w' => e = .returned (.int .i64 (findI us s)) ∧ Below w.heap.size w w' := by
  have hb1 : Below w.heap.size w (w.alloc (.cells #[.string s] 9)) := (Below.refl _ _).alloc (Nat.le_refl _) _
  have HC := Lib.hid (indexFuncU_any (p := fun u => u.name.toList == s.toList) (g := 37) (lb := #[.pointer (some ⟨w.heap.size, 0, none⟩)]) (w := w.alloc (.cells #[.string s] 9)) entersI1 (h1.keeps hb1) (fun u _ W v hW hv => index1_any hv ((hW.cell (show w.heap.size < _ by simp)).trans (block_cell (i := 0) (block_new _ _ rfl) rfl))))
  obtain ⟨a, cap, rfl, _⟩ := h1
  go_enter Try.func28, Try.ntmps28
  go_wp2_with fail
  refine HC.out.mono ?_
  rintro e w2 ⟨rfl, hb2⟩
  go_wp2_with fail
  go_ret
  exact ⟨rfl, hb1.trans (hb2.mono hb1.size)⟩
end Go.Proofs.Ytlhlbckmifgeeaa
