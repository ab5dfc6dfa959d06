/- ValueInts: the statement that takes a number off again, in whatever order it draws. -/
import Derived.Test.YtdpnknlpkjablaaGreatDoorBase
import Derived.Test.YtdpnknlpkjablaaGreatDoorRegInv
namespace Go.Proofs.YtdpnknlpkjablaaGreatDoor
open Go.RowKit

def cellsV (k n : Int) : Array Value := #[.int .i64 k, .int .i64 n, .float .f64 0, .string ⟨#[]⟩, .slice none 0 0, .slice none 0 0]
def D7 : List Nat := [10, 11, 46, 47, 48, 49, 50, 51, 52]
def slot7 : Nat → Nat
  | 0 => 47 | 1 => 48 | 2 => 49 | 3 => 50 | 4 => 46 | 5 => 51 | 6 => 52 | 7 => 10 | _ => 11
def V7 (a b n : Int) : Nat → Value → Prop
  | 0, x => x = (.agg #[.int .i64 2, .int .i64 (n), .float .f64 0, .string ⟨#[]⟩, .slice none 0 0, .slice none 0 0])
  | 1, x => x = .int .i64 b
  | 2, x => x = (.agg #[.int .i64 2, .int .i64 (b), .float .f64 0, .string ⟨#[]⟩, .slice none 0 0, .slice none 0 0])
  | 3, x => x = .tuple #[(.agg #[.int .i64 2, .int .i64 (a), .float .f64 0, .string ⟨#[]⟩, .slice none 0 0, .slice none 0 0]), .int .i64 0]
  | 4, x => x = .tuple #[(.agg #[.int .i64 2, .int .i64 (a), .float .f64 0, .string ⟨#[]⟩, .slice none 0 0, .slice none 0 0]), .int .i64 0]
  | 5, x => x = (.agg #[.int .i64 2, .int .i64 (a), .float .f64 0, .string ⟨#[]⟩, .slice none 0 0, .slice none 0 0])
  | 6, x => x = .int .i64 0
  | 9, x => x = .int .i64 0
  | _, _ => True
def G7 (w0 : World) (X Y : Nat) (a : Int) (done : Bool) (x : Value) (w : World) : Prop :=
  ∃ g, x = .pointer (some ⟨g, 0, none⟩) ∧ g ≠ X ∧ g ≠ Y ∧ w0.heap.size ≤ g ∧ w.heap[g]? = some (.cells (if done = true then cellsV 2 a else cellsV 0 0) 27 (0, 0))
def I7 (a0 : Act) (w0 : World) (X Y : Nat) (a b n : Int) (L : Nat → Bool) (A : Act) (w : World) : Prop :=
  ∃ v, A = frameOf a0 D7 v ∧ Below w0.heap.size w0 w ∧ w.heap[X]? = some (.cells (cellsV 2 n) 27 (0, 0)) ∧ w.heap[Y]? = some (.cells (cellsV 2 n) 27 (0, 0)) ∧
    (∀ i, i < 10 → i ≠ 7 → i ≠ 8 → L i = true → V7 a b n i (v (slot7 i))) ∧ (L 7 = true → G7 w0 X Y a (L 8) (v 10) w) ∧ (L 7 = false → L 8 = false)
theorem slot7_inj {i j : Nat} (hi : i < 10) (hj : j < 10) (hi8 : i ≠ 8) (hj8 : j ≠ 8) (h : slot7 i = slot7 j) : i = j := by
  have : ∀ i j : Fin 10, i.val ≠ 8 → j.val ≠ 8 → slot7 i.val = slot7 j.val → i.val = j.val := by decide
  exact this ⟨i, hi⟩ ⟨j, hj⟩ hi8 hj8 h
theorem slot7_in (i : Nat) (hi : i < 10) : D7.contains (slot7 i) = true := by
  have : ∀ i : Fin 10, D7.contains (slot7 i.val) = true := by decide
  exact this ⟨i, hi⟩
theorem I7.put {a0 : Act} {w0 w w' : World} {X Y : Nat} {a b n : Int} {L : Nat → Bool} {v : Nat → Value} (hX : w.heap[X]? = some (.cells (cellsV 2 n) 27 (0, 0))) (hY : w.heap[Y]? = some (.cells (cellsV 2 n) 27 (0, 0)))
    (hv : ∀ i, i < 10 → i ≠ 7 → i ≠ 8 → L i = true → V7 a b n i (v (slot7 i))) (hG : L 7 = true → G7 w0 X Y a (L 8) (v 10) w) (h78 : L 7 = false → L 8 = false)
    {i : Nat} (hi : i < 10) (h7 : i ≠ 7) (h8 : i ≠ 8) {x : Value} (hb : Below w0.heap.size w0 w') (h : ∀ (g : Nat) (o : Obj), w.heap[g]? = some o → w'.heap[g]? = some o) (hx : V7 a b n i x) :
    I7 a0 w0 X Y a b n (fun j => L j || j == i) ((frameOf a0 D7 v).put (some (slot7 i)) x) w' := by
  refine ⟨_, frameOf_put (slot7_in i hi), hb, h _ _ hX, h _ _ hY, fun j hj hj7 hj8 hL => ?_, fun hL => ?_, fun hL => ?_⟩
  · by_cases e : slot7 j = slot7 i
    · obtain rfl := slot7_inj hj hi hj8 h8 e
      simpa using hx
    · have hji : (j == i) = false := by simp; intro h; exact e (by rw [h])
      simp only [hji, Bool.or_false] at hL
      rw [if_neg e]
      exact hv j hj hj7 hj8 hL
  · have e7 : (7 == i) = false := by simp; omega
    have e8 : (8 == i) = false := by simp; omega
    simp only [e7, Bool.or_false] at hL
    obtain ⟨g, h1, h2, h3, h4, h5⟩ := hG hL
    have e10 : ¬ 10 = slot7 i := fun e => h7 (slot7_inj (j := 7) hi (by decide) h8 (by decide) e.symm)
    refine ⟨g, ?_, h2, h3, h4, ?_⟩
    · rw [if_neg e10]; exact h1
    · simp only [e8, Bool.or_false]
      exact h _ _ h5
  · have e7 : (7 == i) = false := by simp; omega
    have e8 : (8 == i) = false := by simp; omega
    simp only [e7, e8, Bool.or_false] at hL ⊢
    exact h78 hL
theorem below_keep {w w' : World} (hb : Below w.heap.size w w') : ∀ (g : Nat) (o : Obj), w.heap[g]? = some o → w'.heap[g]? = some o := fun _ _ h => block_below h hb
end Go.Proofs.YtdpnknlpkjablaaGreatDoor
