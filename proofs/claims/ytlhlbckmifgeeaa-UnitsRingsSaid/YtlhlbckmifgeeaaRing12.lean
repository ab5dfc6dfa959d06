/- A unit of a ring, made in whatever order its statement draws: what the statement keeps. -/
import Derived.Test.YtlhlbckmifgeeaaRingsP
import Derived.Test.YtlhlbckmifgeeaaWaitP
import Derived.Deep.DeepCutAuto
import Derived.BigRegion
import Derived.IntWalk
import Derived.Laws.BytesArg
import Derived.Test.YtlhlbckmifgeeaaRegInv
namespace Go.Proofs.Ytlhlbckmifgeeaa
open Go.RowKit

/-- 'string(b)' of a slice of one byte. -/
noncomputable def conv1Rest (w : World) (b : Nat) : Result Value := (convert 34 9 (.slice (some ⟨b, 0, none⟩) 1 1)).run Try.prog w
noncomputable def conv1 (w : World) (b : Nat) : Option Value → Result Value
  | some (.int .u8 z) => .ok (.string ⟨#[UInt8.ofNat z.toNat]⟩) w
  | _ => conv1Rest w b
theorem run_conv1 (w : World) (b : Nat) : (convert 34 9 (.slice (some ⟨b, 0, none⟩) 1 1)).run Try.prog w = conv1 w b (w.cell? ⟨b, 0, none⟩) := by
  unfold conv1
  split
  · rename_i z h
    rw [run_convert_bytes_arg w 34 5 Try.underlying34 Try.underlying5 b 0 1 1 [z] rfl (fun i hi => by
      obtain rfl : i = 0 := by omega
      simpa using h) 9 Try.underlying9]
    simp [strOfNums]
  · rfl
theorem conv1_some (w : World) (b : Nat) (z : Int) : conv1 w b (some (.int .u8 z)) = .ok (.string ⟨#[UInt8.ofNat z.toNat]⟩) w := rfl
attribute [local go_sem] run_conv1 conv1_some
theorem rn_1 (k : Nat) : (⟨#[114]⟩ ++ ⟨#[97 + UInt8.ofNat k]⟩ : ByteArray) = rn k := by
  unfold rn
  rw [Nat.toUInt8_eq, UInt8.ofNat_add]
  rfl
theorem an_1 (k : Nat) : (⟨#[97]⟩ ++ ⟨#[97 + UInt8.ofNat k]⟩ : ByteArray) = an k := by
  unfold an
  rw [Nat.toUInt8_eq, UInt8.ofNat_add]
  rfl
theorem rn_2 {k n : Nat} (h1 : k < n) (h2 : n ≤ 12) : (⟨#[114]⟩ ++ ⟨#[UInt8.ofNat (wrap64 (97 + ((k : Int) + 1) % (n : Int)) % 256).toNat]⟩ : ByteArray) = rn ((k + 1) % n) := by
  have hm : (k + 1) % n < n := Nat.mod_lt _ (by omega)
  have e : ((k : Int) + 1) % (n : Int) = (((k + 1) % n : Nat) : Int) := by simp
  rw [e, ← rn_1]
  generalize (k + 1) % n = m at hm
  have : wrap64 (97 + (m : Int)) % 256 = ((97 + m : Nat) : Int) := by
    unfold wrap64
    omega
  rw [this, Int.toNat_natCast, UInt8.ofNat_add]
  rfl


theorem ofNat_97 (m : Nat) : UInt8.ofNat (97 + (m : Int)).toNat = 97 + UInt8.ofNat m := by
  rw [show (97 + (m : Int)).toNat = 97 + m by omega, UInt8.ofNat_add]
  rfl
/-! The statement that makes a unit of a ring: the slots that it writes, and what each holds once it is written. -/
def D12 : List Nat := [10, 38, 39, 40, 41, 42, 43, 44, 45, 46, 47, 48, 49, 50, 51, 52, 53, 54]
def slot12 (i : Nat) : Nat := if i = 17 then 10 else 38 + i
def V12 (k m n base : Nat) (w : World) : Nat → Value → Prop
  | 0, x => x = .int .i64 k
  | 1, x => x = .int .i64 ((97 + k : Nat) : Int)
  | 2, x => x = .int .u8 ((97 + k : Nat) : Int)
  | 3, x => ∃ b, x = .slice (some ⟨b, 0, none⟩) 1 1 ∧ w.heap[b]? = some (.cells #[.int .u8 ((97 + k : Nat) : Int)] 5 (0, 0))
  | 4, x => x = .string ⟨#[UInt8.ofNat (97 + k)]⟩
  | 5, x => x = .string (rn k)
  | 6, x => x = .int .i64 k
  | 7, x => x = .int .i64 ((k + 1 : Nat) : Int)
  | 8, x => x = .int .i64 n
  | 9, x => x = .int .i64 m
  | 10, x => x = .int .i64 ((97 + m : Nat) : Int)
  | 11, x => x = .int .u8 ((97 + m : Nat) : Int)
  | 12, x => ∃ b, x = .slice (some ⟨b, 0, none⟩) 1 1 ∧ w.heap[b]? = some (.cells #[.int .u8 ((97 + m : Nat) : Int)] 5 (0, 0))
  | 13, x => x = .string ⟨#[UInt8.ofNat (97 + m)]⟩
  | 14, x => x = .string (rn m)
  | 15, x => ∃ r, x = .slice (some ⟨r, 0, none⟩) 1 1 ∧ base ≤ r ∧ w.heap[r]? = some (.cells #[.string (rn m)] 9 (0, 0))
  | 16, x => ∃ r, x = .agg #[.string (rn k), .string ⟨#[]⟩, .slice none 0 0, .slice (some ⟨r, 0, none⟩) 1 1] ∧ base ≤ r ∧ w.heap[r]? = some (.cells #[.string (rn m)] 9 (0, 0))
  | 17, x => ∃ g, x = .pointer (some ⟨g, 0, none⟩) ∧ base ≤ g ∧ w.heap[g]? = some (.cells #[.string ⟨#[]⟩, .string ⟨#[]⟩, .slice none 0 0, .slice none 0 0] 32 (0, 0))
  | _, _ => True
theorem V12.keeps {k m n base : Nat} {w w' : World} (h : ∀ (b : Nat) (o : Obj), w.heap[b]? = some o → w'.heap[b]? = some o) {i : Nat} {x : Value} (hv : V12 k m n base w i x) : V12 k m n base w' i x := by
  unfold V12 at hv ⊢
  split at hv <;> first
    | exact hv
    | (obtain ⟨b, h1, h2⟩ := hv; exact ⟨b, h1, h _ _ h2⟩)
    | (obtain ⟨b, h1, h2, h3⟩ := hv; exact ⟨b, h1, h2, h _ _ h3⟩)
def End12 (k m : Nat) (w0 : World) (x : Value) (w : World) : Prop :=
  ∃ g r : Nat, x = .pointer (some ⟨g, 0, none⟩) ∧ w.heap[g]? = some (.cells #[.string (rn k), .string ⟨#[]⟩, .slice none 0 0, .slice (some ⟨r, 0, none⟩) 1 1] 32 (0, 0)) ∧ w.heap[r]? = some (.cells #[.string (rn m)] 9 (0, 0)) ∧ w0.heap.size ≤ g ∧ w0.heap.size ≤ r ∧ r ≠ g ∧ Below w0.heap.size w0 w
def I12 (a0 : Act) (w0 : World) (k m n : Nat) (L : Nat → Bool) (a : Act) (w : World) : Prop :=
  ∃ v, a = frameOf a0 D12 v ∧ ((L 18 = true ∧ (∀ i, i < 18 → L i = true) ∧ End12 k m w0 (v 10) w) ∨
    (L 18 = false ∧ Below w0.heap.size w0 w ∧ ∀ i, i < 18 → L i = true → V12 k m n w0.heap.size w i (v (slot12 i))))
theorem slot12_inj {i j : Nat} (hi : i < 18) (hj : j < 18) (h : slot12 i = slot12 j) : i = j := by
  unfold slot12 at h
  split at h <;> split at h <;> omega
theorem slot12_in {i : Nat} (hi : i < 18) : D12.contains (slot12 i) = true := by
  have : ∀ i : Fin 18, D12.contains (slot12 i.val) = true := by decide
  exact this ⟨i, hi⟩
theorem I12.put {a0 : Act} {w0 w w' : World} {k m n : Nat} {L : Nat → Bool} {v : Nat → Value} (h18 : L 18 = false) (hv : ∀ i, i < 18 → L i = true → V12 k m n w0.heap.size w i (v (slot12 i)))
    {i : Nat} (hi : i < 18) {x : Value} (hb : Below w0.heap.size w0 w') (h : ∀ (b : Nat) (o : Obj), w.heap[b]? = some o → w'.heap[b]? = some o) (hx : V12 k m n w0.heap.size w' i x) :
    I12 a0 w0 k m n (fun j => L j || j == i) ((frameOf a0 D12 v).put (some (slot12 i)) x) w' := by
  refine ⟨_, frameOf_put (slot12_in hi), Or.inr ⟨?_, hb, fun j hj hL => ?_⟩⟩
  · simp [h18]; omega
  · by_cases e : slot12 j = slot12 i
    · obtain rfl := slot12_inj hj hi e
      simpa using hx
    · have hji : (j == i) = false := by simp; intro h; exact e (by rw [h])
      simp only [hji, Bool.or_false] at hL
      rw [if_neg e]
      exact (hv j hj hL).keeps h
theorem rn_size (i : Nat) : (rn i).size ≤ maxLen := by unfold rn maxLen; simp [ByteArray.size]
theorem an_size (i : Nat) : (an i).size ≤ maxLen := by unfold an maxLen; simp [ByteArray.size]
theorem empty_size : (⟨#[]⟩ : ByteArray).size ≤ maxLen := by unfold maxLen; simp [ByteArray.size]
theorem slp_one' {p : Nat → Prop} {w : World} {g : Nat} {s : ByteArray} {c : Nat} (h : w.cell? ⟨g, 0, none⟩ = some (.string s)) (hs : s.size ≤ maxLen) (hp : p g) : SLP p w (.slice (some ⟨g, 0, none⟩) 1 c) [s] :=
  ⟨_, _, rfl, (fun h => by cases h), by simp, fun i x hi => by
    match i, hi with
    | 0, hi => simp at hi; subst hi; exact ⟨g, 0, rfl, h, hs, hp⟩
    | i + 1, hi => simp at hi⟩
/-- One unit more behind a list of the call's own. -/
theorem ring_step {w2 wr W w5 : World} {t v5 r f : Value} {k n : Nat} {xs : List Value} {L : List U} {u : U} {box : Obj} (hb : Below w2.heap.size w2 wr) (hown : wr.ownsRow w2.heap.size 32 4 t n xs)
    (hflat : UFlat (fun b => w2.heap.size ≤ b ∧ t.ownBlock ≠ some b) wr xs (L.take k)) (hu : L[k]? = some u) (hn : u.name.size ≤ maxLen) (hs : u.start.size ≤ maxLen)
    (hr : SLP (fun b => wr.heap.size ≤ b) W r u.req) (hf : SLP (fun b => wr.heap.size ≤ b) W f u.aft) (hbW : Below wr.heap.size wr W) (hg5 : (W.alloc box).grownBy w5 t.ownBlock)
    (hl5 : v5.ownBlock = t.ownBlock ∨ v5.ownBlock = some (W.alloc box).heap.size) :
    Below w2.heap.size w2 w5 ∧ UFlat (fun b => w2.heap.size ≤ b ∧ v5.ownBlock ≠ some b) w5 (xs ++ [.string u.name, .string u.start, r, f]) (L.take (k + 1)) := by
  have hlo := hown.lt
  have hz := hb.size
  have hzW := hbW.size
  have hbA : Below wr.heap.size wr (W.alloc box) := hbW.alloc hzW _
  have hzA : (W.alloc box).heap.size = W.heap.size + 1 := by simp
  have hbAW : Below W.heap.size W (W.alloc box) := (Below.refl _ _).alloc (Nat.le_refl _) _
  refine ⟨Below.grown (w := W.alloc box) (hb.trans (hbA.mono hz)) hg5 (by omega) (fun j hj => (hlo j hj).1), ?_⟩
  rw [take_snoc hu]
  have hnot : ∀ j, j < (W.alloc box).heap.size → t.ownBlock ≠ some j → v5.ownBlock ≠ some j := by
    intro j hj hne e
    rcases hl5 with h | h
    · rw [h] at e; exact hne e
    · rw [h] at e; simp at e hj; omega
  have hnew : ∀ j, wr.heap.size ≤ j → t.ownBlock ≠ some j := fun j hj e => by have := (hlo j e).2; omega
  refine UFlat.snoc ?_ hn hs ?_ ?_
  · exact ((hflat.there.kept (Kept.of_below _ hbA)).kept (Kept.of_grown hg5 fun b hb => fun e => hb.1.2 e.symm)).mono fun b hb => ⟨hb.1.1, hnot b (by omega) hb.1.2⟩
  · exact ((hr.there.keeps hbAW).kept (Kept.of_grown hg5 fun b hb => fun e => hnew b hb.1 e.symm)).mono fun b hb => ⟨by omega, hnot b (by omega) (hnew b hb.1)⟩
  · exact ((hf.there.keeps hbAW).kept (Kept.of_grown hg5 fun b hb => fun e => hnew b hb.1 e.symm)).mono fun b hb => ⟨by omega, hnot b (by omega) (hnew b hb.1)⟩
theorem own_shape' {w : World} {base n : Nat} {v : Value} {xs : List Value} {e : TypeId} {size : Nat} (h : w.ownsRow base e size v n xs) : ∃ a cap, v = .slice a n cap := by
  rcases own_block_form h with ⟨h1, h2, _⟩ | ⟨g, cap, h1⟩
  · exact ⟨none, 0, by rw [h1, h2]⟩
  · exact ⟨_, _, h1⟩
theorem rn_0 : rn 0 = ⟨#[114, 97]⟩ := rfl
theorem want_len (n o : Nat) (c : Bool) : (wantR n o c).1.length ≤ n + o := by
  unfold wantR
  split <;> simp [othL] <;> omega
theorem want_true (n o : Nat) : wantR n o true = (othL o ++ (List.range n).map (fun i => ringU n true (n - 1 - i)), ⟨#[]⟩, 0) := rfl
theorem want_false (n o : Nat) : wantR n o false = ([], rn 0, 29) := rfl
theorem want_oth {n o i : Nat} (hi : i < o) : (othL o ++ (List.range n).map (fun i => ringU n true (n - 1 - i)))[i]? = some (othU i) := by rw [List.getElem?_append_left (by simpa [othL] using hi)]; simp [othL, hi]
theorem want_ring {n o i : Nat} (hi : i < n) : (othL o ++ (List.range n).map (fun i => ringU n true (n - 1 - i)))[o + i]? = some (ringU n true (n - 1 - i)) := by simp [othL, hi]
theorem want_size (n o : Nat) : (othL o ++ (List.range n).map (fun i => ringU n true (n - 1 - i))).length = o + n := by simp [othL]
def sizeOk (n o : Nat) (c : Bool) : Bool := decide (sizeU (rings n o c) ≤ 2000)
theorem sizeOk_all : ∀ n : Fin 12, ∀ o : Fin 12, ∀ c : Bool, sizeOk (n.val + 1) o.val c = true := by decide +kernel
theorem rings_sized {n o : Nat} (h1 : 1 ≤ n) (h2 : n ≤ 12) (h3 : o < 12) (c : Bool) : sizeU (rings n o c) ≤ 2000 := by
  have h := sizeOk_all ⟨n - 1, by omega⟩ ⟨o, h3⟩ c
  simp only at h
  rw [show n - 1 + 1 = n by omega] at h
  simpa [sizeOk] using h
end Go.Proofs.Ytlhlbckmifgeeaa
