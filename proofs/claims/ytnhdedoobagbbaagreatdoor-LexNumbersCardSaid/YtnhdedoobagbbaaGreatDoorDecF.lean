/- Decimals of many digits: the way to a float's bits, as plain functions. -/
import Derived.Test.YtnhdedoobagbbaaGreatDoorDecS
namespace Go.Proofs.YtnhdedoobagbbaaGreatDoor

def pwt (i : Nat) : Nat := ([1, 3, 6, 9, 13, 16, 19, 23, 26] : List Nat)[i]?.getD 27
theorem pwt_le (i : Nat) : 1 ≤ pwt i ∧ pwt i ≤ 27 := by
  rcases Nat.lt_or_ge i 9 with h | h
  · have : ∀ i : Fin 9, 1 ≤ pwt i.val ∧ pwt i.val ≤ 27 := by decide
    exact this ⟨i, h⟩
  · unfold pwt
    rw [List.getElem?_eq_none (by simpa using h)]
    decide
def fbA : Nat → Dc → Int → Dc × Int
  | 0, D, e => (D, e)
  | f + 1, D, e => if 0 < D.dp then fbA f (rsP (pwt D.dp.toNat) D) (e + pwt D.dp.toNat) else (D, e)
def fbB : Nat → Dc → Int → Dc × Int
  | 0, D, e => (D, e)
  | f + 1, D, e => if D.dp < 0 ∨ D.dp = 0 ∧ D.d 0 < 53 then fbB f (lsP (pwt (-D.dp).toNat) D) (e - pwt (-D.dp).toNat) else (D, e)
/-- How many rounds to the right, to the left, are still to come at most. -/
def muA (D : Dc) : Nat := D.dp.toNat * 10 + (D.d 0 - 48)
def muB (D : Dc) : Nat := if 0 < D.dp then 0 else (-D.dp).toNat * 10 + (57 - D.d 0) + 1
theorem muA_lt {D : Dc} (h : OkD D) (hp : 0 < D.nd) (hd : 0 < D.dp) : muA (rsP (pwt D.dp.toNat) D) < muA D := by
  obtain ⟨h1, h2, h3⟩ := rsP_spec h hp (pwt_le D.dp.toNat).1
  have h4 := (h1.dig 0 h2).2
  have h5 := (h1.dig 0 h2).1
  unfold muA
  omega
theorem muB_lt {D : Dc} (h : OkD D) (hp : 0 < D.nd) (hd : D.dp < 0 ∨ D.dp = 0 ∧ D.d 0 < 53) : muB (lsP (pwt (-D.dp).toNat) D) < muB D := by
  obtain ⟨h1, h2, h3⟩ := lsP_spec h hp (pwt_le (-D.dp).toNat).1 (by have := (pwt_le (-D.dp).toNat).2; omega)
  have h4 := h1.lead h2
  have h5 := h.lead hp
  have h6 := (h1.dig 0 h2).2
  have h7 := (h.dig 0 hp).2
  unfold muB
  split <;> split <;> omega
def shR (m : Nat) (D : Dc) : Dc := if 60 < m then shR (m - 60) (rsP 60 D) else rsP m D
termination_by m
def shL (m : Nat) (D : Dc) : Dc := if 60 < m then shL (m - 60) (lsP 60 D) else lsP m D
termination_by m
def shP (k : Int) (D : Dc) : Dc := if D.nd = 0 then D else if 0 < k then shL k.toNat D else if k < 0 then shR (-k).toNat D else D
theorem shR_ok : ∀ (m : Nat) {D : Dc}, 1 ≤ m → OkD D → 0 < D.nd → OkD (shR m D) ∧ 0 < (shR m D).nd := by
  intro m
  induction m using Nat.strongRecOn with
  | ind m ih =>
    intro D hm h hp
    rw [shR]
    split
    · obtain ⟨h1, h2, _⟩ := rsP_spec h hp (k := 60) (by decide)
      exact ih (m - 60) (by omega) (by omega) h1 h2
    · obtain ⟨h1, h2, _⟩ := rsP_spec h hp hm
      exact ⟨h1, h2⟩
theorem shL_ok : ∀ (m : Nat) {D : Dc}, 1 ≤ m → OkD D → 0 < D.nd → OkD (shL m D) ∧ 0 < (shL m D).nd := by
  intro m
  induction m using Nat.strongRecOn with
  | ind m ih =>
    intro D hm h hp
    rw [shL]
    split
    · obtain ⟨h1, h2, _⟩ := lsP_spec h hp (k := 60) (by decide) (by decide)
      exact ih (m - 60) (by omega) (by omega) h1 h2
    · obtain ⟨h1, h2, _⟩ := lsP_spec h hp hm (by omega)
      exact ⟨h1, h2⟩
theorem shP_ok (k : Int) {D : Dc} (h : OkD D) (hp : 0 < D.nd) : OkD (shP k D) ∧ 0 < (shP k D).nd := by
  unfold shP
  rw [if_neg (by omega)]
  split
  · exact shL_ok _ (by omega) h hp
  · split
    · exact shR_ok _ (by omega) h hp
    · exact ⟨h, hp⟩
theorem fbA_ok : ∀ (f : Nat) {D : Dc} (e : Int), OkD D → 0 < D.nd → OkD (fbA f D e).1 ∧ 0 < (fbA f D e).1.nd
  | 0, _, _, h, hp => ⟨h, hp⟩
  | f + 1, D, e, h, hp => by
    unfold fbA
    split
    · obtain ⟨h1, h2, _⟩ := rsP_spec h hp (pwt_le D.dp.toNat).1
      exact fbA_ok f _ h1 h2
    · exact ⟨h, hp⟩
theorem fbB_ok : ∀ (f : Nat) {D : Dc} (e : Int), OkD D → 0 < D.nd → OkD (fbB f D e).1 ∧ 0 < (fbB f D e).1.nd
  | 0, _, _, h, hp => ⟨h, hp⟩
  | f + 1, D, e, h, hp => by
    unfold fbB
    split
    · obtain ⟨h1, h2, _⟩ := lsP_spec h hp (pwt_le (-D.dp).toNat).1 (by have := (pwt_le (-D.dp).toNat).2; omega)
      exact fbB_ok f _ h1 h2
    · exact ⟨h, hp⟩
/-- Rounded up at place nd? -/
def ruB (D : Dc) (nd : Int) : Bool :=
  if nd < 0 ∨ (D.nd : Int) ≤ nd then false
  else if D.d nd.toNat = 53 ∧ nd.toNat + 1 = D.nd then (D.tr || (decide (0 < nd) && decide ((D.d (nd.toNat - 1) - 48) % 2 ≠ 0)))
  else decide (53 ≤ D.d nd.toNat)
def riA (d : Nat → Nat) : Nat → Nat
  | 0 => 0
  | i + 1 => (riA d i * 10 + dg d i) % 18446744073709551616
def riB : Nat → Nat → Nat
  | 0, n => n
  | c + 1, n => riB c (n * 10 % 18446744073709551616)
def riP (D : Dc) : Nat :=
  if 20 < D.dp then 18446744073709551615
  else (riB (D.dp.toNat - min D.dp.toNat D.nd) (riA D.d (min D.dp.toNat D.nd)) + if ruB D D.dp = true then 1 else 0) % 18446744073709551616
theorem riA_lt (d : Nat → Nat) : ∀ i, riA d i < 18446744073709551616
  | 0 => by simp [riA]
  | i + 1 => Nat.mod_lt _ (by decide)
theorem riB_lt : ∀ (c : Nat) {n : Nat}, n < 18446744073709551616 → riB c n < 18446744073709551616
  | 0, _, h => h
  | c + 1, _, _ => riB_lt c (Nat.mod_lt _ (by decide))
theorem riB_succ : ∀ (c n : Nat), riB (c + 1) n = riB c n * 10 % 18446744073709551616
  | 0, _ => rfl
  | c + 1, n => by
    show riB (c + 1) (n * 10 % 18446744073709551616) = _
    rw [riB_succ c]
    rfl
end Go.Proofs.YtnhdedoobagbbaaGreatDoor
