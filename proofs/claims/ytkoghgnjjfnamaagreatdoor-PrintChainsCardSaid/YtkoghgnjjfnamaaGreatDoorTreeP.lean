/- What stands at each node of a tree that is read and written (plain). -/
import Derived.Test.YtkoghgnjjfnamaaGreatDoorKb
import Derived.Test.YtkoghgnjjfnamaaGreatDoorNameW
namespace Go.Proofs.YtkoghgnjjfnamaaGreatDoor
open Go.RowKit
set_option linter.unusedSimpArgs false
set_option linter.unusedVariables false
mutual
/-- What is written so: names, signs, selections of names that stand bare. -/
def PrOK : T → Prop
  | .mk k tx _ _ ns _ ks => ns = [] ∧ ((k = 4 ∧ ks = []) ∨ (k = 8 ∧ isNm tx = true ∧ ks.length = 1 ∧ ∀ t ∈ ks, t.kind ≠ 8) ∨ (k = 18 ∧ tx.size ≤ 1024 ∧ ks.length = 2)) ∧ PrOKs ks
def PrOKs : List T → Prop
  | [] => True
  | t :: ks => PrOK t ∧ PrOKs ks
end
theorem prOK_mk {k : Int} {tx : ByteArray} {n : Int} {x : Nat} {ns : List ByteArray} {p : Nat} {ks : List T} : PrOK (.mk k tx n x ns p ks) ↔ ns = [] ∧ ((k = 4 ∧ ks = []) ∨ (k = 8 ∧ isNm tx = true ∧ ks.length = 1 ∧ ∀ t ∈ ks, t.kind ≠ 8) ∨ (k = 18 ∧ tx.size ≤ 1024 ∧ ks.length = 2)) ∧ PrOKs ks := by simp [PrOK]
theorem prOKs_cons {t : T} {ks : List T} : PrOKs (t :: ks) ↔ PrOK t ∧ PrOKs ks := by simp [PrOKs]
theorem nodesK_kids : ∀ (ks : List T) (b : Nat), (nodesK ks b []).2.Pairwise (· < ·) ∧ ∀ k ∈ (nodesK ks b []).2, b ≤ k ∧ k < b + (nodesK ks b []).1.length
  | [], b => by simp [nodesK_nil]
  | t :: ks, b => by
    obtain ⟨l0, x, hx, _, _⟩ := root_of t b
    have hl : 0 < (nodes t b).length := by rw [hx]; simp
    obtain ⟨h1, h2⟩ := nodesK_kids ks (b + (nodes t b).length)
    rw [nodesK_cons]
    simp only [List.nil_append]
    rw [nodesK_snd ks _ [_], nodesK_fst ks _ _ []]
    refine ⟨?_, fun k hk => ?_⟩
    · rw [List.singleton_append, List.pairwise_cons]
      exact ⟨fun k hk => by have := (h2 k hk).1; omega, h1⟩
    · rw [List.length_append]
      rcases List.mem_append.1 hk with hk | hk
      · have := List.mem_singleton.1 hk
        omega
      · have := h2 k hk
        omega
/-- What stands at a node, the i-th. -/
def GoodN (x : Nd) (i : Nat) : Prop :=
  OkN (QR fun _ => False) x.kind x.text x.int x.flt x.names x.kids.length ∧ kP x.kind ∧ x.names = [] ∧ x.kids.Pairwise (· < ·) ∧ x.kids.length ≤ 2 ∧ ∀ k ∈ x.kids, k < i
mutual
theorem nodes_in : ∀ (t : T) (b : Nat), RTr (QR fun _ => False) t → PrOK t → ∀ (j : Nat) (x : Nd), (nodes t b)[j]? = some x → GoodN x (b + j)
  | .mk k tx n f ns p ks, b, hr, ho, j, x, hj => by
    obtain ⟨h1, h2, h3, h4⟩ := rt_mk.1 hr
    obtain ⟨hns, hc, hks⟩ := prOK_mk.1 ho
    rw [nodes_mk] at hj
    by_cases hlt : j < (nodesK ks b []).1.length
    · rw [List.getElem?_append_left hlt] at hj
      exact nodesK_in ks b h4 hks j x hj
    · have hlt2 := (List.getElem?_eq_some_iff.1 hj).1
      simp only [List.length_append, List.length_cons, List.length_nil] at hlt2
      obtain rfl : j = (nodesK ks b []).1.length := by omega
      rw [List.getElem?_append_right (Nat.le_refl _), Nat.sub_self] at hj
      simp only [List.getElem?_cons_zero, Option.some.injEq] at hj
      subst hj
      have hkl : (nodesK ks b []).2.length = ks.length := by rw [nodesK_klen]; simp
      obtain ⟨q1, q2⟩ := nodesK_kids ks b
      refine ⟨by rw [hkl]; exact h1, ?_, hns, q1, ?_, fun k hk => (q2 k hk).2⟩
      · rcases hc with ⟨rfl, _⟩ | ⟨rfl, _⟩ | ⟨rfl, _⟩
        · exact Or.inr (Or.inl rfl)
        · exact Or.inr (Or.inr (Or.inr (Or.inl rfl)))
        · exact Or.inr (Or.inr (Or.inr (Or.inr (Or.inr rfl))))
      · show (nodesK ks b []).2.length ≤ 2
        rw [hkl]
        rcases hc with ⟨_, rfl⟩ | ⟨_, _, h, _⟩ | ⟨_, _, h⟩
        · simp
        · omega
        · omega
theorem nodesK_in : ∀ (ks : List T) (b : Nat), RTK (QR fun _ => False) ks → PrOKs ks → ∀ (j : Nat) (x : Nd), (nodesK ks b []).1[j]? = some x → GoodN x (b + j)
  | [], b, _, _, j, x, hj => by simp [nodesK_nil] at hj
  | t :: ks, b, hr, ho, j, x, hj => by
    have h' : RTr (QR fun _ => False) t ∧ RTK (QR fun _ => False) ks := by simpa [RTK] using hr
    obtain ⟨o1, o2⟩ := prOKs_cons.1 ho
    rw [nodesK_cons] at hj
    simp only at hj
    rw [nodesK_fst ks _ _ []] at hj
    by_cases hlt : j < (nodes t b).length
    · rw [List.getElem?_append_left hlt] at hj
      exact nodes_in t b h'.1 o1 j x hj
    · rw [List.getElem?_append_right (by omega)] at hj
      have := nodesK_in ks (b + (nodes t b).length) h'.2 o2 (j - (nodes t b).length) x hj
      rwa [show b + (nodes t b).length + (j - (nodes t b).length) = b + j by omega] at this
end
theorem okN_flt {k : Int} {tx : ByteArray} {n : Int} {x : Nat} {ns : List ByteArray} {m : Nat} (h : OkN (QR fun _ => False) k tx n x ns m) : x = 0 := by
  cases h with
  | flt h => exact h.elim
  | _ => rfl
end Go.Proofs.YtkoghgnjjfnamaaGreatDoor
