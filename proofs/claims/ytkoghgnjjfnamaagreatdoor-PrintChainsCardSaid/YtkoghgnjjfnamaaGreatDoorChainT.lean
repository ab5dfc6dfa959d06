/- PrintChains: rows of names are right, and are written; the law's first text (plain). -/
import Derived.Test.YtkoghgnjjfnamaaGreatDoorKb
import Derived.Test.YtkoghgnjjfnamaaGreatDoorTreeP
import Derived.Test.YtkoghgnjjfnamaaGreatDoorSayW
namespace Go.Proofs.YtkoghgnjjfnamaaGreatDoor
open Go.RowKit
set_option linter.unusedSimpArgs false
set_option linter.unusedVariables false
theorem nm_one (c : UInt8) (h : letterB c = true) (hk : kwB ⟨#[c]⟩ = false) : nmQ ⟨#[c]⟩ := ⟨c, [], rfl, h, (fun x hx => by cases hx), (by simp), hk⟩
theorem nm_a : nmQ ⟨#[97]⟩ := nm_one 97 (by decide) (by kernel_rfl)
theorem nm_b : nmQ ⟨#[98]⟩ := nm_one 98 (by decide) (by kernel_rfl)
theorem nm_c : nmQ ⟨#[99]⟩ := nm_one 99 (by decide) (by kernel_rfl)
theorem nm_d : nmQ ⟨#[100]⟩ := nm_one 100 (by decide) (by kernel_rfl)
theorem nm_e : nmQ ⟨#[101]⟩ := nm_one 101 (by decide) (by kernel_rfl)
theorem ex_name {b : ByteArray} (h : nmQ b) (p : Nat) : EXr (QR fun _ => False) (nameN b p) ∧ PrOK (nameN b p) := by
  unfold nameN
  exact ⟨ex_nil (.nam h) (by decide), prOK_mk.2 ⟨rfl, Or.inl ⟨rfl, rfl⟩, by simp [PrOKs]⟩⟩
theorem ex_sign {sg : ByteArray} (hs : sgB sg) (hz : sg.size ≤ 1024) {a b : T} (p : Nat) (ha : EXr (QR fun _ => False) a ∧ PrOK a) (hb : EXr (QR fun _ => False) b ∧ PrOK b) : EXr (QR fun _ => False) (.mk 18 sg 0 0 [] p [a, b]) ∧ PrOK (.mk 18 sg 0 0 [] p [a, b]) :=
  ⟨ex_two (.bin hs) (by decide) ha.1 hb.1, prOK_mk.2 ⟨rfl, Or.inr (Or.inr ⟨rfl, hz, rfl⟩), prOKs_cons.2 ⟨ha.2, prOKs_cons.2 ⟨hb.2, by simp [PrOKs]⟩⟩⟩⟩
theorem chL_ok {sg : ByteArray} (hs : sgB sg) (hz : sg.size ≤ 1024) {n : Nat} {t : T} (h : ChL sg n t) : EXr (QR fun _ => False) t ∧ PrOK t := by
  induction h with
  | one p => exact ex_name nm_a p
  | more p q h ih => exact ex_sign hs hz p ih (ex_name nm_b q)
theorem chR_ok {sg : ByteArray} (hs : sgB sg) (hz : sg.size ≤ 1024) {b : ByteArray} {n : Nat} {t : T} (h : ChR sg b n t) (hb : nmQ b) : EXr (QR fun _ => False) t ∧ PrOK t := by
  induction h with
  | one b p => exact ex_name hb p
  | more b p q h ih => exact ex_sign hs hz p (ex_name hb q) (ih nm_b)
theorem ch_sg {sg : ByteArray} (hs : sg ∈ chS) : sgB sg ∧ sg.size ≤ 2 := by
  simp only [chS, List.mem_cons, List.not_mem_nil, or_false] at hs
  rcases hs with rfl | rfl | rfl | rfl | rfl | rfl | rfl | rfl <;> exact ⟨⟨_, by simp [sgAll], rfl⟩, by decide⟩
/-- The law's first text. -/
def shw13 : ByteArray := ⟨#[40, 97, 43, 98, 41, 42, 99, 46, 100, 43, 43, 101]⟩
def sh13 : T := .mk 18 ⟨#[42]⟩ 0 0 [] 5 [.mk 18 ⟨#[43]⟩ 0 0 [] 2 [nameN ⟨#[97]⟩ 1, nameN ⟨#[98]⟩ 3], .mk 18 ⟨#[43, 43]⟩ 0 0 [] 9 [.mk 8 ⟨#[100]⟩ 0 0 [] 7 [nameN ⟨#[99]⟩ 6], nameN ⟨#[101]⟩ 11]]
theorem shw13_parse : parseP pfA shw13 = .ok (nodes sh13 0) := by kernel_rfl
def shw13p : ByteArray := ⟨#[40, 97, 32, 43, 32, 98, 41, 32, 42, 32, 99, 46, 100, 32, 43, 43, 32, 101]⟩
theorem sh13_pr : prX sh13 = shw13p.data.toList := by kernel_rfl
theorem shw13p_parse : ∃ l, parseP pfA ⟨(prX sh13).toArray⟩ = .ok l := by
  rw [sh13_pr]
  exact ⟨nodes (.mk 18 ⟨#[42]⟩ 0 0 [] 8 [.mk 18 ⟨#[43]⟩ 0 0 [] 3 [nameN ⟨#[97]⟩ 1, nameN ⟨#[98]⟩ 5], .mk 18 ⟨#[43, 43]⟩ 0 0 [] 14 [.mk 8 ⟨#[100]⟩ 0 0 [] 11 [nameN ⟨#[99]⟩ 10], nameN ⟨#[101]⟩ 17]]) 0, by kernel_rfl⟩
theorem sh13_ok : EXr (QR fun _ => False) sh13 ∧ PrOK sh13 :=
  ex_sign ⟨⟨#[42]⟩, by simp [sgAll], rfl⟩ (by decide) 5 (ex_sign ⟨⟨#[43]⟩, by simp [sgAll], rfl⟩ (by decide) 2 (ex_name nm_a 1) (ex_name nm_b 3))
    (ex_sign ⟨⟨#[43, 43]⟩, by simp [sgAll], rfl⟩ (by decide) 9 ⟨ex_one (.sel (nm_pl nm_d) (Or.inl rfl)) (by decide) (ex_name nm_c 6).1, prOK_mk.2 ⟨rfl, Or.inr (Or.inl ⟨rfl, isNm_of nm_d, rfl, fun t ht => by
      rw [List.mem_singleton.1 ht]
      decide⟩), prOKs_cons.2 ⟨(ex_name nm_c 6).2, by simp [PrOKs]⟩⟩⟩ (ex_name nm_e 11))
end Go.Proofs.YtkoghgnjjfnamaaGreatDoor
