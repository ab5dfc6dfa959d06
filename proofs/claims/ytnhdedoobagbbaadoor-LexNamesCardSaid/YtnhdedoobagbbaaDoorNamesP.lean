/- Of bytes that may stand in a name, behind a letter, the lexer makes one name. -/
import Derived.Test.YtnhdedoobagbbaaDoorShown
namespace Go.Proofs.YtnhdedoobagbbaaDoor
open Go.RowKit

theorem takeWhile_all {p : UInt8 → Bool} : ∀ (l : List UInt8), (∀ c, c ∈ l → p c = true) → l.takeWhile p = l
  | [], _ => rfl
  | c :: r, h => by
    rw [List.takeWhile_cons, if_pos (h c (by simp)), takeWhile_all r (fun d hd => h d (by simp [hd]))]
theorem names_lex {s : ByteArray} {l : List UInt8} (hs : s = ⟨(113 :: l).toArray⟩) (hl : ∀ c, c ∈ l → moreB c = true) (hn : l.length + 1 ≤ 1024) : lexP pfTx s = .ok [⟨1, s, 0, 0, 0⟩, ⟨0, ⟨#[]⟩, 0, 0, s.size⟩] := by
  have hsz : s.size = l.length + 1 := by subst hs; rfl
  have hdata : s.data.toList = 113 :: l := by subst hs; rfl
  have hb : bt s 0 = some 113 := by unfold bt; rw [hdata]; rfl
  have hrun : runTo moreB s 0 = s.size := by
    unfold runTo
    rw [hdata, List.drop_zero, takeWhile_all _ (by intro c hc; rcases List.mem_cons.1 hc with rfl | h; exact rfl; exact hl c h)]
    simp [hsz]
  have hex : s.extract 0 s.size = s := by
    apply ByteArray.ext
    simp
  unfold lexP
  rw [if_neg (by omega), lexFrom_name hb rfl rfl rfl, hrun, if_neg (by omega), hex]
  rw [hsz, lexFrom_end (by omega)]
  rfl
theorem names_floats {s : ByteArray} {l : List UInt8} (hs : s = ⟨(113 :: l).toArray⟩) (hl : ∀ c, c ∈ l → moreB c = true) : ∀ p, p < s.size → atDig s p = true → dotB s (runTo digitB s p) = true → s.extract p (expEnd s (runTo digitB s (runTo digitB s p + 1))) = tx := by
  intro p _ _ hd
  exfalso
  have hdata : s.data.toList = 113 :: l := by subst hs; rfl
  generalize runTo digitB s p = e at hd
  unfold dotB at hd
  split at hd
  · rename_i c d h1 _
    simp only [Bool.and_eq_true, beq_iff_eq] at hd
    obtain ⟨rfl, _⟩ := hd
    unfold bt at h1
    rw [hdata] at h1
    have hm := List.mem_of_getElem? h1
    rcases List.mem_cons.1 hm with h | h
    · cases h
    · have := hl _ h
      cases this
  · cases hd
end Go.Proofs.YtnhdedoobagbbaaDoor
