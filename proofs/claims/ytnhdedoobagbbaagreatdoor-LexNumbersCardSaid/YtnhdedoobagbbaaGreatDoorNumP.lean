/- The number that begins at a place, as a plain function; what is asked of the library's readers of numbers. -/
import Derived.Test.YtnhdedoobagbbaaGreatDoorSign
import Derived.Test.YtnhdedoobagbbaaGreatDoorInf
namespace Go.Proofs.YtnhdedoobagbbaaGreatDoor
open Go.RowKit

def bt (s : ByteArray) (i : Nat) : Option UInt8 := s.data.toList[i]?
theorem bt_some {s : ByteArray} {i : Nat} (h : i < s.size) : bt s i = some s[i] := byte_at h
theorem bt_none {s : ByteArray} {i : Nat} (h : s.size ≤ i) : bt s i = none := by
  have hl : s.data.toList.length = s.size := Array.length_toList
  exact List.getElem?_eq_none (by omega)
def isE (c : UInt8) : Bool := (c.toNat ||| 32) == 101
/-- Where a sign of an exponent is gone over. -/
def signEnd (s : ByteArray) (i : Nat) : Nat := match bt s i with | some c => if c == 43 || c == 45 then i + 1 else i | none => i
/-- Where the number ends whose digits behind the point end at i. -/
def expEnd (s : ByteArray) (i : Nat) : Nat :=
  match bt s i with
  | some c => if isE c then (if signEnd s (i + 1) < runTo digitB s (signEnd s (i + 1)) then runTo digitB s (signEnd s (i + 1)) else i) else i
  | none => i
def dotB (s : ByteArray) (e : Nat) : Bool := match bt s e, bt s (e + 1) with | some c, some d => c == 46 && digitB d | _, _ => false
def numP (pf : ByteArray → Nat) (s : ByteArray) (a0 : Nat) : Except (Nat × Int) (Tok × Nat) :=
  if (decide (1 < runTo digitB s a0 - a0) && (bt s a0 == some 48)) = true then .error (a0, 4)
  else if dotB s (runTo digitB s a0) = true then
    if 800 < expEnd s (runTo digitB s (runTo digitB s a0 + 1)) - a0 then .error (a0, 4)
    else if infB (pf (s.extract a0 (expEnd s (runTo digitB s (runTo digitB s a0 + 1))))) = true then .error (a0, 4)
    else .ok (⟨3, s.extract a0 (expEnd s (runTo digitB s (runTo digitB s a0 + 1))), 0, pf (s.extract a0 (expEnd s (runTo digitB s (runTo digitB s a0 + 1)))), a0⟩, expEnd s (runTo digitB s (runTo digitB s a0 + 1)))
  else
    match Lib.parseIntB 64 (s.extract a0 (runTo digitB s a0)).data.toList with
    | .ok v => .ok (⟨2, s.extract a0 (runTo digitB s a0), v, 0, a0⟩, runTo digitB s a0)
    | _ => .error (a0, 4)
theorem signEnd_le {s : ByteArray} {i : Nat} (h : i ≤ s.size) : i ≤ signEnd s i ∧ signEnd s i ≤ s.size := by
  unfold signEnd
  rcases Nat.lt_or_ge i s.size with hlt | hge
  · rw [bt_some hlt]
    simp only
    split <;> omega
  · rw [bt_none hge]
    exact ⟨Nat.le_refl _, h⟩
theorem expEnd_le {s : ByteArray} {i : Nat} (h : i ≤ s.size) : i ≤ expEnd s i ∧ expEnd s i ≤ s.size := by
  unfold expEnd
  rcases Nat.lt_or_ge i s.size with hlt | hge
  · rw [bt_some hlt]
    simp only
    have h1 := signEnd_le (s := s) (i := i + 1) (by omega)
    have h2 := runTo_le digitB s h1.2
    have h3 := runTo_ge digitB s (signEnd s (i + 1))
    split
    · split <;> omega
    · omega
  · rw [bt_none hge]
    exact ⟨Nat.le_refl _, h⟩

theorem signEnd_two (s : ByteArray) (i : Nat) : signEnd s i = i ∨ signEnd s i = i + 1 := by
  unfold signEnd
  split
  · split
    · exact Or.inr rfl
    · exact Or.inl rfl
  · exact Or.inl rfl
def expB (s : ByteArray) (i : Nat) : Bool := match bt s i with | some c => isE c | none => false
theorem expEnd_no {s : ByteArray} {i : Nat} (h : expB s i = false) : expEnd s i = i := by
  unfold expB at h
  unfold expEnd
  cases hb : bt s i with
  | none => rfl
  | some c => rw [hb] at h; simp only at h ⊢; rw [h]; rfl
theorem expEnd_yes {s : ByteArray} {i : Nat} (h : expB s i = true) : expEnd s i = if signEnd s (i + 1) < runTo digitB s (signEnd s (i + 1)) then runTo digitB s (signEnd s (i + 1)) else i := by
  unfold expB at h
  unfold expEnd
  cases hb : bt s i with
  | none => rw [hb] at h; cases h
  | some c => rw [hb] at h; simp only at h ⊢; rw [if_pos h]
theorem expB_lt {s : ByteArray} {i : Nat} (h : expB s i = true) : i < s.size := by
  rcases Nat.lt_or_ge i s.size with h' | h'
  · exact h'
  · unfold expB at h; rw [bt_none h'] at h; cases h
theorem dotB_lt {s : ByteArray} {e : Nat} (h : dotB s e = true) : e + 1 < s.size := by
  rcases Nat.lt_or_ge (e + 1) s.size with h' | h'
  · exact h'
  · unfold dotB at h
    rw [bt_none h'] at h
    split at h
    · rename_i h2; cases h2
    · cases h
theorem run_at {gf : Nat} {p : UInt8 → Bool} {g at' n : Nat} {ni : Int} {s : ByteArray} {out : Value} {w : World} (eg : Enters Tryz.prog gf) (hr : RD w g s at' out) (hs : s.size ≤ 4096) (hn : n ≤ s.size)
    (hp : ∀ (c : UInt8) (W : World), Calls Tryz.prog gf #[.int .u8 c.toNat] W fun e w' => e = .returned (.bool (p c)) ∧ W = w') (hni : (n : Int) = ni) :
    Calls Tryz.prog 12 #[.pointer (some ⟨g, 0, none⟩), .int .i64 ni, .func (.func gf) #[] #[]] w fun e w' => e = .returned (.int .i64 (runTo p s n)) ∧ w = w' := by
  subst hni
  exact run_any eg hr hs hn hp

/-- What the lexer leans on: G says what package-level variables hold; nothing that is written at or beyond block NG turns it; the library's ParseFloat reads the texts of D, each as pf says. -/
structure Env (NG : Nat) (G : World → Prop) (D : ByteArray → Prop) (pf : ByteArray → Nat) : Prop where
  keeps : ∀ (B : Nat) (w w' : World), NG ≤ B → Below B w w' → G w → G w'
  errS : ∀ w, G w → ∃ ev, w.cell? ⟨2, 0, none⟩ = some ev ∧ (ev = .nilIface ∨ ∃ te pe, ev = .iface te pe)
  errR : ∀ w, G w → ∃ ev, w.cell? ⟨3, 0, none⟩ = some ev ∧ (ev = .nilIface ∨ ∃ te pe, ev = .iface te pe)
  float : ∀ t w, t.size ≤ 800 → D t → G w → Calls Tryz.prog 23 #[.string t, .int .i64 64] w fun e w' => (∃ er, e = .returned (.tuple #[.float .f64 (pf t), er])) ∧ Below w.heap.size w w'
def IntPost (t : ByteArray) (w : World) (e : Ending) (w' : World) : Prop :=
  (match Lib.parseIntB 64 t.data.toList with
    | .ok v => e = .returned (.tuple #[.int .i64 v, .nilIface])
    | _ => ∃ n N, e = .returned (.tuple #[.int .i64 n, .iface 99 (.pointer (some ⟨N, 0, none⟩))])) ∧ Below w.heap.size w w'
theorem parseInt_any {NG : Nat} {G : World → Prop} {D : ByteArray → Prop} {pf : ByteArray → Nat} (E : Env NG G D pf) {w : World} (hG : G w) (t : ByteArray) (ht : t.size ≤ 4096) :
    Calls Tryz.prog 22 #[.string t, .int .i64 10, .int .i64 64] w fun e w' => IntPost t w e w' := by
  unfold IntPost
  rcases h : Lib.parseIntB 64 t.data.toList with v | _ | _
  ·
    refine (Tryz.strconv_ParseInt_10_at64_ok t (by omega) v h w).mono ?_
    rintro e w' ⟨h1, h2⟩
    refine ⟨h1, ?_⟩
    rcases h2 with rfl | ⟨x, rfl⟩
    · exact Below.refl _ _
    · exact Lib.bytesWorld_below _ _ _
  ·
    obtain ⟨ev, h1, h2⟩ := E.errS w hG
    refine (Tryz.strconv_ParseInt_10_at64_syntax t (by omega) h ev w h1 h2).mono ?_
    rintro e w' ⟨N, h3, _, _, h4⟩
    exact ⟨⟨_, N, h3⟩, h4⟩
  ·
    obtain ⟨ev, h1, h2⟩ := E.errR w hG
    refine (Tryz.strconv_ParseInt_10_at64_range t (by omega) h ev w h1 h2).mono ?_
    rintro e w' ⟨N, h3, _, _, h4⟩
    exact ⟨⟨_, N, h3⟩, h4⟩
theorem enters_digit : Enters Tryz.prog 16 := enters_of Tryz.func16 (by kernel_rfl) rfl
theorem enters_notNl : Enters Tryz.prog 13 := enters_of Tryz.func13 (by kernel_rfl) rfl
theorem enters_more : Enters Tryz.prog 15 := enters_of Tryz.func15 (by kernel_rfl) rfl
end Go.Proofs.YtnhdedoobagbbaaGreatDoor
