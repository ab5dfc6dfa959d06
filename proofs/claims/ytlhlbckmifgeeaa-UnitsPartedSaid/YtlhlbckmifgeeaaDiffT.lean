/- The rows of Diff's answer, grown name by name; two lists of strings of the call's own. -/
import Derived.Test.YtlhlbckmifgeeaaDiffR
import Derived.Test.YtlhlbckmifgeeaaClone
namespace Go.Proofs.Ytlhlbckmifgeeaa
open Go.RowKit

theorem _root_.Go.RowKit.Below.next {a b c : World} (h : Below a.heap.size a b) (k : Below b.heap.size b c) : Below a.heap.size a c := h.trans (k.mono h.size)
theorem findI_cases (us : List U) (s : ByteArray) : findI us s = -1 ∨ ∃ i : Nat, findI us s = (i : Int) := by
  unfold findI
  cases findU us s with
  | none => exact Or.inl rfl
  | some i => exact Or.inr ⟨i, rfl⟩
theorem bit0_no {old fresh : List U} {k : Nat} {u : U} (hu : fresh[k]? = some u) (h : findI fresh u.name ≠ (k : Int) ∨ findI old u.name < 0) : bit0 old fresh k = false := by
  unfold bit0
  rw [hu]
  simp only
  split
  · rename_i j q h1 h2
    rcases h with h | h
    · have : j ≠ k := fun e => h (by rw [findI_eq.2 h1, e])
      simp [this]
    · rw [findI_eq.2 h2] at h; omega
  · rfl
theorem bit0_yes {old fresh : List U} {k q : Nat} {u x : U} (hu : fresh[k]? = some u) (hx : old[q]? = some x) (h : findI fresh u.name = (k : Int)) (h2 : findI old u.name = (q : Int)) : bit0 old fresh k = sameU x u := by
  unfold bit0
  rw [hu]
  simp only
  rw [findI_eq.1 h, findI_eq.1 h2]
  simp only
  rw [hx]
  simp
def oneIf : Value → Nat | .bool true => 1 | _ => 0
def boolOf : Value → Bool | .bool b => b | _ => false
theorem badB_at {old fresh : List U} {S : NSet} {s : ByteArray} {i : Nat} {u : U} (hf : findU fresh s = some i) (hu : fresh[i]? = some u) : badB old fresh S s = u.req.any (goneB old fresh S) := by
  unfold badB
  rw [hf]
  simp only
  rw [hu]
theorem stopP_succ {old : List U} {S : NSet} {i : Nat} {u : U} (hu : old[i]? = some u) : stopP old S (i + 1) = (if findI old u.name = i ∧ S u.name = false then [u.name] else []) ++ stopP old S i := by
  unfold stopP; rw [hu]; cases i <;> rfl
theorem keepP_succ {fresh : List U} {S : NSet} {i : Nat} {u : U} (hu : fresh[i]? = some u) : keepP fresh S (i + 1) = keepP fresh S i ++ (if findI fresh u.name = i ∧ S u.name = true then [u.name] else []) := by
  unfold keepP; rw [hu]; cases i <;> rfl
theorem startP_succ {fresh : List U} {S : NSet} {i : Nat} {u : U} (hu : fresh[i]? = some u) : startP fresh S (i + 1) = startP fresh S i ++ (if findI fresh u.name = i ∧ S u.name = false then [u.name] else []) := by
  unfold startP; rw [hu]; cases i <;> rfl
theorem stop_no {old : List U} {S : NSet} {i : Nat} {u : U} (hu : old[i]? = some u) (h : findI old u.name ≠ i ∨ S u.name = true) : stopP old S (i + 1) = stopP old S i := by
  rw [stopP_succ hu, if_neg]
  · rfl
  · rintro ⟨h1, h2⟩
    rcases h with h | h
    · exact h h1
    · rw [h] at h2; cases h2
theorem stop_yes {old : List U} {S : NSet} {i : Nat} {u : U} (hu : old[i]? = some u) (h : findI old u.name = i) (h2 : S u.name = false) : stopP old S (i + 1) = [u.name] ++ stopP old S i := by
  rw [stopP_succ hu, if_pos ⟨h, h2⟩]
theorem both_no {fresh : List U} {S : NSet} {i : Nat} {u : U} (hu : fresh[i]? = some u) (h : findI fresh u.name ≠ i) : keepP fresh S (i + 1) = keepP fresh S i ∧ startP fresh S (i + 1) = startP fresh S i := by
  rw [keepP_succ hu, startP_succ hu, if_neg (fun e => h e.1), if_neg (fun e => h e.1)]
  simp
theorem both_keep {fresh : List U} {S : NSet} {i : Nat} {u : U} (hu : fresh[i]? = some u) (h : findI fresh u.name = i) (h2 : S u.name = true) : keepP fresh S (i + 1) = keepP fresh S i ++ [u.name] ∧ startP fresh S (i + 1) = startP fresh S i := by
  rw [keepP_succ hu, startP_succ hu, if_pos ⟨h, h2⟩, if_neg (fun e => by rw [h2] at e; cases e.2)]
  simp
theorem both_start {fresh : List U} {S : NSet} {i : Nat} {u : U} (hu : fresh[i]? = some u) (h : findI fresh u.name = i) (h2 : S u.name = false) : keepP fresh S (i + 1) = keepP fresh S i ∧ startP fresh S (i + 1) = startP fresh S i ++ [u.name] := by
  rw [keepP_succ hu, startP_succ hu, if_neg (fun e => by rw [h2] at e; cases e.2), if_pos ⟨h, h2⟩]
  simp
/-- What is checked of a round of the answer's loop. -/
def Ok (old fresh : List U) (bs : List Bool) (k : Nat) : Prop := ∀ (j : Nat) (u : U), j < k → fresh[j]? = some u → bs[j]? = some true → u.req.any (goneB old fresh (refS fresh bs)) = false
def OkIn (old fresh : List U) (bs : List Bool) (u : U) (k : Nat) : Prop := ∀ (t : Nat) (r : ByteArray), t < k → u.req[t]? = some r → goneB old fresh (refS fresh bs) r = false
theorem Ok.zero (old fresh : List U) (bs : List Bool) : Ok old fresh bs 0 := fun _ _ h => absurd h (Nat.not_lt_zero _)
theorem OkIn.zero (old fresh : List U) (bs : List Bool) (u : U) : OkIn old fresh bs u 0 := fun _ _ h => absurd h (Nat.not_lt_zero _)
theorem OkIn.step {old fresh : List U} {bs : List Bool} {u : U} {k : Nat} {r : ByteArray} (h : OkIn old fresh bs u k) (hr : u.req[k]? = some r) (hg : goneB old fresh (refS fresh bs) r = false) : OkIn old fresh bs u (k + 1) := by
  intro t x ht hx
  by_cases e : t = k
  · subst e; rw [hr] at hx; cases hx; exact hg
  · exact h t x (by omega) hx
theorem Ok.step {old fresh : List U} {bs : List Bool} {u : U} {k : Nat} (h : Ok old fresh bs k) (hu : fresh[k]? = some u) (hg : bs[k]? = some false ∨ OkIn old fresh bs u u.req.length) : Ok old fresh bs (k + 1) := by
  intro j x hj hx hb
  by_cases e : j = k
  · subst e
    rw [hu] at hx
    cases hx
    rcases hg with hg | hg
    · rw [hg] at hb; cases hb
    · rw [List.any_eq_false]
      intro r hr
      obtain ⟨t, ht⟩ := List.getElem?_of_mem hr
      simp [hg t r (List.getElem?_eq_some_iff.1 ht).1 ht]
  · exact h j x (by omega) hx hb
theorem Ok.closed {old fresh : List U} {bs : List Bool} {n : Nat} (h : Ok old fresh bs n) (hn : fresh.length = n) : Closed old fresh (refS fresh bs) :=
  refS_closed fun i u hu hb => h i u (by rw [← hn]; exact (List.getElem?_eq_some_iff.1 hu).1) hu hb
theorem refGone_yes1 {old fresh : List U} {bs : List Bool} {r : ByteArray} {j : Nat} (h1 : findI fresh r = -1) (h2 : findI old r = (j : Int)) : goneB old fresh (refS fresh bs) r = true := by
  rw [refGone, h1, h2]; simp
theorem refGone_no1 {old fresh : List U} {bs : List Bool} {r : ByteArray} (h1 : findI fresh r = -1) (h2 : findI old r = -1) : goneB old fresh (refS fresh bs) r = false := by
  rw [refGone, h1, h2]; rfl
theorem refGone_at {old fresh : List U} {bs : List Bool} {r : ByteArray} {i : Nat} {x : Bool} (h1 : findI fresh r = (i : Int)) (hx : bs[i]? = some x) : goneB old fresh (refS fresh bs) r = !x := by
  rw [refGone, h1]
  have e : decide ((i : Int) < 0) = false := decide_eq_false (by omega)
  have e2 : decide ((0 : Int) ≤ (i : Int)) = true := decide_eq_true (by omega)
  rw [e, e2]
  simp [hx]
theorem refS_at {fresh : List U} {bs : List Bool} {s : ByteArray} {i : Nat} {x : Bool} (h : findI fresh s = (i : Int)) (hx : bs[i]? = some x) : refS fresh bs s = x := by
  rw [refS_some (findI_eq.1 h), hx]; rfl
theorem refS_no {fresh : List U} {bs : List Bool} {s : ByteArray} (h : findI fresh s = -1) : refS fresh bs s = false := by
  refine refS_none ?_
  unfold findI at h
  cases hf : findU fresh s with
  | none => rfl
  | some k => rw [hf] at h; simp at h
/-- One step of the answer's loop: a unit that requires what is gone goes too. -/
theorem ref_step {old fresh : List U} {bs : List Bool} {i : Nat} {u : U} {r : ByteArray} (hM : Mid old fresh (refS fresh bs)) (hF : FirstB fresh bs) (hu : fresh[i]? = some u) (hb : bs[i]? = some true) {t : Nat} (hr : u.req[t]? = some r) (hg : goneB old fresh (refS fresh bs) r = true) :
    Mid old fresh (refS fresh (bs.set i false)) ∧ FirstB fresh (bs.set i false) ∧ cntB (bs.set i false) + 1 ≤ cntB bs := by
  have hf := hF i u hu hb
  refine ⟨?_, first_del hF i, cntB_del hb⟩
  rw [refS_del hu hf]
  exact hM.del (refBad hu hf (List.mem_of_getElem? hr) hg)
theorem set_false_at {bs : List Bool} {i : Nat} (h : i < bs.length) : (bs.set i false)[i]? = some false := by simp [h]

/-- Two lists of strings of the call's own, in blocks of their own. -/
structure Two (base : Nat) (w : World) (tk ts : Value) (ks ss : List ByteArray) : Prop where
  keep : OS base w tk ks
  start : OS base w ts ss
  apart : ∀ j, tk.ownBlock = some j → ts.ownBlock ≠ some j
theorem Two.nil (base : Nat) (w : World) : Two base w (.slice none 0 0) (.slice none 0 0) [] [] :=
  ⟨World.ownsRow_nil _ _ _ _, World.ownsRow_nil _ _ _ _, fun j h => by cases h⟩
theorem Two.swap {base : Nat} {w : World} {tk ts : Value} {ks ss : List ByteArray} (h : Two base w tk ts ks ss) : Two base w ts tk ss ks :=
  ⟨h.start, h.keep, fun j h1 h2 => h.apart j h2 h1⟩
theorem Two.below {base : Nat} {w w' : World} {tk ts : Value} {ks ss : List ByteArray} (h : Two base w tk ts ks ss) (hb : Below w.heap.size w w') : Two base w' tk ts ks ss :=
  ⟨h.keep.below hb, h.start.below hb, h.apart⟩
theorem Two.push {base : Nat} {w w' : World} {tk ts v' : Value} {ks ss : List ByteArray} {s : ByteArray} (h : Two base w tk ts ks ss)
    (hown : w'.ownsRow base 9 1 v' (ks.length + 1) (ks.map Value.string ++ [.string s])) (hg : w.grownBy w' tk.ownBlock) (hl : v'.ownBlock = tk.ownBlock ∨ v'.ownBlock = some w.heap.size) : Two base w' v' ts (ks ++ [s]) ss := by
  refine ⟨OS.snoc hown, World.ownsRow.kept h.start hg ?_, ?_⟩
  · cases hb : ts.ownBlock with
    | none => exact Or.inl rfl
    | some j => exact Or.inr (fun e => h.apart j e.symm hb)
  · intro j hj he
    rcases hl with hl | hl
    · exact h.apart j (hl ▸ hj) he
    · rw [hl] at hj
      cases hj
      have := (World.ownsRow.lt h.start _ he).2
      omega
/-- An answer: three rows of names out of one set. -/
def DAns (w w' : World) (e : Ending) (old fresh : List U) (S : NSet) : Prop :=
  ∃ v1 v2 v3, e = .returned (.tuple #[v1, v2, v3]) ∧ SL w' v1 (stopP old S old.length) ∧ SL w' v2 (keepP fresh S fresh.length) ∧ SL w' v3 (startP fresh S fresh.length) ∧ Below w.heap.size w w'
theorem stopP_len (old : List U) (S : NSet) (i : Nat) : (stopP old S i).length ≤ i := by
  induction i with
  | zero => simp [stopP]
  | succ i ih =>
    unfold stopP
    rw [List.length_append]
    split
    · split <;> simp <;> omega
    · simp; omega
theorem keepP_len (fresh : List U) (S : NSet) (i : Nat) : (keepP fresh S i).length ≤ i := by
  induction i with
  | zero => simp [keepP]
  | succ i ih =>
    unfold keepP
    rw [List.length_append]
    split
    · split <;> simp <;> omega
    · simp; omega
theorem startP_len (fresh : List U) (S : NSet) (i : Nat) : (startP fresh S i).length ≤ i := by
  induction i with
  | zero => simp [startP]
  | succ i ih =>
    unfold startP
    rw [List.length_append]
    split
    · split <;> simp <;> omega
    · simp; omega
theorem stopP_mem {old : List U} {S : NSet} {i : Nat} {s : ByteArray} (h : s ∈ stopP old S i) : ∃ j u, j < i ∧ old[j]? = some u ∧ s = u.name ∧ findI old u.name = j ∧ S u.name = false := by
  induction i with
  | zero => simp [stopP] at h
  | succ i ih =>
    unfold stopP at h
    rcases List.mem_append.1 h with h | h
    · split at h
      · rename_i u hu
        split at h
        · rename_i hc
          simp at h
          exact ⟨i, u, by omega, hu, h, hc⟩
        · simp at h
      · simp at h
    · obtain ⟨j, u, hj, h2⟩ := ih h
      exact ⟨j, u, by omega, h2⟩
theorem keepP_mem {fresh : List U} {S : NSet} {i : Nat} {s : ByteArray} (h : s ∈ keepP fresh S i) : ∃ j u, j < i ∧ fresh[j]? = some u ∧ s = u.name ∧ findI fresh u.name = j ∧ S u.name = true := by
  induction i with
  | zero => simp [keepP] at h
  | succ i ih =>
    unfold keepP at h
    rcases List.mem_append.1 h with h | h
    · obtain ⟨j, u, hj, h2⟩ := ih h
      exact ⟨j, u, by omega, h2⟩
    · split at h
      · rename_i u hu
        split at h
        · rename_i hc
          simp at h
          exact ⟨i, u, by omega, hu, h, hc⟩
        · simp at h
      · simp at h
theorem startP_mem {fresh : List U} {S : NSet} {i : Nat} {s : ByteArray} (h : s ∈ startP fresh S i) : ∃ j u, j < i ∧ fresh[j]? = some u ∧ s = u.name ∧ findI fresh u.name = j ∧ S u.name = false := by
  induction i with
  | zero => simp [startP] at h
  | succ i ih =>
    unfold startP at h
    rcases List.mem_append.1 h with h | h
    · obtain ⟨j, u, hj, h2⟩ := ih h
      exact ⟨j, u, by omega, h2⟩
    · split at h
      · rename_i u hu
        split at h
        · rename_i hc
          simp at h
          exact ⟨i, u, by omega, hu, h, hc⟩
        · simp at h
      · simp at h
end Go.Proofs.Ytlhlbckmifgeeaa
