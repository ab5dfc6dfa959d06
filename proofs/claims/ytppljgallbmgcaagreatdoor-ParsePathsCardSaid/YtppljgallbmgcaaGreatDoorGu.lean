/- ParSim, ParSi2, ParSi3, ParFl, LxC. -/
import Derived.Test.YtppljgallbmgcaaGreatDoorGi
import Derived.Test.YtppljgallbmgcaaGreatDoorGq
/- A parse that is taken: elsewhere, with other tokens behind, and so many levels further in. -/
namespace Go.Proofs.YtppljgallbmgcaaGreatDoor
open Go.RowKit
def mvk (d : Nat) (t : Tok) : Tok := { t with place := t.place + d }
mutual
def T.mv (d : Nat) : T → T
  | .mk k t n x ns p ks => .mk k t n x ns (p + d) (mvKs d ks)
def mvKs (d : Nat) : List T → List T
  | [] => []
  | t :: ks => t.mv d :: mvKs d ks
end
theorem mv_mk (d : Nat) (k : Int) (tx : ByteArray) (n : Int) (x : Nat) (ns : List ByteArray) (p : Nat) (ks : List T) : (T.mk k tx n x ns p ks).mv d = .mk k tx n x ns (p + d) (mvKs d ks) := by simp [T.mv]
theorem mvKs_nil (d : Nat) : mvKs d [] = [] := by simp [mvKs]
theorem mvKs_cons (d : Nat) (t : T) (ks : List T) : mvKs d (t :: ks) = t.mv d :: mvKs d ks := by simp [mvKs]
theorem mvKs_map (d : Nat) (ks : List T) : mvKs d ks = ks.map (T.mv d) := by
  induction ks with
  | nil => simp [mvKs]
  | cons t ks ih => simp [mvKs, ih]
theorem mvKs_app (d : Nat) (ks ls : List T) : mvKs d (ks ++ ls) = mvKs d ks ++ mvKs d ls := by simp [mvKs_map]
theorem mv_place (d : Nat) (t : T) : (t.mv d).place = t.place + d := by cases t; simp [T.mv, T.place]
def okS (s : ByteArray) : Prop := ((⟨#[41]⟩ : ByteArray).toList == s.toList) = false ∧ ((⟨#[59]⟩ : ByteArray).toList == s.toList) = false
/-- What may stand behind: the end, or one of two signs. -/
def InertT (h : Tok) : Prop := h.kind = 0 ∨ h.kind = 5 ∧ (h.text = ⟨#[41]⟩ ∨ h.text = ⟨#[59]⟩)
def Inert (tl : List Tok) : Prop := ∃ h us, tl = h :: us ∧ InertT h
inductive Em (d : Nat) (tl : List Tok) : List Tok → List Tok → Prop
  | fin {e : Tok} : e.kind = 0 → Em d tl [e] tl
  | tok {t : Tok} {ts ts' : List Tok} : t.kind ≠ 0 → Em d tl ts ts' → Em d tl (t :: ts) (mvk d t :: ts')
theorem inert_isT {h : Tok} (hi : InertT h) {s : ByteArray} (hs : okS s) : isT s h = false := by
  unfold isT
  rcases hi with h0 | ⟨h5, ht | ht⟩
  · rw [h0]; simp
  · rw [ht, hs.1]; rfl
  · rw [ht, hs.2]; rfl
theorem inert_begT {h : Tok} (hi : InertT h) : begT h = false := by
  unfold begT
  rcases hi with h0 | ⟨h5, ht | ht⟩
  · rw [h0]; rfl
  · rw [h5, ht]; kernel_rfl
  · rw [h5, ht]; kernel_rfl
theorem inert_nameT {h : Tok} (hi : InertT h) : nameT h = false := by
  unfold nameT
  rcases hi with h0 | ⟨h5, _⟩
  · rw [h0]; rfl
  · rw [h5]; rfl
theorem inert_4 {h : Tok} (hi : InertT h) : (decide (h.kind = 4)) = false := by
  rcases hi with h0 | ⟨h5, _⟩
  · rw [h0]; rfl
  · rw [h5]; rfl
theorem inert_any {h : Tok} (hi : InertT h) {ss : List ByteArray} (hs : ∀ s ∈ ss, okS s) : (decide (h.kind = 5) && ss.any (fun s => h.text.toList == s.toList)) = false := by
  rcases hi with h0 | ⟨h5, ht | ht⟩
  · rw [h0]; rfl
  · rw [Bool.and_eq_false_iff]; right
    rw [List.any_eq_false]
    intro s h1
    rw [ht, (hs s h1).1]; simp
  · rw [Bool.and_eq_false_iff]; right
    rw [List.any_eq_false]
    intro s h1
    rw [ht, (hs s h1).2]; simp
theorem e_inert {e : Tok} (h : e.kind = 0) : InertT e := Or.inl h
section
variable {d : Nat} {tl : List Tok} (hT : Inert tl)
theorem Em.len {ts ts' : List Tok} (h : Em d tl ts ts') : ts'.length + 1 = ts.length + tl.length := by
  induction h with
  | fin _ => simp; omega
  | tok _ _ ih => simp; omega
theorem Em.ne {ts ts' : List Tok} (h : Em d tl ts ts') : 0 < ts.length := by cases h <;> simp
include hT
theorem Em.ne' {ts ts' : List Tok} (h : Em d tl ts ts') : 0 < ts'.length := by
  obtain ⟨x, us, rfl, _⟩ := hT
  cases h <;> simp
theorem isP_em {s : ByteArray} (hs : okS s) {ts ts' : List Tok} (h : Em d tl ts ts') : isP s ts' = isP s ts := by
  cases h with
  | fin h0 =>
    obtain ⟨x, us, rfl, hi⟩ := hT
    show isT s x = isT s _
    rw [inert_isT hi hs, inert_isT (e_inert h0) hs]
  | tok _ h => rfl
theorem anyP_em {ss : List ByteArray} (hs : ∀ s ∈ ss, okS s) {ts ts' : List Tok} (h : Em d tl ts ts') : anyP ss ts' = anyP ss ts := by
  cases h with
  | fin h0 =>
    obtain ⟨x, us, rfl, hi⟩ := hT
    show (decide (x.kind = 5) && ss.any (fun s => x.text.toList == s.toList)) = (decide (_ = 5) && ss.any (fun s => _ == s.toList))
    rw [inert_any hi hs, inert_any (e_inert h0) hs]
  | tok _ h => rfl
theorem begP_em {ts ts' : List Tok} (h : Em d tl ts ts') : begP ts' = begP ts := by
  cases h with
  | fin h0 =>
    obtain ⟨x, us, rfl, hi⟩ := hT
    show begT x = begT _
    rw [inert_begT hi, inert_begT (e_inert h0)]
  | tok _ h => rfl
omit hT
theorem isP_true {s : ByteArray} {ts ts' : List Tok} (h : Em d tl ts ts') (hc : isP s ts = true) : ∃ t us us', ts = t :: us ∧ ts' = mvk d t :: us' ∧ Em d tl us us' ∧ isT s t = true := by
  cases h with
  | fin h0 => exact absurd h0 (isT_kind hc)
  | @tok t _ _ _ h => exact ⟨t, _, _, rfl, rfl, h, hc⟩
theorem anyP_true {ss : List ByteArray} {ts ts' : List Tok} (h : Em d tl ts ts') (hc : anyP ss ts = true) : ∃ t us us', ts = t :: us ∧ ts' = mvk d t :: us' ∧ Em d tl us us' := by
  cases h with
  | fin h0 => obtain ⟨t, us, e, hk⟩ := anyP_cons hc; cases e; omega
  | @tok t _ _ _ h => exact ⟨t, _, _, rfl, rfl, h⟩
theorem needP_em {s : ByteArray} {ts ts' us : List Tok} (h : Em d tl ts ts') (hc : needP s ts = .ok us) : ∃ us', needP s ts' = .ok us' ∧ Em d tl us us' := by
  unfold needP at hc
  split at hc
  · rename_i h1
    cases hc
    obtain ⟨t, us, us', rfl, rfl, h2, h3⟩ := isP_true h h1
    refine ⟨us', ?_, h2⟩
    unfold needP
    rw [if_pos (show isP s (mvk d t :: us') = true from h3)]
    rfl
  · cases hc
theorem attrP_em {ts ts' us : List Tok} {n : ByteArray} (h : Em d tl ts ts') (hc : attrP ts = .ok (n, us)) : ∃ us', attrP ts' = .ok (n, us') ∧ Em d tl us us' := by
  cases h with
  | fin h0 =>
    unfold attrP at hc
    simp only at hc
    rw [inert_nameT (e_inert h0), inert_4 (e_inert h0)] at hc
    simp at hc
  | @tok t _ _ _ h =>
    unfold attrP at hc ⊢
    simp only at hc ⊢
    split at hc
    · rename_i h1
      cases hc
      exact ⟨_, if_pos h1, h⟩
    · cases hc
/-- The one result is that of the other, moved; or too deep. -/
def Ends {α : Type} (mv : α → α) (m : Bool) (d : Nat) (tl : List Tok) (r r' : Res α) : Prop :=
  ∀ a us, r = .ok (a, us) → (∃ us', r' = .ok (mv a, us') ∧ Em d tl us us') ∨ (m = true ∧ ∃ p, r' = .error (p, 9))
def Sim (m : Bool) (d : Nat) (tl : List Tok) (f g : List Tok → Res T) : Prop := ∀ ts ts', Em d tl ts ts' → Ends (T.mv d) m d tl (f ts) (g ts')
def Sim2 (m : Bool) (d : Nat) (tl : List Tok) (f g : List Tok → Res T) : Prop := ∀ t ts ts', Em d tl ts ts' → Ends (T.mv d) m d tl (f (t :: ts)) (g (mvk d t :: ts'))
variable {m : Bool}
include hT
theorem leftL_sim {f g : List Tok → Res T} (h : Sim m d tl f g) (hz : Sz f) {ss : List ByteArray} (hs : ∀ s ∈ ss, okS s) : ∀ (k k' : Nat) (a : T) (ts ts' : List Tok), Em d tl ts ts' → ts.length ≤ k → ts'.length ≤ k' →
    Ends (T.mv d) m d tl (leftL f ss k a ts) (leftL g ss k' (a.mv d) ts') := by
  intro k
  induction k with
  | zero => intro k' a ts ts' he h1 h2; have := he.ne; omega
  | succ k ih =>
    intro k' a ts ts' he h1 h2 b us hr
    obtain ⟨k', rfl⟩ : ∃ j, k' = j + 1 := ⟨k' - 1, by have := he.ne' hT; omega⟩
    unfold leftL at hr ⊢
    rw [anyP_em hT hs he]
    split at hr
    · rename_i hc
      obtain ⟨t, u1, u1', rfl, rfl, h3⟩ := anyP_true he hc
      rw [if_pos hc]
      simp only at hr ⊢
      split at hr
      · rename_i c u2 hb
        rcases h _ _ h3 _ _ hb with ⟨u2', h4, h5⟩ | ⟨h4, p, h5⟩
        · rw [h4]
          have h6 := hz _ _ _ hb
          have h7 := h5.len
          have h8 := h3.len
          simp only [List.length_cons] at h1 h2
          have h9 : (binT t a c).mv d = binT (mvk d t) (a.mv d) (c.mv d) := by simp [binT, mv_mk, mvKs, mvk]
          rw [← h9] at *
          exact ih k' _ _ _ h5 (by omega) (by omega) _ _ hr
        · rw [h5]; exact Or.inr ⟨h4, p, rfl⟩
      · cases hr
    · rename_i hc
      cases hr
      rw [if_neg hc]
      exact Or.inl ⟨_, rfl, he⟩
theorem leftP_sim {f g : List Tok → Res T} (h : Sim m d tl f g) (hz : Sz f) {ss : List ByteArray} (hs : ∀ s ∈ ss, okS s) : Sim m d tl (leftP f ss) (leftP g ss) := by
  intro ts ts' he b us hr
  unfold leftP at hr ⊢
  split at hr
  · rename_i a u1 ha
    rcases h _ _ he _ _ ha with ⟨u1', h4, h5⟩ | ⟨h4, p, h5⟩
    · rw [h4]
      exact leftL_sim hT h hz hs _ _ _ _ _ h5 (Nat.le_refl _) (Nat.le_refl _) _ _ hr
    · rw [h5]; exact Or.inr ⟨h4, p, rfl⟩
  · cases hr
theorem onceP_sim {f g : List Tok → Res T} (h : Sim m d tl f g) {ss : List ByteArray} (hs : ∀ s ∈ ss, okS s) : Sim m d tl (onceP f ss) (onceP g ss) := by
  intro ts ts' he b us hr
  unfold onceP at hr ⊢
  split at hr
  · rename_i a u1 ha
    rcases h _ _ he _ _ ha with ⟨u1', h4, h5⟩ | ⟨h4, p, h5⟩
    · rw [h4]
      simp only
      rw [anyP_em hT hs h5]
      split at hr
      · rename_i hc
        obtain ⟨t, u2, u2', rfl, rfl, h6⟩ := anyP_true h5 hc
        rw [if_pos hc]
        simp only at hr ⊢
        split at hr
        · rename_i c u3 hb
          cases hr
          rcases h _ _ h6 _ _ hb with ⟨u3', h7, h8⟩ | ⟨h7, p, h8⟩
          · rw [h7]
            exact Or.inl ⟨_, by simp [binT, mv_mk, mvKs, mvk], h8⟩
          · rw [h8]; exact Or.inr ⟨h7, p, rfl⟩
        · cases hr
      · rename_i hc
        cases hr
        rw [if_neg hc]
        exact Or.inl ⟨_, rfl, h5⟩
    · rw [h5]; exact Or.inr ⟨h4, p, rfl⟩
  · cases hr
theorem rightP_sim {r r' f g : List Tok → Res T} (h0 : Sim m d tl r r') (h : Sim m d tl f g) {s : ByteArray} (hs : okS s) : Sim m d tl (rightP' r f s) (rightP' r' g s) := by
  intro ts ts' he b us hr
  unfold rightP' at hr ⊢
  split at hr
  · rename_i a u1 ha
    rcases h _ _ he _ _ ha with ⟨u1', h4, h5⟩ | ⟨h4, p, h5⟩
    · rw [h4]
      simp only
      rw [isP_em hT hs h5]
      split at hr
      · rename_i hc
        obtain ⟨t, u2, u2', rfl, rfl, h6, _⟩ := isP_true h5 hc
        rw [if_pos hc]
        simp only at hr ⊢
        split at hr
        · rename_i c u3 hb
          cases hr
          rcases h0 _ _ h6 _ _ hb with ⟨u3', h7, h8⟩ | ⟨h7, p, h8⟩
          · rw [h7]
            exact Or.inl ⟨_, by simp [binT, mv_mk, mvKs, mvk], h8⟩
          · rw [h8]; exact Or.inr ⟨h7, p, rfl⟩
        · cases hr
      · rename_i hc
        cases hr
        rw [if_neg hc]
        exact Or.inl ⟨_, rfl, h5⟩
    · rw [h5]; exact Or.inr ⟨h4, p, rfl⟩
  · cases hr
theorem prefixP_sim {r r' f g : List Tok → Res T} (h0 : Sim2 m d tl r r') (h : Sim m d tl f g) {s : ByteArray} (hs : okS s) (kind : Int) : Sim m d tl (prefixP r f s kind) (prefixP r' g s kind) := by
  intro ts ts' he b us hr
  unfold prefixP at hr ⊢
  rw [isP_em hT hs he]
  split at hr
  · rename_i hc
    obtain ⟨t, u2, u2', rfl, rfl, h6, _⟩ := isP_true he hc
    rw [if_pos hc]
    split at hr
    · rename_i c u3 hb
      cases hr
      rcases h0 _ _ _ h6 _ _ hb with ⟨u3', h7, h8⟩ | ⟨h7, p, h8⟩
      · rw [h7]
        exact Or.inl ⟨_, by simp [mv_mk, mvKs, mvk, placeP], h8⟩
      · rw [h8]; exact Or.inr ⟨h7, p, rfl⟩
    · cases hr
  · rename_i hc
    rw [if_neg hc]
    exact h _ _ he _ _ hr
end
end Go.Proofs.YtppljgallbmgcaaGreatDoor

/- A parse that is taken, elsewhere: sets. -/
namespace Go.Proofs.YtppljgallbmgcaaGreatDoor
open Go.RowKit
def Kid.mv (d : Nat) : Kid → Kid | .leaf t => .leaf (t.mv d) | .made j => .made j
def SO.mv (d : Nat) (o : SO) : SO := ⟨o.names, o.kids.map (Kid.mv d), o.place + d⟩
def mvA (d : Nat) (ar : Ar) : Ar := ar.map (SO.mv d)
theorem mvA_len (d : Nat) (ar : Ar) : (mvA d ar).length = ar.length := by simp [mvA]
theorem mvA_get (d : Nat) (ar : Ar) (i : Nat) : (mvA d ar)[i]? = (ar[i]?).map (SO.mv d) := by simp [mvA]
theorem SO.mv_add (d : Nat) (o : SO) (n : ByteArray) (k : Kid) : (o.add n k).mv d = (o.mv d).add n (k.mv d) := by simp [SO.mv, SO.add]
theorem mvA_addAt (d : Nat) (ar : Ar) (i : Nat) (n : ByteArray) (k : Kid) : mvA d (ar.addAt i n k) = (mvA d ar).addAt i n (k.mv d) := by
  apply List.ext_getElem?
  intro j
  rw [mvA_get, addAt_get, addAt_get, mvA_get]
  split
  · cases ar[j]? with
    | none => rfl
    | some o => simp [SO.mv_add]
  · rfl
theorem makeP_mv (d p : Nat) : ∀ (rest : List ByteArray) (ar : Ar) (i : Nat), makeP (p + d) (mvA d ar) i rest = (mvA d (makeP p ar i rest).1, (makeP p ar i rest).2) := by
  intro rest
  induction rest with
  | nil => intro ar i; simp [makeP]
  | cons n rest ih =>
    intro ar i
    have e : (mvA d ar).addAt i n (.made (mvA d ar).length) ++ [⟨[], [], p + d⟩] = mvA d (ar.addAt i n (.made ar.length) ++ [⟨[], [], p⟩]) := by
      have h1 : mvA d (ar.addAt i n (.made ar.length) ++ [⟨[], [], p⟩]) = mvA d (ar.addAt i n (.made ar.length)) ++ [⟨[], [], p + d⟩] := by simp [mvA, SO.mv]
      rw [h1, mvA_addAt, mvA_len]
      rfl
    unfold makeP
    rw [e, mvA_len, ih]
theorem walkP_mv (d : Nat) (ar : Ar) (e e' : Er) : ∀ (path : List ByteArray) (i : Nat) (r : Nat × List ByteArray), walkP ar e i path = .ok r → walkP (mvA d ar) e' i path = .ok r := by
  intro path
  induction path with
  | nil => intro i r h; unfold walkP at h ⊢; exact h
  | cons x path ih =>
    intro i r h
    unfold walkP at h ⊢
    rw [mvA_get]
    cases ho : ar[i]? with
    | none => rw [ho] at h; exact h
    | some o =>
      rw [ho] at h
      simp only [Option.map_some] at h ⊢
      have hn : (o.mv d).names = o.names := rfl
      rw [hn]
      cases hi : idxP o.names x with
      | none => rw [hi] at h; exact h
      | some j =>
        rw [hi] at h
        simp only at h ⊢
        have hk : (o.mv d).kids[j]? = (o.kids[j]?).map (Kid.mv d) := by simp [SO.mv]
        rw [hk]
        cases hj : o.kids[j]? with
        | none => rw [hj] at h; cases h
        | some k =>
          rw [hj] at h
          cases k with
          | leaf t => cases h
          | made g => exact ih g r h
theorem hasP_mv (d : Nat) (ar : Ar) (i : Nat) (s : ByteArray) : hasP (mvA d ar) i s = hasP ar i s := by
  unfold hasP
  rw [mvA_get]
  cases ar[i]? <;> rfl
theorem mv_kidT (d : Nat) (ar : Ar) (f : Nat) (k : Kid) (h : ∀ j, k = .made j → treeOf (mvA d ar) f j = (treeOf ar f j).mv d) : kidT (mvA d ar) f (k.mv d) = (kidT ar f k).mv d := by
  cases k with
  | leaf t => rfl
  | made j => exact h j rfl
theorem made_mem {o : SO} {j : Nat} (h : Kid.made j ∈ o.kids) : j ∈ kidsM o := by
  unfold kidsM
  rw [List.mem_filterMap]
  exact ⟨_, h, rfl⟩
theorem treeOf_mv (d : Nat) {ar : Ar} (hu : Uq ar) : ∀ (f i : Nat), i < ar.length → ar.length ≤ i + f → treeOf (mvA d ar) f i = (treeOf ar f i).mv d := by
  intro f
  induction f with
  | zero => intro i h1 h2; omega
  | succ f ih =>
    intro i h1 h2
    have ho : ar[i]? = some ar[i] := List.getElem?_eq_getElem h1
    have ho' : (mvA d ar)[i]? = some (ar[i].mv d) := by rw [mvA_get, ho]; rfl
    rw [treeOf_some f ho, treeOf_some f ho', mv_mk, mvKs_map]
    have hk : (ar[i].mv d).kids = ar[i].kids.map (Kid.mv d) := rfl
    rw [hk, List.map_map, List.map_map]
    have : List.map (kidT (mvA d ar) f ∘ Kid.mv d) ar[i].kids = List.map (T.mv d ∘ kidT ar f) ar[i].kids := by
      apply List.map_congr_left
      intro k hk
      exact mv_kidT d ar f k fun j hj => by
        subst hj
        have := hu.lt i _ j ho (made_mem hk)
        exact ih j this.2 (by omega)
    rw [this]
    rfl
theorem rootOf_mv (d : Nat) {ar : Ar} (hu : Uq ar) (h0 : 0 < ar.length) (kind : Int) (p : Nat) (more : List T) : rootOf kind (p + d) (mvKs d more) (mvA d ar) = (rootOf kind p more ar).mv d := by
  unfold rootOf
  rw [mvA_len, treeOf_mv d hu _ 0 h0 (by omega)]
  cases treeOf ar (ar.length + 1) 0 with
  | mk k t n x ns q ks => simp [mv_mk, mvKs_app]
theorem inhL_le : ∀ (k : Nat) (ar : Ar) (ts : List Tok) (ar' : Ar) (us : List Tok), inhL k ar ts = .ok (ar', us) → us.length ≤ ts.length := by
  intro k
  induction k with
  | zero => intro ar ts ar' us he; cases he; exact Nat.le_refl _
  | succ k ih =>
    intro ar ts ar' us he
    unfold inhL at he
    split at he
    · split at he
      · split at he
        · cases he
        · have := ih _ _ _ _ he
          simp
          omega
      · cases he; exact Nat.le_refl _
    · cases he; exact Nat.le_refl _
theorem pathL_le : ∀ (k : Nat) (path : List ByteArray) (ts : List Tok) (p' : List ByteArray) (us : List Tok), pathL k path ts = .ok (p', us) → us.length ≤ ts.length := by
  intro k
  induction k with
  | zero => intro path ts p' us he; cases he; exact Nat.le_refl _
  | succ k ih =>
    intro path ts p' us he
    unfold pathL at he
    split at he
    · rename_i hc
      have h1 := isP_len hc
      split at he
      · rename_i n vs ha
        have h2 := attrP_len ha
        have h3 := ih _ _ _ _ he
        omega
      · cases he
    · cases he; exact Nat.le_refl _
theorem bindP_le {f : List Tok → Res T} (hz : Sz f) {ar ar' : Ar} {ts us : List Tok} (he : bindP f ar ts = .ok (ar', us)) : us.length < ts.length := by
  unfold bindP at he
  split at he
  · cases he
  · rename_i n0 u1 ha
    have h1 := attrP_len ha
    split at he
    · cases he
    · rename_i path u2 hp
      have h2 := pathL_le _ _ _ _ _ hp
      split at he
      · cases he
      · rename_i u3 hn
        have h3 := needP_len hn
        split at he
        · cases he
        · split at he
          · cases he
          · split at he
            · cases he
            · rename_i v u4 hv
              have h4 := hz _ _ _ hv
              split at he
              · cases he
              · rename_i u5 hs
                have h5 := needP_len hs
                cases he
                omega
section
variable {d : Nat} {tl : List Tok} (hT : Inert tl) {m : Bool}
include hT
theorem inhL_em : ∀ (k k' : Nat) (ar : Ar) (ts ts' : List Tok) (ar' : Ar) (us : List Tok), Em d tl ts ts' → ts.length ≤ k → ts'.length ≤ k' → inhL k ar ts = .ok (ar', us) →
    ∃ us', inhL k' (mvA d ar) ts' = .ok (mvA d ar', us') ∧ Em d tl us us' := by
  intro k
  induction k with
  | zero => intro k' ar ts ts' ar' us he h1 h2; have := he.ne; omega
  | succ k ih =>
    intro k' ar ts ts' ar' us he h1 h2 hr
    obtain ⟨k', rfl⟩ : ∃ j, k' = j + 1 := ⟨k' - 1, by have := he.ne' hT; omega⟩
    cases he with
    | fin h0 =>
      obtain ⟨x, xs, rfl, hi⟩ := hT
      unfold inhL at hr ⊢
      simp only at hr ⊢
      rw [inert_nameT (e_inert h0)] at hr
      rw [inert_nameT hi]
      cases hr
      exact ⟨_, rfl, .fin h0⟩
    | @tok t ts ts' hk he =>
      have h9 := he.len
      simp only [List.length_cons] at h1 h2
      unfold inhL at hr ⊢
      simp only at hr ⊢
      have e1 : nameT (mvk d t) = nameT t := rfl
      rw [e1]
      split at hr
      · rename_i hc
        rw [if_pos hc]
        have e2 : (((mvA d ar).head?.map (·.names)).getD []) = ((ar.head?.map (·.names)).getD []) := by
          cases ar <;> rfl
        rw [e2]
        split at hr
        · cases hr
        · rename_i hd
          have ex : (mvk d t).text = t.text := rfl
          rw [ex, if_neg hd]
          have e3 : (mvA d ar).addAt 0 t.text (.leaf (leafI (mvk d t))) = mvA d (ar.addAt 0 t.text (.leaf (leafI t))) := by
            rw [mvA_addAt]
            simp [Kid.mv, leafI, mv_mk, mvKs, mvk]
          rw [e3]
          exact ih k' _ _ _ _ _ he (by omega) (by omega) hr
      · rename_i hc
        cases hr
        rw [if_neg hc]
        exact ⟨_, rfl, .tok hk he⟩
theorem pathL_em (hdot : okS ⟨#[46]⟩) : ∀ (k k' : Nat) (path : List ByteArray) (ts ts' : List Tok) (p' : List ByteArray) (us : List Tok), Em d tl ts ts' → ts.length ≤ k → ts'.length ≤ k' → pathL k path ts = .ok (p', us) →
    ∃ us', pathL k' path ts' = .ok (p', us') ∧ Em d tl us us' := by
  intro k
  induction k with
  | zero => intro k' ar ts ts' ar' us he h1 h2; have := he.ne; omega
  | succ k ih =>
    intro k' path ts ts' p' us he h1 h2 hr
    obtain ⟨k', rfl⟩ : ∃ j, k' = j + 1 := ⟨k' - 1, by have := he.ne' hT; omega⟩
    unfold pathL at hr ⊢
    rw [isP_em hT hdot he]
    split at hr
    · rename_i hc
      obtain ⟨t, u1, u1', rfl, rfl, h3, _⟩ := isP_true he hc
      rw [if_pos hc]
      split at hr
      · rename_i n u2 ha
        obtain ⟨u2', h4, h5⟩ := attrP_em h3 ha
        rw [List.tail_cons, h4]
        have h6 := attrP_len ha
        have h7 := h5.len
        have h8 := h3.len
        simp only [List.length_cons, List.tail_cons] at h1 h2 h6
        exact ih k' _ _ _ _ _ h5 (by omega) (by omega) hr
      · cases hr
    · rename_i hc
      cases hr
      rw [if_neg hc]
      exact ⟨_, rfl, he⟩
theorem bindP_sim (hdot : okS ⟨#[46]⟩) {f g : List Tok → Res T} (h : Sim m d tl f g) (ar : Ar) (t : Tok) (hk : t.kind ≠ 0) (ts ts' : List Tok) (he : Em d tl ts ts') : Ends (mvA d) m d tl (bindP f ar (t :: ts)) (bindP g (mvA d ar) (mvk d t :: ts')) := by
  intro ar' us hr
  unfold bindP at hr ⊢
  split at hr
  · cases hr
  · rename_i n0 u1 ha
    obtain ⟨u1', a1, a2⟩ := attrP_em (.tok hk he) ha
    rw [a1]
    simp only
    split at hr
    · cases hr
    · rename_i path u2 hp
      obtain ⟨u2', b1, b2⟩ := pathL_em hT hdot _ _ _ _ _ _ _ a2 (Nat.le_refl _) (Nat.le_refl _) hp
      rw [b1]
      simp only
      split at hr
      · cases hr
      · rename_i u3 hn
        obtain ⟨u3', c1, c2⟩ := needP_em b2 hn
        rw [c1]
        simp only
        split at hr
        · cases hr
        · rename_i at' rest hw
          rw [walkP_mv d ar _ (placeP (mvk d t :: ts'), 10) _ _ _ hw]
          simp only
          rw [hasP_mv]
          split at hr
          · cases hr
          · rename_i hc
            rw [if_neg hc]
            split at hr
            · cases hr
            · rename_i v u4 hv
              rcases h _ _ c2 _ _ hv with ⟨u4', h4, h5⟩ | ⟨h4, p, h5⟩
              · rw [h4]
                simp only
                split at hr
                · cases hr
                · rename_i u5 hs
                  obtain ⟨u5', g1, g2⟩ := needP_em h5 hs
                  rw [g1]
                  simp only
                  cases hr
                  refine Or.inl ⟨_, ?_, g2⟩
                  have e : placeP (mvk d t :: ts') = placeP (t :: ts) + d := rfl
                  rw [e, makeP_mv, mvA_addAt]
                  rfl
              · rw [h5]; exact Or.inr ⟨h4, p, rfl⟩
theorem bindsL_sim (hdot : okS ⟨#[46]⟩) (hinh : okS ⟨#[105, 110, 104, 101, 114, 105, 116]⟩) {f g : List Tok → Res T} (h : Sim m d tl f g) (hz : Sz f) : ∀ (k k' : Nat) (ar : Ar) (ts ts' : List Tok), Uq ar → 0 < ar.length → Em d tl ts ts' → ts.length ≤ k → ts'.length ≤ k' →
    Ends (mvA d) m d tl (bindsL f k ar ts) (bindsL g k' (mvA d ar) ts') := by
  intro k
  induction k with
  | zero => intro k' a ts ts' _ _ he h1 h2; have := he.ne; omega
  | succ k ih =>
    intro k' ar ts ts' hu h0 he h1 h2 ar' us hr
    obtain ⟨k', rfl⟩ : ∃ j, k' = j + 1 := ⟨k' - 1, by have := he.ne' hT; omega⟩
    cases he with
    | fin h0 =>
      obtain ⟨x, xs, rfl, hi⟩ := hT
      unfold bindsL at hr ⊢
      simp only at hr ⊢
      rw [inert_isT (e_inert h0) hinh, inert_nameT (e_inert h0), inert_4 (e_inert h0)] at hr
      rw [inert_isT hi hinh, inert_nameT hi, inert_4 hi]
      simp only [Bool.or_false, Bool.false_eq_true, if_false] at hr ⊢
      cases hr
      exact Or.inl ⟨_, rfl, .fin h0⟩
    | @tok t ts ts' hk he =>
      have h9 := he.len
      simp only [List.length_cons] at h1 h2
      unfold bindsL at hr ⊢
      simp only at hr ⊢
      have e1 : isT ⟨#[105, 110, 104, 101, 114, 105, 116]⟩ (mvk d t) = isT ⟨#[105, 110, 104, 101, 114, 105, 116]⟩ t := rfl
      have e2 : nameT (mvk d t) = nameT t := rfl
      have e3 : (mvk d t).kind = t.kind := rfl
      rw [e1, e2, e3]
      split at hr
      · rename_i hc
        rw [if_pos hc]
        split at hr
        · cases hr
        · rename_i ar1 u1 hi
          obtain ⟨u1', a1, a2⟩ := inhL_em hT _ ts'.length _ _ _ _ _ he (Nat.le_refl _) (Nat.le_refl _) hi
          rw [a1]
          simp only
          obtain ⟨z1, z2, z3⟩ := inhL_sz _ _ _ _ _ hu h0 hi
          split at hr
          · cases hr
          · rename_i u2 hn
            obtain ⟨u2', c1, c2⟩ := needP_em a2 hn
            rw [c1]
            simp only
            have h6 := needP_len hn
            have h7 := c2.len
            have h8 := a2.len
            have h10 := inhL_le _ _ _ _ _ hi
            exact ih k' _ _ _ z1 z2 c2 (by omega) (by omega) _ _ hr
      · rename_i hc
        rw [if_neg hc]
        split at hr
        · rename_i hd
          rw [if_pos hd]
          split at hr
          · cases hr
          · rename_i ar1 u1 hb
            rcases bindP_sim hT hdot h ar t hk _ _ he _ _ hb with ⟨u1', h4, h5⟩ | ⟨h4, p, h5⟩
            · rw [h4]
              simp only
              obtain ⟨z1, z2, z3⟩ := bindP_sz hz ar _ _ _ hu h0 hb
              have h7 := h5.len
              have h8 := bindP_le hz hb
              simp only [List.length_cons] at h8
              exact ih k' _ _ _ z1 z2 h5 (by omega) (by omega) _ _ hr
            · rw [h5]; exact Or.inr ⟨h4, p, rfl⟩
        · rename_i hd
          rw [if_neg hd]
          cases hr
          exact Or.inl ⟨_, rfl, .tok hk he⟩
theorem bracesP_sim (hdot : okS ⟨#[46]⟩) (hinh : okS ⟨#[105, 110, 104, 101, 114, 105, 116]⟩) {f g : List Tok → Res T} (h : Sim m d tl f g) (hz : Sz f) (kind : Int) (p : Nat) : ∀ ts ts', Em d tl ts ts' → Ends (T.mv d) m d tl (bracesP f kind p ts) (bracesP g kind (p + d) ts') := by
  intro ts ts' he a us hr
  unfold bracesP bindsP at hr ⊢
  have hstart : ([⟨[], [], p + d⟩] : Ar) = mvA d [⟨[], [], p⟩] := rfl
  rw [hstart]
  cases hb : bindsL f ts.length [⟨[], [], p⟩] ts with
  | error e => rw [hb] at hr; cases hr
  | ok r =>
    obtain ⟨ar, u1⟩ := r
    rw [hb] at hr
    simp only at hr
    rcases bindsL_sim hT hdot hinh h hz _ ts'.length _ _ _ (uq_one p).1 (by simp) he (Nat.le_refl _) (Nat.le_refl _) _ _ hb with ⟨u1', h4, h5⟩ | ⟨h4, q, h5⟩
    · rw [h4]
      simp only
      obtain ⟨z1, z2, _⟩ := bindsL_sz hz _ _ _ _ _ (uq_one p).1 (by simp) hb
      split at hr
      · cases hr
      · rename_i u2 hn
        obtain ⟨u2', c1, c2⟩ := needP_em h5 hn
        rw [c1]
        simp only
        cases hr
        refine Or.inl ⟨_, ?_, c2⟩
        rw [← rootOf_mv d z1 z2, mvKs_nil]
    · rw [h5]; exact Or.inr ⟨h4, q, rfl⟩
end
end Go.Proofs.YtppljgallbmgcaaGreatDoor

/- A parse that is taken, elsewhere: all the levels. -/
namespace Go.Proofs.YtppljgallbmgcaaGreatDoor
open Go.RowKit
set_option linter.unusedSectionVars false
structure SimL (m : Bool) (d : Nat) (tl : List Tok) (L M : PF) : Prop where
  top : Sim m d tl L.top M.top
  list : Sim2 m d tl L.list M.list
  upd : Sim m d tl L.upd M.upd
  cat : Sim m d tl L.cat M.cat
  sel : Sim m d tl L.sel M.sel
  notT : Sim2 m d tl L.notT M.notT
  negT : Sim2 m d tl L.negT M.negT
/-- Signs of the language's own that may be looked for where an expression ends. -/
structure OkAll : Prop where
  dot : okS ⟨#[46]⟩
  inh : okS ⟨#[105, 110, 104, 101, 114, 105, 116]⟩
  lb : okS ⟨#[91]⟩
  rb : okS ⟨#[93]⟩
  or : okS ⟨#[111, 114]⟩
  qm : okS ⟨#[63]⟩
  neg : okS ⟨#[45]⟩
  cat : okS ⟨#[43, 43]⟩
  not : okS ⟨#[33]⟩
  upd : okS ⟨#[47, 47]⟩
  mul : ∀ s ∈ ([⟨#[42]⟩, ⟨#[47]⟩] : List ByteArray), okS s
  add : ∀ s ∈ ([⟨#[43]⟩, ⟨#[45]⟩] : List ByteArray), okS s
  cmp : ∀ s ∈ ([⟨#[60]⟩, ⟨#[60, 61]⟩, ⟨#[62]⟩, ⟨#[62, 61]⟩] : List ByteArray), okS s
  eq : ∀ s ∈ ([⟨#[61, 61]⟩, ⟨#[33, 61]⟩] : List ByteArray), okS s
  and : ∀ s ∈ ([⟨#[38, 38]⟩] : List ByteArray), okS s
  or2 : ∀ s ∈ ([⟨#[124, 124]⟩] : List ByteArray), okS s
def okB (s : ByteArray) : Bool := !((⟨#[41]⟩ : ByteArray).toList == s.toList) && !((⟨#[59]⟩ : ByteArray).toList == s.toList)
theorem okS_of {s : ByteArray} (h : okB s = true) : okS s := by
  unfold okB at h
  simp only [Bool.and_eq_true, Bool.not_eq_true'] at h
  exact h
theorem okSs_of {ss : List ByteArray} (h : ss.all okB = true) : ∀ s ∈ ss, okS s := fun s hs => okS_of (List.all_eq_true.1 h s hs)
theorem okAll : OkAll where
  dot := okS_of (by kernel_rfl)
  inh := okS_of (by kernel_rfl)
  lb := okS_of (by kernel_rfl)
  rb := okS_of (by kernel_rfl)
  or := okS_of (by kernel_rfl)
  qm := okS_of (by kernel_rfl)
  neg := okS_of (by kernel_rfl)
  cat := okS_of (by kernel_rfl)
  not := okS_of (by kernel_rfl)
  upd := okS_of (by kernel_rfl)
  mul := okSs_of (by kernel_rfl)
  add := okSs_of (by kernel_rfl)
  cmp := okSs_of (by kernel_rfl)
  eq := okSs_of (by kernel_rfl)
  and := okSs_of (by kernel_rfl)
  or2 := okSs_of (by kernel_rfl)
section
variable {d : Nat} {tl : List Tok} (hT : Inert tl) {m : Bool} {L M : PF} (hL : SzL L) (hS : SimL m d tl L M)
include hT hL hS
theorem atomP_sim : Sim m d tl (atomP L) (atomP M) := by
  intro ts ts' he b us hr
  unfold atomP at hr ⊢
  rw [begP_em hT he, isP_em hT okAll.lb he]
  split at hr
  · rename_i hb
    rw [if_pos hb]
    cases he with
    | fin h0 => rw [show begP _ = begT _ from rfl, inert_begT (e_inert h0)] at hb; cases hb
    | @tok t ts ts' hk he =>
      split at hr
      · rename_i hc
        rw [if_pos hc]
        exact hS.list _ _ _ he _ _ hr
      · rename_i hc
        rw [if_neg hc]
        simp only at hr ⊢
        have e1 : (mvk d t).kind = t.kind := rfl
        have e2 : (mvk d t).text = t.text := rfl
        have e3 : (mvk d t).num = t.num := rfl
        have e4 : (mvk d t).bits = t.bits := rfl
        have e5 : (mvk d t).place = t.place + d := rfl
        rw [e1, e2, e3, e4, e5]
        split at hr
        · rename_i h1
          rw [if_pos h1]
          cases hr
          exact Or.inl ⟨_, by simp [mv_mk, mvKs], he⟩
        · rename_i h1
          rw [if_neg h1]
          split at hr
          · rename_i h1
            rw [if_pos h1]
            cases hr
            exact Or.inl ⟨_, by simp [mv_mk, mvKs], he⟩
          · rename_i h1
            rw [if_neg h1]
            split at hr
            · rename_i h1
              rw [if_pos h1]
              cases hr
              exact Or.inl ⟨_, by simp [mv_mk, mvKs], he⟩
            · rename_i h1
              rw [if_neg h1]
              split at hr
              · rename_i h1
                rw [if_pos h1]
                split at hr
                · cases hr
                · rename_i a u1 ha
                  rcases hS.top _ _ he _ _ ha with ⟨u1', h4, h5⟩ | ⟨h4, p, h5⟩
                  · rw [h4]
                    simp only
                    split at hr
                    · cases hr
                    · rename_i u2 hn
                      obtain ⟨u2', c1, c2⟩ := needP_em h5 hn
                      rw [c1]
                      cases hr
                      exact Or.inl ⟨_, rfl, c2⟩
                  · rw [h5]; exact Or.inr ⟨h4, p, rfl⟩
              · rename_i h1
                rw [if_neg h1]
                split at hr
                · rename_i h1
                  rw [if_pos h1]
                  exact bracesP_sim hT okAll.dot okAll.inh hS.top hL.top _ _ _ _ he _ _ hr
                · rename_i h1
                  rw [if_neg h1]
                  split at hr
                  · rename_i h1
                    rw [if_pos h1]
                    split at hr
                    · cases hr
                    · rename_i u1 hn
                      obtain ⟨u1', c1, c2⟩ := needP_em he hn
                      rw [c1]
                      exact bracesP_sim hT okAll.dot okAll.inh hS.top hL.top _ _ _ _ c2 _ _ hr
                  · rename_i h1
                    rw [if_neg h1]
                    cases hr
                    exact Or.inl ⟨_, by simp [mv_mk, mvKs], he⟩
  · cases hr
theorem selL_sim : ∀ (k k' : Nat) (a : T) (ts ts' : List Tok), Em d tl ts ts' → ts.length ≤ k → ts'.length ≤ k' → Ends (T.mv d) m d tl (selL L k a ts) (selL M k' (a.mv d) ts') := by
  intro k
  induction k with
  | zero => intro k' a ts ts' he h1 h2; have := he.ne; omega
  | succ k ih =>
    intro k' a ts ts' he h1 h2 b us hr
    obtain ⟨k', rfl⟩ : ∃ j, k' = j + 1 := ⟨k' - 1, by have := he.ne' hT; omega⟩
    unfold selL at hr ⊢
    rw [isP_em hT okAll.dot he]
    split at hr
    · rename_i hc
      obtain ⟨t, u1, u1', rfl, rfl, h3, _⟩ := isP_true he hc
      rw [if_pos hc]
      simp only [List.tail_cons] at hr ⊢
      split at hr
      · cases hr
      · rename_i n u2 ha
        obtain ⟨u2', c1, c2⟩ := attrP_em h3 ha
        rw [c1]
        simp only
        have h6 := attrP_len ha
        have h7 := c2.len
        have h8 := h3.len
        simp only [List.length_cons] at h1 h2
        rw [isP_em hT okAll.or c2]
        have ep : placeP (mvk d t :: u1') = placeP (t :: u1) + d := rfl
        rw [ep]
        split at hr
        · rename_i ho
          rw [if_pos ho]
          obtain ⟨t2, u3, u3', rfl, rfl, h9, _⟩ := isP_true c2 ho
          simp only [List.tail_cons] at hr ⊢
          split at hr
          · cases hr
          · rename_i b' u4 hb
            rcases hS.sel _ _ h9 _ _ hb with ⟨u4', h4, h5⟩ | ⟨h4, p, h5⟩
            · rw [h4]
              simp only
              have h10 := hL.sel _ _ _ hb
              have h11 := h5.len
              have h12 := h9.len
              simp only [List.length_cons] at h6 h7
              have := ih k' (.mk 8 n 0 0 [] (placeP (t :: u1)) [a, b']) _ _ h5 (by omega) (by omega) _ _ hr
              rw [mv_mk, mvKs_cons, mvKs_cons, mvKs_nil] at this
              exact this
            · rw [h5]; exact Or.inr ⟨h4, p, rfl⟩
        · rename_i ho
          rw [if_neg ho]
          have := ih k' (.mk 8 n 0 0 [] (placeP (t :: u1)) [a]) _ _ c2 (by omega) (by omega) _ _ hr
          rw [mv_mk, mvKs_cons, mvKs_nil] at this
          exact this
    · rename_i hc
      rw [if_neg hc]
      cases hr
      exact Or.inl ⟨_, rfl, he⟩
theorem selP_sim : Sim m d tl (selP L) (selP M) := by
  intro ts ts' he b us hr
  unfold selP at hr ⊢
  split at hr
  · cases hr
  · rename_i a u1 ha
    rcases atomP_sim hT hL hS _ _ he _ _ ha with ⟨u1', h4, h5⟩ | ⟨h4, p, h5⟩
    · rw [h4]
      exact selL_sim hT hL hS _ _ _ _ _ h5 (Nat.le_refl _) (Nat.le_refl _) _ _ hr
    · rw [h5]; exact Or.inr ⟨h4, p, rfl⟩
theorem callL_sim : ∀ (k k' : Nat) (a : T) (ts ts' : List Tok), Em d tl ts ts' → ts.length ≤ k → ts'.length ≤ k' → Ends (T.mv d) m d tl (callL L k a ts) (callL M k' (a.mv d) ts') := by
  intro k
  induction k with
  | zero => intro k' a ts ts' he h1 h2; have := he.ne; omega
  | succ k ih =>
    intro k' a ts ts' he h1 h2 b us hr
    obtain ⟨k', rfl⟩ : ∃ j, k' = j + 1 := ⟨k' - 1, by have := he.ne' hT; omega⟩
    unfold callL at hr ⊢
    rw [begP_em hT he]
    split at hr
    · rename_i hc
      rw [if_pos hc]
      split at hr
      · cases hr
      · rename_i b' u1 hb
        rcases selP_sim hT hL hS _ _ he _ _ hb with ⟨u1', h4, h5⟩ | ⟨h4, p, h5⟩
        · rw [h4]
          simp only
          have h6 := selP_sz hL _ _ _ hb
          have h7 := h5.len
          have h8 := he.len
          have := ih k' (.mk 10 ⟨#[]⟩ 0 0 [] a.place [a, b']) _ _ h5 (by omega) (by omega) _ _ hr
          rw [mv_mk, mvKs_cons, mvKs_cons, mvKs_nil, ← mv_place] at this
          exact this
        · rw [h5]; exact Or.inr ⟨h4, p, rfl⟩
    · rename_i hc
      rw [if_neg hc]
      cases hr
      exact Or.inl ⟨_, rfl, he⟩
theorem callP_sim : Sim m d tl (callP L) (callP M) := by
  intro ts ts' he b us hr
  unfold callP at hr ⊢
  split at hr
  · cases hr
  · rename_i a u1 ha
    rcases selP_sim hT hL hS _ _ he _ _ ha with ⟨u1', h4, h5⟩ | ⟨h4, p, h5⟩
    · rw [h4]
      exact callL_sim hT hL hS _ _ _ _ _ h5 (Nat.le_refl _) (Nat.le_refl _) _ _ hr
    · rw [h5]; exact Or.inr ⟨h4, p, rfl⟩
theorem hasPr_sim : Sim m d tl (hasPr L) (hasPr M) := by
  intro ts ts' he b us hr
  unfold hasPr at hr ⊢
  split at hr
  · cases hr
  · rename_i a u1 ha
    rcases callP_sim hT hL hS _ _ he _ _ ha with ⟨u1', h4, h5⟩ | ⟨h4, p, h5⟩
    · rw [h4]
      simp only
      rw [isP_em hT okAll.qm h5]
      split at hr
      · rename_i hc
        obtain ⟨t, u2, u2', rfl, rfl, h6, _⟩ := isP_true h5 hc
        rw [if_pos hc]
        simp only [List.tail_cons] at hr ⊢
        split at hr
        · cases hr
        · rename_i n u3 hn
          obtain ⟨u3', c1, c2⟩ := attrP_em h6 hn
          rw [c1]
          cases hr
          exact Or.inl ⟨_, by simp [mv_mk, mvKs, placeP, mvk], c2⟩
      · rename_i hc
        rw [if_neg hc]
        cases hr
        exact Or.inl ⟨_, rfl, h5⟩
    · rw [h5]; exact Or.inr ⟨h4, p, rfl⟩
theorem negP_sim : Sim m d tl (negP L) (negP M) := prefixP_sim hT hS.negT (hasPr_sim hT hL hS) okAll.neg 17
theorem catP_sim : Sim m d tl (catP L) (catP M) := rightP_sim hT hS.cat (negP_sim hT hL hS) okAll.cat
theorem mulP_sim : Sim m d tl (mulPr L) (mulPr M) := leftP_sim hT (catP_sim hT hL hS) (catP_sz hL) okAll.mul
theorem addP_sim : Sim m d tl (addP L) (addP M) := leftP_sim hT (mulP_sim hT hL hS) (mulP_sz hL) okAll.add
theorem notP_sim : Sim m d tl (notP L) (notP M) := prefixP_sim hT hS.notT (addP_sim hT hL hS) okAll.not 16
theorem updP_sim : Sim m d tl (updP L) (updP M) := rightP_sim hT hS.upd (notP_sim hT hL hS) okAll.upd
theorem cmpP_sim : Sim m d tl (cmpP L) (cmpP M) := onceP_sim hT (updP_sim hT hL hS) okAll.cmp
theorem eqP_sim : Sim m d tl (eqP L) (eqP M) := onceP_sim hT (cmpP_sim hT hL hS) okAll.eq
theorem andP_sim : Sim m d tl (andP L) (andP M) := leftP_sim hT (eqP_sim hT hL hS) (eqP_sz hL) okAll.and
theorem orP_sim : Sim m d tl (orP L) (orP M) := leftP_sim hT (andP_sim hT hL hS) (andP_sz hL) okAll.or2
theorem ifL_sim : ∀ (ss : List ByteArray) (ks : List T) (ts ts' : List Tok), Em d tl ts ts' → Ends (mvKs d) m d tl (ifL L ss ks ts) (ifL M ss (mvKs d ks) ts') := by
  intro ss
  induction ss with
  | nil => intro ks ts ts' he a us hr; cases hr; exact Or.inl ⟨_, rfl, he⟩
  | cons s ss ih =>
    intro ks ts ts' he a us hr
    unfold ifL at hr ⊢
    split at hr
    · cases hr
    · rename_i u1 hn
      obtain ⟨u1', c1, c2⟩ := needP_em he hn
      rw [c1]
      simp only
      split at hr
      · cases hr
      · rename_i b u2 hb
        rcases hS.top _ _ c2 _ _ hb with ⟨u2', h4, h5⟩ | ⟨h4, p, h5⟩
        · rw [h4]
          simp only
          have := ih (ks ++ [b]) _ _ h5 _ _ hr
          rw [mvKs_app, mvKs_cons, mvKs_nil] at this
          exact this
        · rw [h5]; exact Or.inr ⟨h4, p, rfl⟩
theorem twoP_sim (kind : Int) : Sim2 m d tl (twoP L kind) (twoP M kind) := by
  intro t ts ts' he a us hr
  unfold twoP at hr ⊢
  simp only [List.tail_cons] at hr ⊢
  split at hr
  · cases hr
  · rename_i b u2 hb
    rcases hS.top _ _ he _ _ hb with ⟨u2', h4, h5⟩ | ⟨h4, p, h5⟩
    · rw [h4]
      simp only
      split at hr
      · cases hr
      · rename_i u3 hn
        obtain ⟨u3', c1, c2⟩ := needP_em h5 hn
        rw [c1]
        simp only
        split at hr
        · cases hr
        · rename_i c u4 hc
          rcases hS.top _ _ c2 _ _ hc with ⟨u4', h6, h7⟩ | ⟨h6, p, h7⟩
          · rw [h6]
            cases hr
            exact Or.inl ⟨_, by simp [mv_mk, mvKs, placeP, mvk], h7⟩
          · rw [h7]; exact Or.inr ⟨h6, p, rfl⟩
    · rw [h5]; exact Or.inr ⟨h4, p, rfl⟩
theorem colonP_em (t : Tok) {ts ts' : List Tok} (he : Em d tl ts ts') : colonP (mvk d t :: ts') = colonP (t :: ts) := by
  cases he with
  | fin h0 =>
    obtain ⟨x, xs, rfl, hi⟩ := hT
    unfold colonP
    simp only
    have := okS_of (s := ⟨#[58]⟩) (by kernel_rfl)
    rcases hi with h1 | ⟨h5, h1 | h1⟩
    · rw [h0, h1]; rfl
    · rw [h0, h1, this.1]; simp
    · rw [h0, h1, this.2]; simp
  | tok _ he => rfl
theorem topP_sim : Sim m d tl (topP L) (topP M) := by
  intro ts ts' he b us hr
  cases he with
  | @fin e h0 =>
    have hi := e_inert h0
    unfold topP at hr
    simp only at hr
    rw [inert_nameT hi, inert_isT hi (okS_of (s := ⟨#[108, 101, 116]⟩) (by kernel_rfl)), inert_isT hi (okS_of (s := ⟨#[119, 105, 116, 104]⟩) (by kernel_rfl)), inert_isT hi (okS_of (s := ⟨#[97, 115, 115, 101, 114, 116]⟩) (by kernel_rfl)), inert_isT hi (okS_of (s := ⟨#[105, 102]⟩) (by kernel_rfl))] at hr
    simp only [Bool.false_and, Bool.false_eq_true, if_false] at hr
    obtain ⟨x, xs, rfl, hj⟩ := hT
    have := orP_sim ⟨x, xs, rfl, hj⟩ hL hS _ _ (.fin h0) _ _ hr
    unfold topP
    simp only
    rw [inert_nameT hj, inert_isT hj (okS_of (s := ⟨#[108, 101, 116]⟩) (by kernel_rfl)), inert_isT hj (okS_of (s := ⟨#[119, 105, 116, 104]⟩) (by kernel_rfl)), inert_isT hj (okS_of (s := ⟨#[97, 115, 115, 101, 114, 116]⟩) (by kernel_rfl)), inert_isT hj (okS_of (s := ⟨#[105, 102]⟩) (by kernel_rfl))]
    simp only [Bool.false_and, Bool.false_eq_true, if_false]
    exact this
  | @tok t ts ts' hk he =>
    unfold topP at hr ⊢
    simp only at hr ⊢
    rw [colonP_em hT hL hS t he]
    have e1 : nameT (mvk d t) = nameT t := rfl
    have e2 : ∀ s, isT s (mvk d t) = isT s t := fun _ => rfl
    have e3 : (mvk d t).text = t.text := rfl
    have e5 : (mvk d t).place = t.place + d := rfl
    rw [e1, e2, e2, e2, e2, e3, e5]
    split at hr
    · rename_i hc
      rw [if_pos hc]
      have hcol : colonP (t :: ts) = true := (Bool.and_eq_true _ _ ▸ hc).2
      cases he with
      | fin h0 =>
        unfold colonP at hcol
        simp only at hcol
        rw [h0] at hcol
        cases hcol
      | @tok t2 ts ts' hk2 he =>
        simp only [List.tail_cons] at hr ⊢
        split at hr
        · cases hr
        · rename_i a u1 ha
          rcases hS.top _ _ he _ _ ha with ⟨u1', h4, h5⟩ | ⟨h4, p, h5⟩
          · rw [h4]
            cases hr
            exact Or.inl ⟨_, by simp [mv_mk, mvKs], h5⟩
          · rw [h5]; exact Or.inr ⟨h4, p, rfl⟩
    · rename_i hc
      rw [if_neg hc]
      split at hr
      · rename_i hc
        rw [if_pos hc]
        have hstart : ([⟨[], [], t.place + d⟩] : Ar) = mvA d [⟨[], [], t.place⟩] := rfl
        rw [hstart]
        split at hr
        · cases hr
        · rename_i ar u1 hb
          obtain ⟨z1, z2, _⟩ := bindsL_sz hL.top _ _ _ _ _ (uq_one t.place).1 (by simp) hb
          rcases bindsL_sim hT okAll.dot okAll.inh hS.top hL.top _ ts'.length _ _ _ (uq_one t.place).1 (by simp) he (Nat.le_refl _) (Nat.le_refl _) _ _ hb with ⟨u1', h4, h5⟩ | ⟨h4, q, h5⟩
          · rw [h4]
            simp only
            split at hr
            · cases hr
            · rename_i u2 hn
              obtain ⟨u2', c1, c2⟩ := needP_em h5 hn
              rw [c1]
              simp only
              split at hr
              · cases hr
              · rename_i c u3 hcc
                rcases hS.top _ _ c2 _ _ hcc with ⟨u3', h6, h7⟩ | ⟨h6, p, h7⟩
                · rw [h6]
                  cases hr
                  refine Or.inl ⟨_, ?_, h7⟩
                  rw [← rootOf_mv d z1 z2, mvKs_cons, mvKs_nil]
                · rw [h7]; exact Or.inr ⟨h6, p, rfl⟩
          · rw [h5]; exact Or.inr ⟨h4, q, rfl⟩
      · rename_i hc
        rw [if_neg hc]
        split at hr
        · rename_i hc
          rw [if_pos hc]
          exact twoP_sim hT hL hS 13 _ _ _ he _ _ hr
        · rename_i hc
          rw [if_neg hc]
          split at hr
          · rename_i hc
            rw [if_pos hc]
            exact twoP_sim hT hL hS 15 _ _ _ he _ _ hr
          · rename_i hc
            rw [if_neg hc]
            split at hr
            · rename_i hc
              rw [if_pos hc]
              split at hr
              · cases hr
              · rename_i ks u1 hi
                rcases ifL_sim hT hL hS _ [] _ _ (.tok hk he) _ _ hi with ⟨u1', h4, h5⟩ | ⟨h4, q, h5⟩
                · rw [mvKs_nil] at h4
                  rw [h4]
                  cases hr
                  exact Or.inl ⟨_, by simp [mv_mk], h5⟩
                · rw [mvKs_nil] at h5
                  rw [h5]; exact Or.inr ⟨h4, q, rfl⟩
            · rename_i hc
              rw [if_neg hc]
              exact orP_sim hT hL hS _ _ (.tok hk he) _ _ hr
theorem listL_sim : ∀ (k k' : Nat) (ks : List T) (ts ts' : List Tok), Em d tl ts ts' → ts.length ≤ k → ts'.length ≤ k' → Ends (mvKs d) m d tl (listL L k ks ts) (listL M k' (mvKs d ks) ts') := by
  intro k
  induction k with
  | zero => intro k' a ts ts' he h1 h2; have := he.ne; omega
  | succ k ih =>
    intro k' ks ts ts' he h1 h2 b us hr
    obtain ⟨k', rfl⟩ : ∃ j, k' = j + 1 := ⟨k' - 1, by have := he.ne' hT; omega⟩
    unfold listL at hr ⊢
    rw [isP_em hT okAll.rb he]
    split at hr
    · rename_i hc
      rw [if_pos hc]
      cases hr
      exact Or.inl ⟨_, rfl, he⟩
    · rename_i hc
      rw [if_neg hc]
      split at hr
      · cases hr
      · rename_i c u1 hb
        rcases selP_sim hT hL hS _ _ he _ _ hb with ⟨u1', h4, h5⟩ | ⟨h4, p, h5⟩
        · rw [h4]
          simp only
          have h6 := selP_sz hL _ _ _ hb
          have h7 := h5.len
          have h8 := he.len
          have := ih k' (ks ++ [c]) _ _ h5 (by omega) (by omega) _ _ hr
          rw [mvKs_app, mvKs_cons, mvKs_nil] at this
          exact this
        · rw [h5]; exact Or.inr ⟨h4, p, rfl⟩
theorem listP_sim : Sim2 m d tl (listP L) (listP M) := by
  intro t ts ts' he b us hr
  unfold listP at hr ⊢
  simp only [List.tail_cons] at hr ⊢
  split at hr
  · cases hr
  · rename_i ks u1 hl
    have h1 := he.len
    rcases listL_sim hT hL hS _ (mvk d t :: ts').length [] _ _ he (by simp) (by simp) _ _ hl with ⟨u1', h4, h5⟩ | ⟨h4, p, h5⟩
    · rw [mvKs_nil] at h4
      rw [h4]
      have h6 := listL_stop2 _ _ _ _ _ hl (by simp) (selP_sz hL)
      obtain ⟨t2, u2, u2', rfl, rfl, h7, _⟩ := isP_true h5 h6
      cases hr
      exact Or.inl ⟨_, by simp [mv_mk, placeP, mvk], h7⟩
    · rw [mvKs_nil] at h5
      rw [h5]; exact Or.inr ⟨h4, p, rfl⟩
theorem mkP_sim : SimL m d tl (mkP L) (mkP M) :=
  ⟨topP_sim hT hL hS, listP_sim hT hL hS, updP_sim hT hL hS, catP_sim hT hL hS, selP_sim hT hL hS,
    fun _ _ _ he => notP_sim hT hL hS _ _ he, fun _ _ _ he => negP_sim hT hL hS _ _ he⟩
end
theorem Lv_sim {d : Nat} {tl : List Tok} (hT : Inert tl) {m : Bool} : ∀ n k, (m = false → n ≤ k) → SimL m d tl (Lv n) (Lv k)
  | 0, k, _ => ⟨fun _ _ _ _ _ h => (by cases h), fun _ _ _ _ _ _ h => (by cases h), fun _ _ _ _ _ h => (by cases h), fun _ _ _ _ _ h => (by cases h), fun _ _ _ _ _ h => (by cases h), fun _ _ _ _ _ _ h => (by cases h), fun _ _ _ _ _ _ h => (by cases h)⟩
  | n + 1, 0, h => by
    have hm : m = true := by
      cases m with
      | true => rfl
      | false => have := h rfl; omega
    exact ⟨fun _ _ _ _ _ _ => Or.inr ⟨hm, _, rfl⟩, fun _ _ _ _ _ _ _ => Or.inr ⟨hm, _, rfl⟩, fun _ _ _ _ _ _ => Or.inr ⟨hm, _, rfl⟩, fun _ _ _ _ _ _ => Or.inr ⟨hm, _, rfl⟩, fun _ _ _ _ _ _ => Or.inr ⟨hm, _, rfl⟩, fun _ _ _ _ _ _ _ => Or.inr ⟨hm, _, rfl⟩, fun _ _ _ _ _ _ _ => Or.inr ⟨hm, _, rfl⟩⟩
  | n + 1, k + 1, h => mkP_sim hT (Lv_sz n) (Lv_sim hT n k fun e => by have := h e; omega)
end Go.Proofs.YtppljgallbmgcaaGreatDoor

/- The nodes of an expression, from any number on. -/
namespace Go.Proofs.YtppljgallbmgcaaGreatDoor
open Go.RowKit
mutual
def nodes : T → Nat → List Nd
  | .mk k t n x ns p ks, b => let r := nodesK ks b []; r.1 ++ [⟨k, t, n, x, ns, r.2, p⟩]
def nodesK : List T → Nat → List Nat → List Nd × List Nat
  | [], _, is => ([], is)
  | t :: ks, b, is => let o := nodes t b; let r := nodesK ks (b + o.length) (is ++ [b + o.length - 1]); (o ++ r.1, r.2)
end
theorem nodes_mk (k : Int) (tx : ByteArray) (n : Int) (x : Nat) (ns : List ByteArray) (p : Nat) (ks : List T) (b : Nat) : nodes (.mk k tx n x ns p ks) b = (nodesK ks b []).1 ++ [⟨k, tx, n, x, ns, (nodesK ks b []).2, p⟩] := by simp [nodes]
theorem nodesK_nil (b : Nat) (is : List Nat) : nodesK [] b is = ([], is) := by simp [nodesK]
theorem nodesK_cons (t : T) (ks : List T) (b : Nat) (is : List Nat) : nodesK (t :: ks) b is = (nodes t b ++ (nodesK ks (b + (nodes t b).length) (is ++ [b + (nodes t b).length - 1])).1, (nodesK ks (b + (nodes t b).length) (is ++ [b + (nodes t b).length - 1])).2) := by simp [nodesK]
mutual
theorem flatP_nodes : ∀ (t : T) (out : List Nd), flatP t out = out ++ nodes t out.length
  | .mk k t n x ns p ks, out => by
    rw [nodes_mk]
    unfold flatP
    have h := flatK_nodes ks out []
    simp only [h]
    simp
theorem flatK_nodes : ∀ (ks : List T) (out : List Nd) (is : List Nat), flatK ks out is = (out ++ (nodesK ks out.length is).1, (nodesK ks out.length is).2)
  | [], out, is => by simp [flatK, nodesK_nil]
  | t :: ks, out, is => by
    rw [nodesK_cons]
    unfold flatK
    have h1 := flatP_nodes t out
    simp only [h1]
    rw [flatK_nodes ks]
    simp
end
theorem flat0 (t : T) : flatP t [] = nodes t 0 := by rw [flatP_nodes]; rfl
theorem nodes_len (t : T) (b : Nat) : (nodes t b).length = cnt t := by
  have h1 := flatP_len t (List.replicate b ⟨0, ⟨#[]⟩, 0, 0, [], [], 0⟩)
  rw [flatP_nodes] at h1
  simp at h1
  exact h1
theorem nodesK_len : ∀ (ks : List T) (b : Nat) (is : List Nat), (nodesK ks b is).1.length = cntK ks
  | [], b, is => by simp [nodesK_nil]
  | t :: ks, b, is => by rw [nodesK_cons]; simp [nodesK_len ks, nodes_len]
def Nd.up (n : Nat) (x : Nd) : Nd := { x with kids := x.kids.map (· + n) }
def Nd.mv (d : Nat) (x : Nd) : Nd := { x with place := x.place + d }
mutual
theorem nodes_up : ∀ (t : T) (b n : Nat), nodes t (b + n) = (nodes t b).map (Nd.up n)
  | .mk k t nn x ns p ks, b, n => by
    rw [nodes_mk, nodes_mk]
    have h := nodesK_up ks b n []
    simp only [List.map_nil] at h
    rw [h]
    simp [Nd.up]
theorem nodesK_up : ∀ (ks : List T) (b n : Nat) (is : List Nat), nodesK ks (b + n) (is.map (· + n)) = ((nodesK ks b is).1.map (Nd.up n), (nodesK ks b is).2.map (· + n))
  | [], b, n, is => by simp [nodesK_nil]
  | t :: ks, b, n, is => by
    rw [nodesK_cons, nodesK_cons, nodes_up t b n]
    have hp := cnt_pos t
    have hl := nodes_len t b
    have h := nodesK_up ks (b + (nodes t b).length) n (is ++ [b + (nodes t b).length - 1])
    rw [List.map_append] at h
    simp only [List.map_cons, List.map_nil] at h
    have e1 : b + n + (List.map (Nd.up n) (nodes t b)).length = b + (nodes t b).length + n := by simp; omega
    have e2 : b + (nodes t b).length + n - 1 = b + (nodes t b).length - 1 + n := by omega
    rw [e1, e2, h]
    simp
end
mutual
theorem nodes_mv : ∀ (t : T) (b d : Nat), nodes (t.mv d) b = (nodes t b).map (Nd.mv d)
  | .mk k t nn x ns p ks, b, d => by
    rw [mv_mk, nodes_mk, nodes_mk, nodesK_mv ks b d []]
    simp [Nd.mv]
theorem nodesK_mv : ∀ (ks : List T) (b d : Nat) (is : List Nat), nodesK (mvKs d ks) b is = ((nodesK ks b is).1.map (Nd.mv d), (nodesK ks b is).2)
  | [], b, d, is => by simp [nodesK_nil, mvKs_nil]
  | t :: ks, b, d, is => by
    rw [mvKs_cons, nodesK_cons, nodesK_cons, nodes_mv t b d]
    simp [nodesK_mv ks]
end
theorem cnt_mv (t : T) (d : Nat) : cnt (t.mv d) = cnt t := by rw [← nodes_len _ 0, nodes_mv, List.length_map, nodes_len]
end Go.Proofs.YtppljgallbmgcaaGreatDoor

/- Texts that are made of others: their tokens. -/
namespace Go.Proofs.YtppljgallbmgcaaGreatDoor
open Go.RowKit
theorem dr_bt {s : ByteArray} {p : Nat} {c : UInt8} {r : List UInt8} (h : s.data.toList.drop p = c :: r) : bt s p = some c ∧ s.data.toList.drop (p + 1) = r ∧ p < s.size := by
  have h1 : bt s p = some c := by
    have := congrArg (·[0]?) h
    simp only [List.getElem?_drop] at this
    exact this
  refine ⟨h1, ?_, bt_lt h1⟩
  rw [← List.drop_drop, h]
  rfl
theorem sk_trans {s : ByteArray} {a b c : Nat} (h : Sk s a b) (k : Sk s b c) : Sk s a c := by
  induction h with
  | here p => exact k
  | blank h1 h2 h3 ih => exact .blank h1 h2 (ih k)
  | hash h1 h3 ih => exact .hash h1 (ih k)
theorem lx_skip {pf : ByteArray → Nat} {s : ByteArray} {p q : Nat} {ts : List Tok} (h : Sk s p q) (k : Lx pf s q ts) : Lx pf s p ts := by
  cases k with
  | fin h2 => exact .fin (sk_trans h h2)
  | tok h2 a b => exact .tok (sk_trans h h2) a b
theorem dr_add {s : ByteArray} {p : Nat} {a r : List UInt8} (h : s.data.toList.drop p = a ++ r) : s.data.toList.drop (p + a.length) = r := by
  rw [← List.drop_drop, h, List.drop_left]
theorem dr_get {s : ByteArray} {p : Nat} {l : List UInt8} (h : s.data.toList.drop p = l) (i : Nat) : bt s (p + i) = l[i]? := by
  rw [← h, List.getElem?_drop]
  rfl
theorem sk_nl {s s' : ByteArray} {d p q : Nat} (h : Sk s p q) (ha : ∀ i, i < s.size → bt s' (d + i) = bt s i) (hn : bt s' (d + s.size) = some 10) : p ≤ s.size → Sk s' (d + p) (d + q) := by
  have hz := bt_lt hn
  induction h with
  | here p => intro _; exact .here _
  | @blank p q c h1 h2 h3 ih =>
    intro hp
    have hlt := bt_lt h1
    exact .blank (by rw [ha p hlt]; exact h1) h2 (by have := ih (by omega); rw [← Nat.add_assoc] at this; exact this)
  | @hash p q h1 h3 ih =>
    intro hp
    have hlt := bt_lt h1
    have hg := notNl_gt h1
    have hrs := runTo_le notNl s hp
    obtain ⟨k, hk⟩ : ∃ k, runTo notNl s p = p + k := ⟨_, rfl⟩
    rw [hk] at ih hrs hg
    refine .hash (by rw [ha p hlt]; exact h1) ?_
    have r : runTo notNl s' (d + p) = d + p + k := by
      refine run_is (by omega) (fun i hi => ?_) fun c hc => ?_
      · rw [show d + p + i = d + (p + i) by omega, ha (p + i) (by omega)]; exact run_mem (p := p) (by omega) (by omega)
      · rw [show d + p + k = d + (p + k) by omega] at hc
        rcases Nat.lt_or_ge (p + k) s.size with h | h
        · rw [ha _ h, ← hk] at hc
          exact run_stop hc
        · have e : p + k = s.size := by omega
          rw [e, hn] at hc
          cases hc
          rfl
    rw [r, show d + p + k = d + (p + k) by omega]
    exact ih hrs
theorem lx_moved {pf : ByteArray → Nat} {s s' : ByteArray} {d p : Nat} {ts tl : List Tok} (h : Lx pf s p ts) (ha : ∀ i, i < s.size → bt s' (d + i) = bt s i) (hn : bt s' (d + s.size) = some 10) (ht : Lx pf s' (d + s.size) tl) :
    p ≤ s.size → ∃ ts', Em d tl ts ts' ∧ Lx pf s' (d + p) ts' := by
  induction h with
  | @fin p h =>
    intro hp
    exact ⟨tl, .fin rfl, lx_skip (sk_nl h ha hn hp) ht⟩
  | @tok p q j t ts h1 h2 h3 ih =>
    intro hp
    have hle := tokP_le h2
    obtain ⟨ts', h4, h5⟩ := ih hle.2.1
    have h6 := tok_local (s' := s') (p' := d + q) (m := s.size - q) h2 (by omega) (fun i hi => by rw [show d + q + i = d + (q + i) by omega]; exact ha _ (by omega)) (fun c hc => by
      rw [show d + q + (s.size - q) = d + s.size by omega, hn] at hc
      cases hc
      rfl)
    have e : t.at (d + q) = mvk d t := by
      unfold Tok.at mvk
      rw [hle.2.2, Nat.add_comm]
    rw [e, show d + q + (j - q) = d + j by omega] at h6
    exact ⟨mvk d t :: ts', .tok (tokP_kind h2) h4, .tok (sk_nl h1 ha hn hp) h6 h5⟩
/-- A text in another one, a newline behind it. -/
theorem lx_text {pf : ByteArray → Nat} {s s' : ByteArray} {d : Nat} {r : List UInt8} {ts tl : List Tok} (h : Lx pf s 0 ts) (hd : s'.data.toList.drop d = s.data.toList ++ 10 :: r) (ht : Lx pf s' (d + s.size + 1) tl) :
    ∃ ts', Em d tl ts ts' ∧ Lx pf s' d ts' := by
  have hl : s.data.toList.length = s.size := Array.length_toList
  have hn : bt s' (d + s.size) = some 10 := by
    rw [dr_get hd, List.getElem?_append_right (by omega), hl, Nat.sub_self]
    rfl
  have := lx_moved (p := 0) h (fun i hi => by
    rw [dr_get hd, List.getElem?_append_left (by omega)]
    rfl) hn (ht.blank hn rfl) (by omega)
  exact this
theorem lx_end {pf : ByteArray → Nat} {s : ByteArray} {p : Nat} (h : p = s.size) : Lx pf s p [⟨0, ⟨#[]⟩, 0, 0, s.size⟩] := by
  subst h
  exact .fin (.here _)
theorem lx_blank {pf : ByteArray → Nat} {s : ByteArray} {p : Nat} {c : UInt8} {r : List UInt8} {tl : List Tok} (h : s.data.toList.drop p = c :: r) (hc : blankB c = true) (ht : Lx pf s (p + 1) tl) : Lx pf s p tl := ht.blank (dr_bt h).1 hc
def plainC (c : UInt8) : Bool := !(blankB c) && !(c == 35) && !(letterB c) && !(digitB c) && !(c == 34)
theorem lx_sign {pf : ByteArray → Nat} {s : ByteArray} {p : Nat} {c : UInt8} {r : List UInt8} {b : ByteArray} {tl : List Tok} (h : s.data.toList.drop p = c :: r) (hc : plainC c = true) (hs : signL (c :: r) = some b) (ht : Lx pf s (p + b.size) tl) :
    Lx pf s p (⟨5, b, 0, 0, p⟩ :: tl) := by
  unfold plainC at hc
  simp only [Bool.and_eq_true, Bool.not_eq_true'] at hc
  obtain ⟨⟨⟨⟨h1, h2⟩, h3⟩, h4⟩, h5⟩ := hc
  refine .tok (.here p) (j := p + b.size) ?_ ht
  unfold tokP
  rw [(dr_bt h).1]
  simp only [h1, h2, h3, h4, h5, Bool.false_eq_true, if_false]
  unfold signP
  rw [h, hs]
theorem lx_name {pf : ByteArray → Nat} {s : ByteArray} {p : Nat} {c : UInt8} {l r : List UInt8} {tl : List Tok} (h : s.data.toList.drop p = (c :: l) ++ r) (hc : letterB c = true) (hl : ∀ x ∈ l, moreB x = true) (hr : ∀ x, r[0]? = some x → moreB x = false) (hn : l.length < 1024)
    (ht : Lx pf s (p + (l.length + 1)) tl) : Lx pf s p (⟨1, ⟨(c :: l).toArray⟩, 0, 0, p⟩ :: tl) := by
  have hsz : s.data.toList.length = s.size := Array.length_toList
  have hz : p + (l.length + 1) ≤ s.size := by
    have := congrArg List.length h
    simp at this
    omega
  have hr2 : runTo moreB s p = p + (l.length + 1) := by
    refine run_is (by omega) (fun i hi => ?_) fun x hx => ?_
    · rw [dr_get h, List.getElem?_append_left (by simp; omega)]
      cases i with
      | zero => exact ⟨c, rfl, by unfold moreB; rw [hc]; rfl⟩
      | succ i => exact ⟨l[i], by simp, hl _ (List.getElem_mem _)⟩
    · rw [dr_get h, List.getElem?_append_right (by simp)] at hx
      simp only [List.length_cons, Nat.sub_self] at hx
      exact hr x hx
  have h1 : blankB c = false := by
    have := all256 (p := fun c => !(letterB c) || !(blankB c)) (by decide +kernel) c
    rw [hc] at this
    simpa using this
  have h2 : (c == 35) = false := by
    have := all256 (p := fun c => !(letterB c) || !(c == 35)) (by decide +kernel) c
    rw [hc] at this
    simpa using this
  refine .tok (.here p) (j := p + (l.length + 1)) ?_ ht
  unfold tokP
  rw [(dr_bt h).1]
  simp only [h1, h2, hc, Bool.false_eq_true, if_false, if_true]
  rw [hr2, if_neg (by omega)]
  have e : s.extract p (p + (l.length + 1)) = ⟨(c :: l).toArray⟩ := by
    apply ba_ext
    rw [Lib.extract_data, h]
    simp
  rw [e]
end Go.Proofs.YtppljgallbmgcaaGreatDoor
