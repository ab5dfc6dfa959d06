/- A node has no more names than kids; it stands where a token stands. -/
import Derived.Test.YtppljgallbmgcaaGreatDoorGu
namespace Go.Proofs.YtppljgallbmgcaaGreatDoor
open Go.RowKit
set_option linter.unusedSectionVars false
mutual
def Fit (M : Nat) : T → Prop
  | .mk _ _ _ _ ns p ks => ns.length ≤ ks.length ∧ p ≤ M ∧ FitK M ks
def FitK (M : Nat) : List T → Prop
  | [] => True
  | t :: ks => Fit M t ∧ FitK M ks
end
def TM (M : Nat) (ts : List Tok) : Prop := ∀ t ∈ ts, t.place ≤ M
section
variable {M : Nat}
theorem fit_mk {k : Int} {tx : ByteArray} {n : Int} {x : Nat} {ns : List ByteArray} {p : Nat} {ks : List T} : Fit M (.mk k tx n x ns p ks) ↔ ns.length ≤ ks.length ∧ p ≤ M ∧ FitK M ks := by simp [Fit]
theorem fitK_all (ks : List T) : FitK M ks ↔ ∀ t ∈ ks, Fit M t := by
  induction ks with
  | nil => simp [FitK]
  | cons t ks ih => simp [FitK, ih]
theorem fit_place {a : T} (h : Fit M a) : a.place ≤ M := by cases a; exact (fit_mk.1 h).2.1
theorem fit_leaf {k : Int} {tx : ByteArray} {n : Int} {x : Nat} {p : Nat} {ks : List T} (hp : p ≤ M) (h : ∀ t ∈ ks, Fit M t) : Fit M (.mk k tx n x [] p ks) := fit_mk.2 ⟨Nat.zero_le _, hp, (fitK_all ks).2 h⟩
theorem fit_one {k : Int} {tx : ByteArray} {n : Int} {x : Nat} {p : Nat} {a : T} (hp : p ≤ M) (h : Fit M a) : Fit M (.mk k tx n x [] p [a]) := fit_leaf hp (by simpa using h)
theorem fit_two {k : Int} {tx : ByteArray} {n : Int} {x : Nat} {p : Nat} {a b : T} (hp : p ≤ M) (h : Fit M a) (h2 : Fit M b) : Fit M (.mk k tx n x [] p [a, b]) := fit_leaf hp (by simp; exact ⟨h, h2⟩)
theorem fit_nil {k : Int} {tx : ByteArray} {n : Int} {x : Nat} {p : Nat} (hp : p ≤ M) : Fit M (.mk k tx n x [] p []) := fit_leaf hp (by simp)
theorem TM.hd {t : Tok} {ts : List Tok} (h : TM M (t :: ts)) : t.place ≤ M := h t (by simp)
theorem TM.tl {t : Tok} {ts : List Tok} (h : TM M (t :: ts)) : TM M ts := fun x hx => h x (by simp [hx])
theorem TM.tail {ts : List Tok} (h : TM M ts) : TM M ts.tail := fun x hx => h x (List.mem_of_mem_tail hx)
theorem TM.plc {ts : List Tok} (h : TM M ts) : placeP ts ≤ M := by
  cases ts with
  | nil => exact Nat.zero_le _
  | cons t ts => exact h.hd
theorem TM.need {s : ByteArray} {ts us : List Tok} (h : TM M ts) (he : needP s ts = .ok us) : TM M us := by
  unfold needP at he
  split at he
  · cases he; exact h.tail
  · cases he
theorem TM.attr {ts us : List Tok} {n : ByteArray} (h : TM M ts) (he : attrP ts = .ok (n, us)) : TM M us := by
  unfold attrP at he
  split at he
  · split at he
    · cases he; exact h.tl
    · cases he
  · cases he
end
def PFit (M : Nat) (f : List Tok → Res T) : Prop := ∀ ts a us, TM M ts → f ts = .ok (a, us) → Fit M a ∧ TM M us
section
variable {M : Nat} {above row : List Tok → Res T}
theorem leftL_fit (h : PFit M above) (ss : List ByteArray) : ∀ (k : Nat) (a : T) (ts : List Tok) (b : T) (us : List Tok), Fit M a → TM M ts → leftL above ss k a ts = .ok (b, us) → Fit M b ∧ TM M us := by
  intro k
  induction k with
  | zero => intro a ts b us ha ht he; cases he; exact ⟨ha, ht⟩
  | succ k ih =>
    intro a ts b us ha ht he
    unfold leftL at he
    split at he
    · split at he
      · split at he
        · rename_i b' vs hb
          obtain ⟨h1, h2⟩ := h _ _ _ ht.tl hb
          exact ih _ _ _ _ (fit_two ht.hd ha h1) h2 he
        · cases he
      · cases he; exact ⟨ha, ht⟩
    · cases he; exact ⟨ha, ht⟩
theorem leftP_fit (h : PFit M above) (ss : List ByteArray) : PFit M (leftP above ss) := by
  intro ts b us ht he
  unfold leftP at he
  split at he
  · rename_i a vs ha
    obtain ⟨h1, h2⟩ := h _ _ _ ht ha
    exact leftL_fit h ss _ _ _ _ _ h1 h2 he
  · cases he
theorem onceP_fit (h : PFit M above) (ss : List ByteArray) : PFit M (onceP above ss) := by
  intro ts b us ht he
  unfold onceP at he
  split at he
  · rename_i a vs ha
    obtain ⟨h1, h2⟩ := h _ _ _ ht ha
    split at he
    · split at he
      · split at he
        · rename_i b' vs' hb
          cases he
          obtain ⟨h3, h4⟩ := h _ _ _ h2.tl hb
          exact ⟨fit_two h2.hd h1 h3, h4⟩
        · cases he
      · cases he; exact ⟨h1, h2⟩
    · cases he; exact ⟨h1, h2⟩
  · cases he
theorem rightP_fit (hr : PFit M row) (h : PFit M above) (s : ByteArray) : PFit M (rightP' row above s) := by
  intro ts b us ht he
  unfold rightP' at he
  split at he
  · rename_i a vs ha
    obtain ⟨h1, h2⟩ := h _ _ _ ht ha
    split at he
    · split at he
      · split at he
        · rename_i b' vs' hb
          cases he
          obtain ⟨h3, h4⟩ := hr _ _ _ h2.tl hb
          exact ⟨fit_two h2.hd h1 h3, h4⟩
        · cases he
      · cases he; exact ⟨h1, h2⟩
    · cases he; exact ⟨h1, h2⟩
  · cases he
theorem prefixP_fit (hr : PFit M row) (h : PFit M above) (s : ByteArray) (kind : Int) : PFit M (prefixP row above s kind) := by
  intro ts b us ht he
  unfold prefixP at he
  split at he
  · split at he
    · rename_i a vs ha
      cases he
      obtain ⟨h1, h2⟩ := hr _ _ _ ht ha
      exact ⟨fit_one ht.plc h1, h2⟩
    · cases he
  · exact h _ _ _ ht he
end
def KFit (M : Nat) : Kid → Prop | .leaf t => Fit M t | .made _ => True
def AF (M : Nat) (ar : Ar) : Prop := ∀ o ∈ ar, o.names.length = o.kids.length ∧ o.place ≤ M ∧ ∀ k ∈ o.kids, KFit M k
section
variable {M : Nat}
theorem af_get {ar : Ar} (h : AF M ar) {i : Nat} {o : SO} (hi : ar[i]? = some o) : o.names.length = o.kids.length ∧ o.place ≤ M ∧ ∀ k ∈ o.kids, KFit M k := h o (List.mem_of_getElem? hi)
theorem af_of {ar : Ar} (h : ∀ (i : Nat) (o : SO), ar[i]? = some o → o.names.length = o.kids.length ∧ o.place ≤ M ∧ ∀ k ∈ o.kids, KFit M k) : AF M ar := fun o ho => by
  obtain ⟨i, hi⟩ := List.mem_iff_getElem?.1 ho
  exact h i o hi
theorem af_one {p : Nat} (hp : p ≤ M) : AF M [⟨[], [], p⟩] := fun o ho => by
  simp at ho
  subst ho
  exact ⟨rfl, hp, fun k hk => (by cases hk)⟩
theorem af_add {ar : Ar} (h : AF M ar) (i : Nat) (n : ByteArray) (k : Kid) (hk : KFit M k) : AF M (ar.addAt i n k) := af_of fun j o hj => by
  rw [addAt_get] at hj
  split at hj
  · cases ho : ar[j]? with
    | none => rw [ho] at hj; cases hj
    | some o2 =>
      rw [ho] at hj
      cases hj
      obtain ⟨h1, h2, h3⟩ := af_get h ho
      refine ⟨by simp [SO.add, h1], h2, fun k' hk' => ?_⟩
      simp only [SO.add, List.mem_append, List.mem_singleton] at hk'
      rcases hk' with hk' | rfl
      · exact h3 k' hk'
      · exact hk
  · exact af_get h hj
theorem af_push {ar : Ar} (h : AF M ar) {p : Nat} (hp : p ≤ M) : AF M (ar ++ [⟨[], [], p⟩]) := fun o ho => by
  rcases List.mem_append.1 ho with ho | ho
  · exact h o ho
  · exact af_one hp o ho
theorem af_make {p : Nat} (hp : p ≤ M) : ∀ (rest : List ByteArray) (ar : Ar) (i : Nat), AF M ar → AF M (makeP p ar i rest).1 := by
  intro rest
  induction rest with
  | nil => intro ar i h; exact h
  | cons n rest ih => intro ar i h; exact ih _ _ (af_push (af_add h i n (.made ar.length) trivial) hp)
theorem inhL_fit : ∀ (k : Nat) (ar : Ar) (ts : List Tok) (ar' : Ar) (us : List Tok), AF M ar → TM M ts → inhL k ar ts = .ok (ar', us) → AF M ar' ∧ TM M us := by
  intro k
  induction k with
  | zero => intro ar ts ar' us h ht he; cases he; exact ⟨h, ht⟩
  | succ k ih =>
    intro ar ts ar' us h ht he
    unfold inhL at he
    split at he
    · rename_i t vs
      split at he
      · split at he
        · cases he
        · exact ih _ _ _ _ (af_add h _ _ (.leaf (leafI t)) (show Fit M (leafI t) from fit_nil ht.hd)) ht.tl he
      · cases he; exact ⟨h, ht⟩
    · cases he; exact ⟨h, ht⟩
theorem pathL_tm : ∀ (k : Nat) (path : List ByteArray) (ts : List Tok) (p' : List ByteArray) (us : List Tok), TM M ts → pathL k path ts = .ok (p', us) → TM M us := by
  intro k
  induction k with
  | zero => intro path ts p' us ht he; cases he; exact ht
  | succ k ih =>
    intro path ts p' us ht he
    unfold pathL at he
    split at he
    · split at he
      · rename_i n vs ha
        exact ih _ _ _ _ (ht.tail.attr ha) he
      · cases he
    · cases he; exact ht
theorem bindP_fit {expr : List Tok → Res T} (hx : PFit M expr) {ar ar' : Ar} {ts us : List Tok} (h : AF M ar) (ht : TM M ts) (he : bindP expr ar ts = .ok (ar', us)) : AF M ar' ∧ TM M us := by
  unfold bindP at he
  split at he
  · cases he
  · rename_i n0 u1 ha
    split at he
    · cases he
    · rename_i path u2 hp
      split at he
      · cases he
      · rename_i u3 hn
        split at he
        · cases he
        · split at he
          · cases he
          · split at he
            · cases he
            · rename_i v u4 hv
              obtain ⟨h1, h2⟩ := hx _ _ _ ((pathL_tm _ _ _ _ _ (ht.attr ha) hp).need hn) hv
              split at he
              · cases he
              · rename_i u5 hs
                cases he
                exact ⟨af_add (af_make ht.plc _ _ _ h) _ _ _ h1, h2.need hs⟩
theorem bindsL_fit {expr : List Tok → Res T} (hx : PFit M expr) : ∀ (k : Nat) (ar : Ar) (ts : List Tok) (ar' : Ar) (us : List Tok), AF M ar → TM M ts → bindsL expr k ar ts = .ok (ar', us) → AF M ar' ∧ TM M us := by
  intro k
  induction k with
  | zero => intro ar ts ar' us h ht he; cases he; exact ⟨h, ht⟩
  | succ k ih =>
    intro ar ts ar' us h ht he
    unfold bindsL at he
    split at he
    · cases he; exact ⟨h, ht⟩
    · split at he
      · split at he
        · cases he
        · rename_i ar1 u1 hi
          obtain ⟨h1, h2⟩ := inhL_fit _ _ _ _ _ h ht.tl hi
          split at he
          · cases he
          · rename_i u2 hn
            exact ih _ _ _ _ h1 (h2.need hn) he
      · split at he
        · split at he
          · cases he
          · rename_i ar1 u1 hb
            obtain ⟨h1, h2⟩ := bindP_fit hx h ht hb
            exact ih _ _ _ _ h1 h2 he
        · cases he; exact ⟨h, ht⟩
theorem treeOf_fit {ar : Ar} (h : AF M ar) : ∀ (f i : Nat), Fit M (treeOf ar f i) := by
  intro f
  induction f with
  | zero => intro i; unfold treeOf; exact fit_nil (Nat.zero_le _)
  | succ f ih =>
    intro i
    cases ho : ar[i]? with
    | none => unfold treeOf; rw [ho]; exact fit_nil (Nat.zero_le _)
    | some o =>
      rw [treeOf_some f ho]
      obtain ⟨h1, h2, h3⟩ := af_get h ho
      refine fit_mk.2 ⟨by rw [List.length_map]; omega, h2, (fitK_all _).2 fun t ht => ?_⟩
      obtain ⟨k, hk, rfl⟩ := List.mem_map.1 ht
      cases k with
      | leaf t => exact h3 _ hk
      | made j => exact ih j
theorem rootOf_fit {ar : Ar} (h : AF M ar) (kind : Int) {p : Nat} (hp : p ≤ M) {more : List T} (hm : ∀ t ∈ more, Fit M t) : Fit M (rootOf kind p more ar) := by
  unfold rootOf
  have h1 := treeOf_fit h (ar.length + 1) 0
  cases ht : treeOf ar (ar.length + 1) 0 with
  | mk k t n x ns q ks =>
    rw [ht] at h1
    obtain ⟨h2, _, h3⟩ := fit_mk.1 h1
    refine fit_mk.2 ⟨by rw [List.length_append]; omega, hp, (fitK_all _).2 fun y hy => ?_⟩
    rcases List.mem_append.1 hy with hy | hy
    · exact (fitK_all _).1 h3 y hy
    · exact hm y hy
theorem bracesP_fit {expr : List Tok → Res T} (hx : PFit M expr) (kind : Int) {p : Nat} (hp : p ≤ M) : PFit M (bracesP expr kind p) := by
  intro ts a us ht he
  unfold bracesP bindsP at he
  cases hb : bindsL expr ts.length [⟨[], [], p⟩] ts with
  | error e => rw [hb] at he; cases he
  | ok r =>
    obtain ⟨ar, u1⟩ := r
    rw [hb] at he
    obtain ⟨h1, h2⟩ := bindsL_fit hx _ _ _ _ _ (af_one hp) ht hb
    simp only at he
    split at he
    · cases he
    · rename_i u2 hn
      cases he
      exact ⟨rootOf_fit h1 _ hp (by simp), h2.need hn⟩
end
structure FitL (M : Nat) (L : PF) : Prop where
  top : PFit M L.top
  list : PFit M L.list
  upd : PFit M L.upd
  cat : PFit M L.cat
  sel : PFit M L.sel
  notT : PFit M L.notT
  negT : PFit M L.negT
section
variable {M : Nat} {L : PF} (hL : FitL M L)
include hL
theorem atomP_fit : PFit M (atomP L) := by
  intro ts b us ht he
  unfold atomP at he
  split at he
  · split at he
    · exact hL.list _ _ _ ht he
    · split at he
      · cases he
      · split at he
        · cases he; exact ⟨fit_nil ht.hd, ht.tl⟩
        · split at he
          · cases he; exact ⟨fit_nil ht.hd, ht.tl⟩
          · split at he
            · cases he; exact ⟨fit_nil ht.hd, ht.tl⟩
            · split at he
              · split at he
                · cases he
                · rename_i a u1 ha
                  obtain ⟨h1, h2⟩ := hL.top _ _ _ ht.tl ha
                  split at he
                  · cases he
                  · rename_i u2 hn
                    cases he
                    exact ⟨h1, h2.need hn⟩
              · split at he
                · exact bracesP_fit hL.top _ ht.hd _ _ _ ht.tl he
                · split at he
                  · split at he
                    · cases he
                    · rename_i u1 hn
                      exact bracesP_fit hL.top _ ht.hd _ _ _ (ht.tl.need hn) he
                  · cases he; exact ⟨fit_nil ht.hd, ht.tl⟩
  · cases he
theorem selL_fit : ∀ (k : Nat) (a : T) (ts : List Tok) (b : T) (us : List Tok), Fit M a → TM M ts → selL L k a ts = .ok (b, us) → Fit M b ∧ TM M us := by
  intro k
  induction k with
  | zero => intro a ts b us h ht he; cases he; exact ⟨h, ht⟩
  | succ k ih =>
    intro a ts b us h ht he
    unfold selL at he
    split at he
    · split at he
      · cases he
      · rename_i n u1 ha
        have h1 := ht.tail.attr ha
        split at he
        · split at he
          · cases he
          · rename_i b' u2 hb
            obtain ⟨h2, h3⟩ := hL.sel _ _ _ h1.tail hb
            exact ih _ _ _ _ (fit_two ht.plc h h2) h3 he
        · exact ih _ _ _ _ (fit_one ht.plc h) h1 he
    · cases he; exact ⟨h, ht⟩
theorem selP_fit : PFit M (selP L) := by
  intro ts b us ht he
  unfold selP at he
  split at he
  · cases he
  · rename_i a u1 ha
    obtain ⟨h1, h2⟩ := atomP_fit hL _ _ _ ht ha
    exact selL_fit hL _ _ _ _ _ h1 h2 he
theorem callL_fit : ∀ (k : Nat) (a : T) (ts : List Tok) (b : T) (us : List Tok), Fit M a → TM M ts → callL L k a ts = .ok (b, us) → Fit M b ∧ TM M us := by
  intro k
  induction k with
  | zero => intro a ts b us h ht he; cases he; exact ⟨h, ht⟩
  | succ k ih =>
    intro a ts b us h ht he
    unfold callL at he
    split at he
    · split at he
      · cases he
      · rename_i b' u1 hb
        obtain ⟨h1, h2⟩ := selP_fit hL _ _ _ ht hb
        exact ih _ _ _ _ (fit_two (fit_place h) h h1) h2 he
    · cases he; exact ⟨h, ht⟩
theorem callP_fit : PFit M (callP L) := by
  intro ts b us ht he
  unfold callP at he
  split at he
  · cases he
  · rename_i a u1 ha
    obtain ⟨h1, h2⟩ := selP_fit hL _ _ _ ht ha
    exact callL_fit hL _ _ _ _ _ h1 h2 he
theorem hasPr_fit : PFit M (hasPr L) := by
  intro ts b us ht he
  unfold hasPr at he
  split at he
  · cases he
  · rename_i a u1 ha
    obtain ⟨h1, h2⟩ := callP_fit hL _ _ _ ht ha
    split at he
    · split at he
      · cases he
      · rename_i n u2 hn
        cases he
        exact ⟨fit_one h2.plc h1, h2.tail.attr hn⟩
    · cases he; exact ⟨h1, h2⟩
theorem negP_fit : PFit M (negP L) := prefixP_fit hL.negT (hasPr_fit hL) _ 17
theorem catP_fit : PFit M (catP L) := rightP_fit hL.cat (negP_fit hL) _
theorem mulP_fit : PFit M (mulPr L) := leftP_fit (catP_fit hL) _
theorem addP_fit : PFit M (addP L) := leftP_fit (mulP_fit hL) _
theorem notP_fit : PFit M (notP L) := prefixP_fit hL.notT (addP_fit hL) _ 16
theorem updP_fit : PFit M (updP L) := rightP_fit hL.upd (notP_fit hL) _
theorem cmpP_fit : PFit M (cmpP L) := onceP_fit (updP_fit hL) _
theorem eqP_fit : PFit M (eqP L) := onceP_fit (cmpP_fit hL) _
theorem andP_fit : PFit M (andP L) := leftP_fit (eqP_fit hL) _
theorem orP_fit : PFit M (orP L) := leftP_fit (andP_fit hL) _
theorem ifL_fit : ∀ (ss : List ByteArray) (ks : List T) (ts : List Tok) (ks' : List T) (us : List Tok), (∀ t ∈ ks, Fit M t) → TM M ts → ifL L ss ks ts = .ok (ks', us) → (∀ t ∈ ks', Fit M t) ∧ TM M us := by
  intro ss
  induction ss with
  | nil => intro ks ts ks' us h ht he; cases he; exact ⟨h, ht⟩
  | cons s ss ih =>
    intro ks ts ks' us h ht he
    unfold ifL at he
    split at he
    · cases he
    · rename_i u1 hn
      split at he
      · cases he
      · rename_i a u2 ha
        obtain ⟨h1, h2⟩ := hL.top _ _ _ (ht.need hn) ha
        refine ih _ _ _ _ (fun t ht => ?_) h2 he
        rcases List.mem_append.1 ht with ht | ht
        · exact h t ht
        · simp at ht
          subst ht
          exact h1
theorem twoP_fit (kind : Int) : PFit M (twoP L kind) := by
  intro ts b us ht he
  unfold twoP at he
  split at he
  · cases he
  · rename_i a u1 ha
    obtain ⟨h1, h2⟩ := hL.top _ _ _ ht.tail ha
    split at he
    · cases he
    · rename_i u2 hn
      split at he
      · cases he
      · rename_i b' u3 hb
        cases he
        obtain ⟨h3, h4⟩ := hL.top _ _ _ (h2.need hn) hb
        exact ⟨fit_two ht.plc h1 h3, h4⟩
theorem topP_fit : PFit M (topP L) := by
  intro ts b us ht he
  unfold topP at he
  split at he
  · exact orP_fit hL _ _ _ ht he
  · split at he
    · split at he
      · cases he
      · rename_i a u1 ha
        cases he
        obtain ⟨h1, h2⟩ := hL.top _ _ _ ht.tl.tail ha
        exact ⟨fit_one ht.hd h1, h2⟩
    · split at he
      · split at he
        · cases he
        · rename_i ar u1 h9
          obtain ⟨h1, h2⟩ := bindsL_fit hL.top _ _ _ _ _ (af_one ht.hd) ht.tl h9
          split at he
          · cases he
          · rename_i u2 hn
            split at he
            · cases he
            · rename_i b' u3 hb
              cases he
              obtain ⟨h3, h4⟩ := hL.top _ _ _ (h2.need hn) hb
              exact ⟨rootOf_fit h1 _ ht.hd (by simpa using h3), h4⟩
      · split at he
        · exact twoP_fit hL _ _ _ _ ht he
        · split at he
          · exact twoP_fit hL _ _ _ _ ht he
          · split at he
            · split at he
              · cases he
              · rename_i ks u1 hi
                cases he
                obtain ⟨h1, h2⟩ := ifL_fit hL _ _ _ _ _ (by simp) ht hi
                exact ⟨fit_leaf ht.hd h1, h2⟩
            · exact orP_fit hL _ _ _ ht he
theorem listL_fit : ∀ (k : Nat) (ks : List T) (ts : List Tok) (ks' : List T) (us : List Tok), (∀ t ∈ ks, Fit M t) → TM M ts → listL L k ks ts = .ok (ks', us) → (∀ t ∈ ks', Fit M t) ∧ TM M us := by
  intro k
  induction k with
  | zero => intro ks ts ks' us h ht he; cases he; exact ⟨h, ht⟩
  | succ k ih =>
    intro ks ts ks' us h ht he
    unfold listL at he
    split at he
    · cases he; exact ⟨h, ht⟩
    · split at he
      · cases he
      · rename_i a u1 ha
        obtain ⟨h1, h2⟩ := selP_fit hL _ _ _ ht ha
        refine ih _ _ _ _ (fun t ht => ?_) h2 he
        rcases List.mem_append.1 ht with ht | ht
        · exact h t ht
        · simp at ht
          subst ht
          exact h1
theorem listP_fit : PFit M (listP L) := by
  intro ts b us ht he
  unfold listP at he
  split at he
  · cases he
  · rename_i ks u1 hl
    cases he
    obtain ⟨h1, h2⟩ := listL_fit hL _ _ _ _ _ (by simp) ht.tail hl
    exact ⟨fit_leaf ht.plc h1, h2.tail⟩
theorem mkP_fit : FitL M (mkP L) := ⟨topP_fit hL, listP_fit hL, updP_fit hL, catP_fit hL, selP_fit hL, fun _ _ _ ht he => notP_fit hL _ _ _ ht.tail he, fun _ _ _ ht he => negP_fit hL _ _ _ ht.tail he⟩
end
theorem Lv_fit (M : Nat) : ∀ n, FitL M (Lv n)
  | 0 => ⟨fun ts a us _ h => (by cases h), fun ts a us _ h => (by cases h), fun ts a us _ h => (by cases h), fun ts a us _ h => (by cases h), fun ts a us _ h => (by cases h), fun ts a us _ h => (by cases h), fun ts a us _ h => (by cases h)⟩
  | n + 1 => mkP_fit (Lv_fit M n)
def NFit (M : Nat) (x : Nd) : Prop := x.names.length ≤ x.kids.length ∧ x.place ≤ M
theorem nodesK_klen : ∀ (ks : List T) (b : Nat) (is : List Nat), (nodesK ks b is).2.length = is.length + ks.length
  | [], b, is => by simp [nodesK_nil]
  | t :: ks, b, is => by
    rw [nodesK_cons]
    simp only
    rw [nodesK_klen ks]
    simp
    omega
mutual
theorem nodes_fit {M : Nat} : ∀ (t : T) (b : Nat), Fit M t → ∀ x ∈ nodes t b, NFit M x
  | .mk k tx n x ns p ks, b, h => by
    rw [nodes_mk]
    obtain ⟨h1, h2, h3⟩ := fit_mk.1 h
    intro y hy
    rcases List.mem_append.1 hy with hy | hy
    · exact nodesK_fit ks b [] h3 y hy
    · simp at hy
      subst hy
      have := nodesK_klen ks b []
      refine ⟨?_, h2⟩
      simp at this ⊢
      omega
theorem nodesK_fit {M : Nat} : ∀ (ks : List T) (b : Nat) (is : List Nat), FitK M ks → ∀ x ∈ (nodesK ks b is).1, NFit M x
  | [], b, is, _ => by simp [nodesK_nil]
  | t :: ks, b, is, h => by
    rw [nodesK_cons]
    simp only
    have h' : Fit M t ∧ FitK M ks := by simpa [FitK] using h
    intro y hy
    rcases List.mem_append.1 hy with hy | hy
    · exact nodes_fit t b h'.1 y hy
    · exact nodesK_fit ks _ _ h'.2 y hy
end
theorem lx_tm {pf : ByteArray → Nat} {s : ByteArray} {p : Nat} {ts : List Tok} (h : Lx pf s p ts) : p ≤ s.size → TM s.size ts := by
  induction h with
  | fin h =>
    intro _ t ht
    simp at ht
    subst ht
    exact Nat.le_refl _
  | tok h1 h2 h3 ih =>
    intro hp t ht
    have hle := h1.le hp
    have htl := tokP_le h2
    rcases List.mem_cons.1 ht with rfl | ht
    · rw [htl.2.2]; exact hle.2
    · exact ih htl.2.1 t ht
theorem parse_fit {pf : ByteArray → Nat} {s : ByteArray} {l : List Nd} (h : parseP pf s = .ok l) : ∀ x ∈ l, NFit 4096 x := by
  unfold parseP at h
  split at h
  · cases h
  · rename_i ts hl
    obtain ⟨hz, hlx⟩ := lexP_iff.1 hl
    have htm : TM 4096 ts := fun t ht => Nat.le_trans (lx_tm hlx (Nat.zero_le _) t ht) hz
    split at h
    · cases h
    · rename_i t us ht
      split at h
      · split at h
        · split at h
          · cases h
          · cases h
            rw [flat0]
            exact nodes_fit t 0 ((Lv_fit 4096 32).top _ _ _ htm ht).1
        · cases h
      · cases h
end Go.Proofs.YtppljgallbmgcaaGreatDoor
