/- ParTh, CutP. -/
import Derived.Test.YtppljgallbmgcaaGreatDoorGu
import Derived.Test.YtppljgallbmgcaaGreatDoorGr
/- Ways through the levels; an expression in brackets. -/
namespace Go.Proofs.YtppljgallbmgcaaGreatDoor
open Go.RowKit
set_option linter.unusedSectionVars false
section
variable {f row : List Tok → Res T} {ts us vs : List Tok} {a b : T} {e : Er} {ss : List ByteArray} {s : ByteArray} {x : Tok}
theorem leftL_no (k : Nat) (hn : anyP ss us = false) : leftL f ss k a us = .ok (a, us) := by
  cases k with
  | zero => rfl
  | succ k => unfold leftL; rw [hn]; simp
theorem leftP_no (h : f ts = .ok (a, us)) (hn : anyP ss us = false) : leftP f ss ts = .ok (a, us) := by
  unfold leftP
  rw [h]
  exact leftL_no _ hn
theorem leftP_err (h : f ts = .error e) : leftP f ss ts = .error e := by unfold leftP; rw [h]
theorem leftP_one (h : f ts = .ok (a, x :: us)) (hy : anyP ss (x :: us) = true) (h2 : f us = .ok (b, vs)) (hn : anyP ss vs = false) : leftP f ss ts = .ok (binT x a b, vs) := by
  unfold leftP
  rw [h]
  show leftL f ss (us.length + 1) a (x :: us) = _
  unfold leftL
  rw [if_pos hy]
  simp only
  rw [h2]
  exact leftL_no _ hn
theorem leftP_two (h : f ts = .ok (a, x :: us)) (hy : anyP ss (x :: us) = true) (h2 : f us = .error e) : leftP f ss ts = .error e := by
  unfold leftP
  rw [h]
  show leftL f ss (us.length + 1) a (x :: us) = _
  unfold leftL
  rw [if_pos hy]
  simp only
  rw [h2]
theorem onceP_no (h : f ts = .ok (a, us)) (hn : anyP ss us = false) : onceP f ss ts = .ok (a, us) := by
  unfold onceP
  rw [h]
  simp only
  rw [hn]
  simp
theorem onceP_err (h : f ts = .error e) : onceP f ss ts = .error e := by unfold onceP; rw [h]
theorem onceP_one (h : f ts = .ok (a, x :: us)) (hy : anyP ss (x :: us) = true) (h2 : f us = .ok (b, vs)) : onceP f ss ts = .ok (binT x a b, vs) := by
  unfold onceP
  rw [h]
  simp only
  rw [if_pos hy, h2]
theorem onceP_two (h : f ts = .ok (a, x :: us)) (hy : anyP ss (x :: us) = true) (h2 : f us = .error e) : onceP f ss ts = .error e := by
  unfold onceP
  rw [h]
  simp only
  rw [if_pos hy, h2]
theorem rightP_no (h : f ts = .ok (a, us)) (hn : isP s us = false) : rightP' row f s ts = .ok (a, us) := by
  unfold rightP'
  rw [h]
  simp only
  rw [hn]
  simp
theorem rightP_err (h : f ts = .error e) : rightP' row f s ts = .error e := by unfold rightP'; rw [h]
theorem rightP_one (h : f ts = .ok (a, x :: us)) (hy : isP s (x :: us) = true) (h2 : row us = .ok (b, vs)) : rightP' row f s ts = .ok (binT x a b, vs) := by
  unfold rightP'
  rw [h]
  simp only
  rw [if_pos hy, h2]
theorem rightP_two (h : f ts = .ok (a, x :: us)) (hy : isP s (x :: us) = true) (h2 : row us = .error e) : rightP' row f s ts = .error e := by
  unfold rightP'
  rw [h]
  simp only
  rw [if_pos hy, h2]
theorem prefixP_no {kind : Int} (hn : isP s ts = false) : prefixP row f s kind ts = f ts := by
  unfold prefixP
  rw [hn]
  simp
end
section
variable {L : PF} {ts us : List Tok} {a : T} {e : Er}
theorem selL_no (k : Nat) (h : isP ⟨#[46]⟩ us = false) : selL L k a us = .ok (a, us) := by
  cases k with
  | zero => rfl
  | succ k => unfold selL; rw [h]; simp
theorem selP_ok (h : atomP L ts = .ok (a, us)) (h1 : isP ⟨#[46]⟩ us = false) : selP L ts = .ok (a, us) := by
  unfold selP
  rw [h]
  exact selL_no _ h1
theorem callL_no (k : Nat) (h : begP us = false) : callL L k a us = .ok (a, us) := by
  cases k with
  | zero => rfl
  | succ k => unfold callL; rw [h]; simp
theorem callP_ok (h : selP L ts = .ok (a, us)) (h1 : begP us = false) : callP L ts = .ok (a, us) := by
  unfold callP
  rw [h]
  exact callL_no _ h1
theorem hasP_ok (h : callP L ts = .ok (a, us)) (h1 : isP ⟨#[63]⟩ us = false) : hasPr L ts = .ok (a, us) := by
  unfold hasPr
  rw [h]
  simp only
  rw [h1]
  simp
/-- What comes behind an atom does not go on with it, up to a level. -/
structure Nx (k : Nat) (us : List Tok) : Prop where
  dot : isP ⟨#[46]⟩ us = false
  beg : begP us = false
  qm : isP ⟨#[63]⟩ us = false
  cat : 1 ≤ k → isP ⟨#[43, 43]⟩ us = false
  mul : 2 ≤ k → anyP [⟨#[42]⟩, ⟨#[47]⟩] us = false
  add : 3 ≤ k → anyP [⟨#[43]⟩, ⟨#[45]⟩] us = false
  upd : 4 ≤ k → isP ⟨#[47, 47]⟩ us = false
  cmp : 5 ≤ k → anyP [⟨#[60]⟩, ⟨#[60, 61]⟩, ⟨#[62]⟩, ⟨#[62, 61]⟩] us = false
  eq : 6 ≤ k → anyP [⟨#[61, 61]⟩, ⟨#[33, 61]⟩] us = false
  and : 7 ≤ k → anyP [⟨#[38, 38]⟩] us = false
  or : 8 ≤ k → anyP [⟨#[124, 124]⟩] us = false
theorem inert_nx (h : Inert us) : Nx 8 us := by
  obtain ⟨x, r, rfl, hi⟩ := h
  have hk := okAll
  have ha : ∀ ss, (∀ s ∈ ss, okS s) → anyP ss (x :: r) = false := fun ss hs => inert_any hi hs
  exact ⟨inert_isT hi hk.dot, inert_begT hi, inert_isT hi hk.qm, fun _ => inert_isT hi hk.cat, fun _ => ha _ hk.mul, fun _ => ha _ hk.add, fun _ => inert_isT hi hk.upd, fun _ => ha _ hk.cmp, fun _ => ha _ hk.eq, fun _ => ha _ hk.and, fun _ => ha _ hk.or2⟩
variable {k : Nat} (hx : Nx k us)
include hx
theorem Nx.sel (h : atomP L ts = .ok (a, us)) : selP L ts = .ok (a, us) := selP_ok h hx.dot
theorem Nx.neg (h : atomP L ts = .ok (a, us)) (hm : isP ⟨#[45]⟩ ts = false) : negP L ts = .ok (a, us) := by
  unfold negP
  rw [prefixP_no hm]
  exact hasP_ok (callP_ok (hx.sel h) hx.beg) hx.qm
theorem Nx.xcat (h : atomP L ts = .ok (a, us)) (hm : isP ⟨#[45]⟩ ts = false) (hk : 1 ≤ k) : catP L ts = .ok (a, us) := rightP_no (hx.neg h hm) (hx.cat hk)
theorem Nx.xmul (h : atomP L ts = .ok (a, us)) (hm : isP ⟨#[45]⟩ ts = false) (hk : 2 ≤ k) : mulPr L ts = .ok (a, us) := leftP_no (hx.xcat h hm (by omega)) (hx.mul hk)
theorem Nx.xadd (h : atomP L ts = .ok (a, us)) (hm : isP ⟨#[45]⟩ ts = false) (hk : 3 ≤ k) : addP L ts = .ok (a, us) := leftP_no (hx.xmul h hm (by omega)) (hx.add hk)
theorem Nx.xnot (h : addP L ts = .ok (a, us)) (hn : isP ⟨#[33]⟩ ts = false) : notP L ts = .ok (a, us) := by
  unfold notP
  rw [prefixP_no hn]
  exact h
theorem Nx.xupd (h : addP L ts = .ok (a, us)) (hn : isP ⟨#[33]⟩ ts = false) (hk : 4 ≤ k) : updP L ts = .ok (a, us) := rightP_no (hx.xnot h hn) (hx.upd hk)
theorem Nx.xcmp (h : updP L ts = .ok (a, us)) (hk : 5 ≤ k) : cmpP L ts = .ok (a, us) := onceP_no h (hx.cmp hk)
theorem Nx.xeq (h : cmpP L ts = .ok (a, us)) (hk : 6 ≤ k) : eqP L ts = .ok (a, us) := onceP_no h (hx.eq hk)
theorem Nx.xand (h : eqP L ts = .ok (a, us)) (hk : 7 ≤ k) : andP L ts = .ok (a, us) := leftP_no h (hx.and hk)
theorem Nx.xor (h : andP L ts = .ok (a, us)) (hk : 8 ≤ k) : orP L ts = .ok (a, us) := leftP_no h (hx.or hk)
end
section
variable {L : PF} {ts us : List Tok} {a : T} {e : Er}
theorem neg_err (h : atomP L ts = .error e) (hm : isP ⟨#[45]⟩ ts = false) : negP L ts = .error e := by
  unfold negP
  rw [prefixP_no hm]
  unfold hasPr callP selP
  rw [h]
theorem add_err (h : atomP L ts = .error e) (hm : isP ⟨#[45]⟩ ts = false) : addP L ts = .error e := leftP_err (leftP_err (rightP_err (neg_err h hm)))
theorem upd_err (h : atomP L ts = .error e) (hm : isP ⟨#[45]⟩ ts = false) (hn : isP ⟨#[33]⟩ ts = false) : updP L ts = .error e := by
  unfold updP
  refine rightP_err ?_
  unfold notP
  rw [prefixP_no hn]
  exact add_err h hm
theorem and_err (h : atomP L ts = .error e) (hm : isP ⟨#[45]⟩ ts = false) (hn : isP ⟨#[33]⟩ ts = false) : andP L ts = .error e := leftP_err (onceP_err (onceP_err (upd_err h hm hn)))
theorem or_err (h : atomP L ts = .error e) (hm : isP ⟨#[45]⟩ ts = false) (hn : isP ⟨#[33]⟩ ts = false) : orP L ts = .error e := leftP_err (and_err h hm hn)
theorem or_ok (hx : Nx 8 us) (h : atomP L ts = .ok (a, us)) (hm : isP ⟨#[45]⟩ ts = false) (hn : isP ⟨#[33]⟩ ts = false) : orP L ts = .ok (a, us) :=
  hx.xor (hx.xand (hx.xeq (hx.xcmp (hx.xupd (hx.xadd h hm (by omega)) hn (by omega)) (by omega)) (by omega)) (by omega)) (by omega)
end
/-- A sign, as a token. -/
def sgT (b : ByteArray) (p : Nat) : Tok := ⟨5, b, 0, 0, p⟩
theorem top_sign {L : PF} {b : ByteArray} {p : Nat} {us : List Tok} (h1 : isT ⟨#[108, 101, 116]⟩ (sgT b p) = false) (h2 : isT ⟨#[119, 105, 116, 104]⟩ (sgT b p) = false) (h3 : isT ⟨#[97, 115, 115, 101, 114, 116]⟩ (sgT b p) = false) (h4 : isT ⟨#[105, 102]⟩ (sgT b p) = false) : topP L (sgT b p :: us) = orP L (sgT b p :: us) := by
  unfold topP
  simp only
  rw [h1, h2, h3, h4]
  simp [nameT, sgT]
/-- An expression that is taken, in brackets elsewhere. -/
theorem brk {n k d p q : Nat} {ts ts' us rest : List Tok} {t : T} {u : Tok} (h : (Lv n).top ts = .ok (t, u :: us)) (hu : u.kind = 0) (he : Em d (sgT ⟨#[41]⟩ q :: rest) ts ts') :
    atomP (Lv k) (sgT ⟨#[40]⟩ p :: ts') = .ok (t.mv d, rest) ∨ ∃ p', atomP (Lv k) (sgT ⟨#[40]⟩ p :: ts') = .error (p', 9) := by
  have hT : Inert (sgT ⟨#[41]⟩ q :: rest) := ⟨_, _, rfl, Or.inr ⟨rfl, Or.inl rfl⟩⟩
  have hA : atomP (Lv k) (sgT ⟨#[40]⟩ p :: ts') = (match (Lv k).top ts' with | .error e => .error e | .ok (a, us) => match needP ⟨#[41]⟩ us with | .error e => .error e | .ok us => .ok (a, us)) := by
    conv => lhs; unfold atomP
    rw [if_pos (show begP (sgT ⟨#[40]⟩ p :: ts') = true by show begT (sgT ⟨#[40]⟩ p) = true; kernel_rfl), if_neg (show ¬ isP ⟨#[91]⟩ (sgT ⟨#[40]⟩ p :: ts') = true by
      rw [show isP ⟨#[91]⟩ (sgT ⟨#[40]⟩ p :: ts') = false by show isT ⟨#[91]⟩ (sgT ⟨#[40]⟩ p) = false; kernel_rfl]; simp)]
    simp only
    rw [if_neg (show ¬ (sgT ⟨#[40]⟩ p).kind = 2 by show ¬ (5 : Int) = 2; decide), if_neg (show ¬ (sgT ⟨#[40]⟩ p).kind = 3 by show ¬ (5 : Int) = 3; decide), if_neg (show ¬ (sgT ⟨#[40]⟩ p).kind = 4 by show ¬ (5 : Int) = 4; decide), if_pos (show ((sgT ⟨#[40]⟩ p).text.toList == (⟨#[40]⟩ : ByteArray).toList) = true by simp [sgT])]
    rfl
  rw [hA]
  rcases (Lv_sim hT (m := true) n k (by simp)).top _ _ he _ _ h with ⟨us', h1, h2⟩ | ⟨_, p', h1⟩
  · left
    rw [h1]
    cases h2 with
    | tok hk => exact absurd hu hk
    | fin _ =>
      simp only
      have : needP ⟨#[41]⟩ (sgT ⟨#[41]⟩ q :: rest) = .ok rest := by
        unfold needP
        rw [if_pos (show isP ⟨#[41]⟩ (sgT ⟨#[41]⟩ q :: rest) = true by show isT ⟨#[41]⟩ (sgT ⟨#[41]⟩ q) = true; kernel_rfl)]
        rfl
      rw [this]
  · right
    rw [h1]
    exact ⟨p', rfl⟩
/-- What a text that is taken comes to. -/
theorem taken {pf : ByteArray → Nat} {s : ByteArray} {l : List Nd} (h : parseP pf s = .ok l) : ∃ ts t u us, s.size ≤ 4096 ∧ Lx pf s 0 ts ∧ (Lv 32).top ts = .ok (t, u :: us) ∧ u.kind = 0 ∧ l = nodes t 0 ∧ cnt t ≤ 1000 := by
  unfold parseP at h
  split at h
  · cases h
  · rename_i ts hl
    obtain ⟨h1, h2⟩ := lexP_iff.1 hl
    split at h
    · cases h
    · rename_i t us ht
      split at h
      · rename_i u vs
        split at h
        · rename_i hk
          split at h
          · cases h
          · rename_i hc
            cases h
            rw [flat0, nodes_len] at hc
            exact ⟨ts, t, u, vs, h1, h2, ht, hk, flat0 t, by omega⟩
        · cases h
      · cases h
theorem parse_of {pf : ByteArray → Nat} {s : ByteArray} {ts : List Tok} (hs : s.size ≤ 4096) (h : Lx pf s 0 ts) : parseP pf s = parseR ((Lv 32).top ts) := by
  rw [parseP_is, lexP_iff.2 ⟨hs, h⟩]
  rfl
theorem parse_end {t : T} {u : Tok} {us : List Tok} (hk : u.kind = 0) : parseR (.ok (t, u :: us)) = if 1000 < cnt t then .error (0, 8) else .ok (nodes t 0) := by
  show parseE t (u :: us) = _
  rw [parseE_cons, if_pos hk, flat0, nodes_len]
theorem parse_rest {t : T} {u : Tok} {us : List Tok} (hk : u.kind ≠ 0) : parseR (.ok (t, u :: us)) = .error (u.place, 6) := by
  show parseE t (u :: us) = _
  rw [parseE_cons, if_neg hk]
  show Except.error (u.place, if u.kind = 0 then (7 : Int) else 6) = _
  rw [if_neg hk]
end Go.Proofs.YtppljgallbmgcaaGreatDoor

/- ParseCut, ParseBrackets: what the texts come to. -/
namespace Go.Proofs.YtppljgallbmgcaaGreatDoor
open Go.RowKit
theorem sig_open (r : List UInt8) : signL (40 :: r) = some ⟨#[40]⟩ := by kernel_rfl
theorem sig_shut (r : List UInt8) : signL (41 :: r) = some ⟨#[41]⟩ := by kernel_rfl
theorem sig_semi (r : List UInt8) : signL (59 :: r) = some ⟨#[59]⟩ := by kernel_rfl
theorem size_of {s : ByteArray} {l : List UInt8} (h : s.data.toList = l) : s.size = l.length := by rw [← h]; exact Array.length_toList.symm
theorem list_len (s : ByteArray) : s.data.toList.length = s.size := Array.length_toList
theorem atom_br (L : PF) (p : Nat) (ts : List Tok) : atomP L (sgT ⟨#[40]⟩ p :: ts) = (match L.top ts with | .error e => .error e | .ok (a, us) => match needP ⟨#[41]⟩ us with | .error e => .error e | .ok us => .ok (a, us)) := by
  conv => lhs; unfold atomP
  rw [if_pos (show begP (sgT ⟨#[40]⟩ p :: ts) = true by show begT (sgT ⟨#[40]⟩ p) = true; kernel_rfl), if_neg (show ¬ isP ⟨#[91]⟩ (sgT ⟨#[40]⟩ p :: ts) = true by
    rw [show isP ⟨#[91]⟩ (sgT ⟨#[40]⟩ p :: ts) = false by show isT ⟨#[91]⟩ (sgT ⟨#[40]⟩ p) = false; kernel_rfl]; simp)]
  simp only
  rw [if_neg (show ¬ (sgT ⟨#[40]⟩ p).kind = 2 by show ¬ (5 : Int) = 2; decide), if_neg (show ¬ (sgT ⟨#[40]⟩ p).kind = 3 by show ¬ (5 : Int) = 3; decide), if_neg (show ¬ (sgT ⟨#[40]⟩ p).kind = 4 by show ¬ (5 : Int) = 4; decide), if_pos (show ((sgT ⟨#[40]⟩ p).text.toList == (⟨#[40]⟩ : ByteArray).toList) = true by simp [sgT])]
  rfl
theorem top_br (L : PF) (p : Nat) (ts : List Tok) : topP L (sgT ⟨#[40]⟩ p :: ts) = orP L (sgT ⟨#[40]⟩ p :: ts) := top_sign (by kernel_rfl) (by kernel_rfl) (by kernel_rfl) (by kernel_rfl)
theorem br_neg (p : Nat) (ts : List Tok) : isP ⟨#[45]⟩ (sgT ⟨#[40]⟩ p :: ts) = false := by show isT ⟨#[45]⟩ (sgT ⟨#[40]⟩ p) = false; kernel_rfl
theorem br_not (p : Nat) (ts : List Tok) : isP ⟨#[33]⟩ (sgT ⟨#[40]⟩ p :: ts) = false := by show isT ⟨#[33]⟩ (sgT ⟨#[40]⟩ p) = false; kernel_rfl
theorem top_br_err {L : PF} {p : Nat} {ts : List Tok} {e : Er} (h : atomP L (sgT ⟨#[40]⟩ p :: ts) = .error e) : topP L (sgT ⟨#[40]⟩ p :: ts) = .error e := by
  rw [top_br]
  exact or_err h (br_neg _ _) (br_not _ _)
theorem top_br_ok {L : PF} {p : Nat} {ts us : List Tok} {a : T} (h : atomP L (sgT ⟨#[40]⟩ p :: ts) = .ok (a, us)) (hx : Inert us) : topP L (sgT ⟨#[40]⟩ p :: ts) = .ok (a, us) := by
  rw [top_br]
  exact or_ok (inert_nx hx) h (br_neg _ _) (br_not _ _)
theorem need_end (b : ByteArray) (p : Nat) : needP b [⟨0, ⟨#[]⟩, 0, 0, p⟩] = .error (p, 7) := by
  unfold needP
  rw [if_neg (show ¬ isP b [⟨0, ⟨#[]⟩, 0, 0, p⟩] = true by show ¬ isT b ⟨0, ⟨#[]⟩, 0, 0, p⟩ = true; unfold isT; simp)]
  rfl
theorem inert_end (p : Nat) : Inert [⟨0, ⟨#[]⟩, 0, 0, p⟩] := ⟨_, _, rfl, Or.inl rfl⟩
theorem cut_open {pf : ByteArray → Nat} {s s' : ByteArray} {l : List Nd} (h : parseP pf s = .ok l) (hs : s'.data.toList = 40 :: (s.data.toList ++ [10])) (hz : s.size ≤ 4086) : parseP pf s' = .error (s.size + 2, 7) ∨ ∃ p, parseP pf s' = .error (p, 9) := by
  obtain ⟨ts, t, u, us, _, hl, ht, hk, _, _⟩ := taken h
  have hsz : s'.size = s.size + 2 := by
    rw [size_of hs]
    simp
  have h0 : s'.data.toList.drop 0 = 40 :: (s.data.toList ++ [10]) := hs
  obtain ⟨_, h1, _⟩ := dr_bt h0
  obtain ⟨ts', h3, h4⟩ := lx_text (d := 1) hl h1 (lx_end (pf := pf) (s := s') (p := 1 + s.size + 1) (by omega))
  have h5 := lx_sign (pf := pf) h0 rfl (sig_open _) h4
  rw [parse_of (by omega) h5]
  have hT := inert_end s'.size
  rw [show (Lv 32).top = topP (Lv 31) from rfl]
  rcases (Lv_sim hT (m := true) 32 31 (by simp)).top _ _ h3 _ _ ht with ⟨us', h6, h7⟩ | ⟨_, p, h6⟩
  · cases h7 with
    | tok hk2 => exact absurd hk hk2
    | fin _ =>
      have h8 : atomP (Lv 31) (sgT ⟨#[40]⟩ 0 :: ts') = .error (s'.size, 7) := by
        rw [atom_br, h6]
        simp only
        rw [need_end]
      rw [show (⟨5, ⟨#[40]⟩, 0, 0, 0⟩ : Tok) = sgT ⟨#[40]⟩ 0 from rfl, top_br_err h8, hsz]
      exact Or.inl rfl
  · have h8 : atomP (Lv 31) (sgT ⟨#[40]⟩ 0 :: ts') = .error (p, 9) := by rw [atom_br, h6]
    rw [show (⟨5, ⟨#[40]⟩, 0, 0, 0⟩ : Tok) = sgT ⟨#[40]⟩ 0 from rfl, top_br_err h8]
    exact Or.inr ⟨p, rfl⟩
theorem cut_more {pf : ByteArray → Nat} {s s' : ByteArray} {l : List Nd} {c : UInt8} (h : parseP pf s = .ok l) (hc : c = 41 ∨ c = 59) (hs : s'.data.toList = s.data.toList ++ [10, c]) (hz : s.size ≤ 4086) : parseP pf s' = .error (s.size + 1, 6) := by
  obtain ⟨ts, t, u, us, _, hl, ht, hk, _, _⟩ := taken h
  have hsz : s'.size = s.size + 2 := by
    rw [size_of hs]
    simp
  have h0 : s'.data.toList.drop 0 = s.data.toList ++ 10 :: [c] := hs
  have hd : s'.data.toList.drop (0 + s.size + 1) = [c] := by
    have h1 := dr_add (a := s.data.toList ++ [10]) (r := [c]) (by rw [h0]; simp)
    simp only [List.length_append, list_len, List.length_cons, List.length_nil] at h1
    exact h1
  have hsg : ∃ b : ByteArray, signL [c] = some b ∧ b.size = 1 ∧ plainC c = true ∧ InertT (sgT b (0 + s.size + 1)) := by
    rcases hc with rfl | rfl
    · exact ⟨_, sig_shut _, rfl, rfl, Or.inr ⟨rfl, Or.inl rfl⟩⟩
    · exact ⟨_, sig_semi _, rfl, rfl, Or.inr ⟨rfl, Or.inr rfl⟩⟩
  obtain ⟨b, hb1, hb2, hb3, hb4⟩ := hsg
  have h2 := lx_sign (pf := pf) hd hb3 hb1 (lx_end (by omega))
  obtain ⟨ts', h3, h4⟩ := lx_text (d := 0) hl h0 h2
  rw [parse_of (by omega) h4]
  have hT : Inert (sgT b (0 + s.size + 1) :: [⟨0, ⟨#[]⟩, 0, 0, s'.size⟩]) := ⟨_, _, rfl, hb4⟩
  rcases (Lv_sim hT (m := false) 32 32 (by simp)).top _ _ h3 _ _ ht with ⟨us', h6, h7⟩ | ⟨h6, _⟩
  · cases h7 with
    | tok hk2 => exact absurd hk hk2
    | fin _ =>
      rw [h6, parse_rest (by show (5 : Int) ≠ 0; decide)]
      show Except.error (0 + s.size + 1, (6 : Int)) = _
      rw [Nat.zero_add]
  · cases h6
theorem brackets {pf : ByteArray → Nat} {s s' : ByteArray} {l : List Nd} (h : parseP pf s = .ok l) (hs : s'.data.toList = 40 :: 32 :: (s.data.toList ++ [10, 41])) (hz : s.size ≤ 4086) : parseP pf s' = .ok (l.map (Nd.mv 2)) ∨ ∃ p, parseP pf s' = .error (p, 9) := by
  obtain ⟨ts, t, u, us, _, hl, ht, hk, rfl, hcn⟩ := taken h
  have hsz : s'.size = s.size + 4 := by
    rw [size_of hs]
    simp
  have h0 : s'.data.toList.drop 0 = 40 :: 32 :: (s.data.toList ++ [10, 41]) := hs
  obtain ⟨_, h1, _⟩ := dr_bt h0
  obtain ⟨_, h2, _⟩ := dr_bt h1
  have h2' : s'.data.toList.drop 2 = s.data.toList ++ 10 :: [41] := h2
  have hd : s'.data.toList.drop (2 + s.size + 1) = [41] := by
    have h9 := dr_add (a := s.data.toList ++ [10]) (r := [41]) (by rw [h2']; simp)
    simp only [List.length_append, list_len, List.length_cons, List.length_nil] at h9
    exact h9
  have h9 := lx_sign (pf := pf) hd rfl (sig_shut _) (lx_end (show _ = s'.size by show 2 + s.size + 1 + 1 = _; omega))
  obtain ⟨ts', h3, h4⟩ := lx_text (d := 2) hl h2' h9
  have h5 := lx_sign (pf := pf) h0 rfl (sig_open _) (lx_blank h1 rfl h4)
  rw [parse_of (by omega) h5]
  rw [show (Lv 32).top = topP (Lv 31) from rfl, show (⟨5, ⟨#[40]⟩, 0, 0, 0⟩ : Tok) = sgT ⟨#[40]⟩ 0 from rfl]
  rcases brk (k := 31) (p := 0) ht hk h3 with h6 | ⟨p, h6⟩
  · rw [top_br_ok h6 (inert_end _), parse_end rfl, cnt_mv, if_neg (by omega), nodes_mv]
    exact Or.inl rfl
  · rw [top_br_err h6]
    exact Or.inr ⟨p, rfl⟩
end Go.Proofs.YtppljgallbmgcaaGreatDoor
