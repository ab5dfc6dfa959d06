/- ParseJoins: what the texts come to. -/
import Derived.Test.YtppljgallbmgcaaGreatDoorGv
namespace Go.Proofs.YtppljgallbmgcaaGreatDoor
open Go.RowKit
def Fin1 (r : Res T) : Prop := ∀ a us, r = .ok (a, us) → Inert us
def joinR (x : Tok) (a : T) (r : Res T) : Res T := match r with | .ok (b, vs) => .ok (binT x a b, vs) | .error e => .error e
theorem joinR_fin {x : Tok} {a : T} {r : Res T} (h : Fin1 r) : Fin1 (joinR x a r) := by
  intro b vs hb
  cases r with
  | error e => cases hb
  | ok q => cases hb; exact h _ _ rfl
section
variable {f row : List Tok → Res T} {ts us : List Tok} {a : T} {ss : List ByteArray} {s : ByteArray} {x : Tok} {r : Res T}
theorem stL (hr : Fin1 r) (hs : ∀ s ∈ ss, okS s) (h : f ts = r) : leftP f ss ts = r := by
  cases r with
  | error e => exact leftP_err h
  | ok q =>
    obtain ⟨y, z, e, hi⟩ := hr _ _ rfl
    refine leftP_no h ?_
    rw [e]
    exact inert_any hi hs
theorem stO (hr : Fin1 r) (hs : ∀ s ∈ ss, okS s) (h : f ts = r) : onceP f ss ts = r := by
  cases r with
  | error e => exact onceP_err h
  | ok q =>
    obtain ⟨y, z, e, hi⟩ := hr _ _ rfl
    refine onceP_no h ?_
    rw [e]
    exact inert_any hi hs
theorem stR (hr : Fin1 r) (hs : okS s) (h : f ts = r) : rightP' row f s ts = r := by
  cases r with
  | error e => exact rightP_err h
  | ok q =>
    obtain ⟨y, z, e, hi⟩ := hr _ _ rfl
    refine rightP_no h ?_
    rw [e]
    exact inert_isT hi hs
theorem jL (hr : Fin1 r) (hs : ∀ s ∈ ss, okS s) (h : f ts = .ok (a, x :: us)) (hy : anyP ss (x :: us) = true) (h2 : f us = r) : leftP f ss ts = joinR x a r := by
  cases r with
  | error e => exact leftP_two h hy h2
  | ok q =>
    obtain ⟨y, z, e, hi⟩ := hr _ _ rfl
    refine leftP_one h hy h2 ?_
    rw [e]
    exact inert_any hi hs
theorem jO (h : f ts = .ok (a, x :: us)) (hy : anyP ss (x :: us) = true) (h2 : f us = r) : onceP f ss ts = joinR x a r := by
  cases r with
  | error e => exact onceP_two h hy h2
  | ok q => exact onceP_one h hy h2
theorem jR (h : f ts = .ok (a, x :: us)) (hy : isP s (x :: us) = true) (h2 : row us = r) : rightP' row f s ts = joinR x a r := by
  cases r with
  | error e => exact rightP_two h hy h2
  | ok q => exact rightP_one h hy h2
end
section
variable {L : PF} {ts us : List Tok} {r : Res T} (hr : Fin1 r)
include hr
theorem fin_neg (h : atomP L ts = r) (hm : isP ⟨#[45]⟩ ts = false) : negP L ts = r := by
  cases r with
  | error e => exact neg_err h hm
  | ok q => exact (inert_nx (hr _ _ rfl)).neg h hm
theorem fin_cat (h : atomP L ts = r) (hm : isP ⟨#[45]⟩ ts = false) : catP L ts = r := stR hr okAll.cat (fin_neg hr h hm)
theorem fin_mul (h : catP L ts = r) : mulPr L ts = r := stL hr okAll.mul h
theorem fin_add (h : mulPr L ts = r) : addP L ts = r := stL hr okAll.add h
theorem fin_upd (h : addP L ts = r) (hn : isP ⟨#[33]⟩ ts = false) : updP L ts = r := by
  refine stR hr okAll.upd ?_
  unfold notP
  rw [prefixP_no hn]
  exact h
theorem fin_cmp (h : updP L ts = r) : cmpP L ts = r := stO hr okAll.cmp h
theorem fin_eq (h : cmpP L ts = r) : eqP L ts = r := stO hr okAll.eq h
theorem fin_and (h : eqP L ts = r) : andP L ts = r := stL hr okAll.and h
theorem fin_or (h : andP L ts = r) : orP L ts = r := stL hr okAll.or2 h
end
/-- The signs. -/
def jsg : Nat → ByteArray
  | 0 => ⟨#[124, 124]⟩ | 1 => ⟨#[38, 38]⟩ | 2 => ⟨#[61, 61]⟩ | 3 => ⟨#[33, 61]⟩ | 4 => ⟨#[60]⟩ | 5 => ⟨#[60, 61]⟩ | 6 => ⟨#[62]⟩ | 7 => ⟨#[62, 61]⟩ | 8 => ⟨#[47, 47]⟩ | 9 => ⟨#[43]⟩ | 10 => ⟨#[45]⟩ | 11 => ⟨#[42]⟩ | 12 => ⟨#[47]⟩ | _ => ⟨#[43, 43]⟩
def isB (s b : ByteArray) : Bool := isT s (sgT b 0)
def anB (ss : List ByteArray) (b : ByteArray) : Bool := anyP ss [sgT b 0]
def nxB (k : Nat) (b : ByteArray) : Bool := !isB ⟨#[46]⟩ b && !begT (sgT b 0) && !isB ⟨#[63]⟩ b && (decide (k < 1) || !isB ⟨#[43, 43]⟩ b) && (decide (k < 2) || !anB [⟨#[42]⟩, ⟨#[47]⟩] b) && (decide (k < 3) || !anB [⟨#[43]⟩, ⟨#[45]⟩] b) && (decide (k < 4) || !isB ⟨#[47, 47]⟩ b)
  && (decide (k < 5) || !anB [⟨#[60]⟩, ⟨#[60, 61]⟩, ⟨#[62]⟩, ⟨#[62, 61]⟩] b) && (decide (k < 6) || !anB [⟨#[61, 61]⟩, ⟨#[33, 61]⟩] b) && (decide (k < 7) || !anB [⟨#[38, 38]⟩] b) && (decide (k < 8) || !anB [⟨#[124, 124]⟩] b)
theorem nx_of {k p : Nat} {b : ByteArray} {us : List Tok} (h : nxB k b = true) : Nx k (sgT b p :: us) := by
  unfold nxB at h
  simp only [Bool.and_eq_true, Bool.not_eq_true', Bool.or_eq_true, decide_eq_true_eq] at h
  obtain ⟨⟨⟨⟨⟨⟨⟨⟨⟨⟨h1, h2⟩, h3⟩, h4⟩, h5⟩, h6⟩, h7⟩, h8⟩, h9⟩, h10⟩, h11⟩ := h
  have f : ∀ {j : Nat} {q : Prop}, (k < j ∨ q) → j ≤ k → q := fun h hj => h.resolve_left (by omega)
  exact ⟨h1, h2, h3, f h4, f h5, f h6, f h7, f h8, f h9, f h10, f h11⟩
section
variable {n p : Nat} {ts us : List Tok} {a : T} {b : ByteArray} {r r' : Res T}
/-- Two that a sign joins. -/
theorem join_is {i : Nat} (hi : i < 14) (hm : isP ⟨#[45]⟩ ts = false) (hn : isP ⟨#[33]⟩ ts = false) (hm2 : isP ⟨#[45]⟩ us = false) (hn2 : isP ⟨#[33]⟩ us = false) (hA : atomP (Lv (n + 1)) ts = .ok (a, sgT (jsg i) p :: us)) (h1 : atomP (Lv (n + 1)) us = r) (h2 : atomP (Lv n) us = r') (hr : Fin1 r) (hr' : Fin1 r') :
    orP (Lv (n + 1)) ts = joinR (sgT (jsg i) p) a r ∨ orP (Lv (n + 1)) ts = joinR (sgT (jsg i) p) a r' := by
  have b1 := fin_cat hr h1 hm2
  have b2 := fin_mul hr b1
  have b3 := fin_add hr b2
  have b4 := fin_upd hr b3 hn2
  have b5 := fin_cmp hr b4
  have b6 := fin_eq hr b5
  have b7 := fin_and hr b6
  have b1' := fin_cat hr' h2 hm2
  have b4' := fin_upd hr' (fin_add hr' (fin_mul hr' b1')) hn2
  have F := joinR_fin (x := sgT (jsg i) p) (a := a) hr
  have F' := joinR_fin (x := sgT (jsg i) p) (a := a) hr'
  rcases (by omega : i = 0 ∨ i = 1 ∨ (i = 2 ∨ i = 3) ∨ (i = 4 ∨ i = 5 ∨ i = 6 ∨ i = 7) ∨ i = 8 ∨ (i = 9 ∨ i = 10) ∨ (i = 11 ∨ i = 12) ∨ i = 13) with h | h | h | h | h | h | h | h
  · have hx : Nx 7 (sgT (jsg i) p :: us) := by subst h; exact nx_of (by kernel_rfl)
    have hy : anyP [⟨#[124, 124]⟩] (sgT (jsg i) p :: us) = true := by subst h; show anB [⟨#[124, 124]⟩] _ = true; kernel_rfl
    have c := hx.xand (hx.xeq (hx.xcmp (hx.xupd (hx.xadd hA hm (by omega)) hn (by omega)) (by omega)) (by omega)) (by omega)
    exact Or.inl (jL hr okAll.or2 c hy b7)
  · have hx : Nx 6 (sgT (jsg i) p :: us) := by subst h; exact nx_of (by kernel_rfl)
    have hy : anyP [⟨#[38, 38]⟩] (sgT (jsg i) p :: us) = true := by subst h; show anB [⟨#[38, 38]⟩] _ = true; kernel_rfl
    have c := hx.xeq (hx.xcmp (hx.xupd (hx.xadd hA hm (by omega)) hn (by omega)) (by omega)) (by omega)
    exact Or.inl (fin_or F (jL hr okAll.and c hy b6))
  · have hx : Nx 5 (sgT (jsg i) p :: us) := by rcases h with h | h <;> subst h <;> exact nx_of (by kernel_rfl)
    have hy : anyP [⟨#[61, 61]⟩, ⟨#[33, 61]⟩] (sgT (jsg i) p :: us) = true := by rcases h with h | h <;> subst h <;> show anB [⟨#[61, 61]⟩, ⟨#[33, 61]⟩] _ = true <;> kernel_rfl
    have c := hx.xcmp (hx.xupd (hx.xadd hA hm (by omega)) hn (by omega)) (by omega)
    exact Or.inl (fin_or F (fin_and F (jO c hy b5)))
  · have hx : Nx 4 (sgT (jsg i) p :: us) := by rcases h with h | h | h | h <;> subst h <;> exact nx_of (by kernel_rfl)
    have hy : anyP [⟨#[60]⟩, ⟨#[60, 61]⟩, ⟨#[62]⟩, ⟨#[62, 61]⟩] (sgT (jsg i) p :: us) = true := by rcases h with h | h | h | h <;> subst h <;> show anB [⟨#[60]⟩, ⟨#[60, 61]⟩, ⟨#[62]⟩, ⟨#[62, 61]⟩] _ = true <;> kernel_rfl
    have c := hx.xupd (hx.xadd hA hm (by omega)) hn (by omega)
    exact Or.inl (fin_or F (fin_and F (fin_eq F (jO c hy b4))))
  · have hx : Nx 3 (sgT (jsg i) p :: us) := by subst h; exact nx_of (by kernel_rfl)
    have hy : isP ⟨#[47, 47]⟩ (sgT (jsg i) p :: us) = true := by subst h; show isB ⟨#[47, 47]⟩ _ = true; kernel_rfl
    have c := hx.xnot (hx.xadd hA hm (by omega)) hn
    exact Or.inr (fin_or F' (fin_and F' (fin_eq F' (fin_cmp F' (jR (row := (Lv (n + 1)).upd) c hy b4')))))
  · have hx : Nx 2 (sgT (jsg i) p :: us) := by rcases h with h | h <;> subst h <;> exact nx_of (by kernel_rfl)
    have hy : anyP [⟨#[43]⟩, ⟨#[45]⟩] (sgT (jsg i) p :: us) = true := by rcases h with h | h <;> subst h <;> show anB [⟨#[43]⟩, ⟨#[45]⟩] _ = true <;> kernel_rfl
    have c := hx.xmul hA hm (by omega)
    exact Or.inl (fin_or F (fin_and F (fin_eq F (fin_cmp F (fin_upd F (jL hr okAll.add c hy b2) hn)))))
  · have hx : Nx 1 (sgT (jsg i) p :: us) := by rcases h with h | h <;> subst h <;> exact nx_of (by kernel_rfl)
    have hy : anyP [⟨#[42]⟩, ⟨#[47]⟩] (sgT (jsg i) p :: us) = true := by rcases h with h | h <;> subst h <;> show anB [⟨#[42]⟩, ⟨#[47]⟩] _ = true <;> kernel_rfl
    have c := hx.xcat hA hm (by omega)
    exact Or.inl (fin_or F (fin_and F (fin_eq F (fin_cmp F (fin_upd F (fin_add F (jL hr okAll.mul c hy b1)) hn)))))
  · have hx : Nx 0 (sgT (jsg i) p :: us) := by subst h; exact nx_of (by kernel_rfl)
    have hy : isP ⟨#[43, 43]⟩ (sgT (jsg i) p :: us) = true := by subst h; show isB ⟨#[43, 43]⟩ _ = true; kernel_rfl
    have c := hx.neg hA hm
    exact Or.inr (fin_or F' (fin_and F' (fin_eq F' (fin_cmp F' (fin_upd F' (fin_add F' (fin_mul F' (jR (row := (Lv (n + 1)).cat) c hy b1'))) hn)))))
end
theorem jsg_size {i : Nat} (hi : i < 14) : (jsg i).size = (jsg i).data.toList.length ∧ 1 ≤ (jsg i).size ∧ (jsg i).size ≤ 2 := by
  rcases (by omega : i = 0 ∨ i = 1 ∨ i = 2 ∨ i = 3 ∨ i = 4 ∨ i = 5 ∨ i = 6 ∨ i = 7 ∨ i = 8 ∨ i = 9 ∨ i = 10 ∨ i = 11 ∨ i = 12 ∨ i = 13) with rfl | rfl | rfl | rfl | rfl | rfl | rfl | rfl | rfl | rfl | rfl | rfl | rfl | rfl <;> decide
theorem jsg_sig {i : Nat} (hi : i < 14) (r : List UInt8) : ∃ c l, (jsg i).data.toList = c :: l ∧ plainC c = true ∧ signL (c :: (l ++ 40 :: r)) = some (jsg i) := by
  rcases (by omega : i = 0 ∨ i = 1 ∨ i = 2 ∨ i = 3 ∨ i = 4 ∨ i = 5 ∨ i = 6 ∨ i = 7 ∨ i = 8 ∨ i = 9 ∨ i = 10 ∨ i = 11 ∨ i = 12 ∨ i = 13) with rfl | rfl | rfl | rfl | rfl | rfl | rfl | rfl | rfl | rfl | rfl | rfl | rfl | rfl <;>
    exact ⟨_, _, rfl, rfl, by kernel_rfl⟩
def joinN (i : Nat) (a : ByteArray) (la lb : List Nd) : List Nd :=
  la.map (Nd.mv 1) ++ ((lb.map (Nd.mv (a.size + 4 + (jsg i).size))).map (Nd.up la.length) ++ [⟨18, jsg i, 0, 0, [], [la.length - 1, la.length + lb.length - 1], a.size + 3⟩])
theorem joins {pf : ByteArray → Nat} {a b s' : ByteArray} {la lb : List Nd} {i : Nat} (hi : i < 14) (ha : parseP pf a = .ok la) (hb : parseP pf b = .ok lb)
    (hs : s'.data.toList = 40 :: (a.data.toList ++ 10 :: 41 :: ((jsg i).data.toList ++ 40 :: (b.data.toList ++ [10, 41])))) (hz : a.size + b.size ≤ 4076) :
    (parseP pf s' = if 1000 < la.length + lb.length + 1 then .error (0, 8) else .ok (joinN i a la lb)) ∨ ∃ p, parseP pf s' = .error (p, 9) := by
  obtain ⟨tsa, ta, u, us, _, hla, hta, hka, rfl, hca⟩ := taken ha
  obtain ⟨tsb, tb, v, vs, _, hlb, htb, hkb, rfl, hcb⟩ := taken hb
  obtain ⟨j1, j2, j3⟩ := jsg_size hi
  obtain ⟨c, l, jc, jp, jg⟩ := jsg_sig hi (b.data.toList ++ [10, 41])
  have hsz : s'.size = a.size + b.size + (jsg i).size + 6 := by
    rw [size_of hs]
    simp
    omega
  have h0 : s'.data.toList.drop 0 = 40 :: (a.data.toList ++ 10 :: 41 :: ((jsg i).data.toList ++ 40 :: (b.data.toList ++ [10, 41]))) := hs
  obtain ⟨_, h1, _⟩ := dr_bt h0
  have h2 : s'.data.toList.drop (1 + a.size + 1) = 41 :: ((jsg i).data.toList ++ 40 :: (b.data.toList ++ [10, 41])) := by
    have h9 := dr_add (a := a.data.toList ++ [10]) (r := 41 :: ((jsg i).data.toList ++ 40 :: (b.data.toList ++ [10, 41]))) (by rw [h1]; simp)
    simp only [List.length_append, list_len, List.length_cons, List.length_nil] at h9
    rw [show 1 + a.size + 1 = 0 + 1 + (a.size + (0 + 1)) by omega]
    exact h9
  obtain ⟨_, h3, _⟩ := dr_bt h2
  have h4 := dr_add h3
  obtain ⟨_, h5, _⟩ := dr_bt h4
  have h6 := dr_add (a := b.data.toList ++ [10]) (r := [41]) (by rw [h5]; simp)
  simp only [List.length_append, list_len, List.length_cons, List.length_nil, Nat.zero_add] at h6
  rw [← j1] at h4 h5
  have k6 := lx_sign (pf := pf) h6 rfl (sig_shut _) (lx_end (by show _ + 1 = _; omega))
  rw [← Nat.add_assoc] at k6
  obtain ⟨tsb', e1, k5⟩ := lx_text hlb h5 k6
  have k4 := lx_sign (pf := pf) h4 rfl (sig_open _) k5
  rw [jc] at h3
  have k3 := lx_sign (pf := pf) h3 jp jg k4
  have k2 := lx_sign (pf := pf) h2 rfl (sig_shut _) k3
  obtain ⟨tsa', e2, k1⟩ := lx_text (d := 1) hla h1 k2
  have k0 := lx_sign (pf := pf) h0 rfl (sig_open _) k1
  rw [parse_of (by omega) k0]
  rw [show (Lv 32).top = topP (Lv 31) from rfl, show (⟨5, ⟨#[40]⟩, 0, 0, 0⟩ : Tok) = sgT ⟨#[40]⟩ 0 from rfl, top_br]
  rcases brk (k := 31) (p := 0) hta hka e2 with hA | ⟨p, hA⟩
  · obtain ⟨dd, hdd⟩ : ∃ dd, 1 + a.size + 1 + 1 + (jsg i).size + 1 = dd := ⟨_, rfl⟩
    have hd4 : dd = a.size + 4 + (jsg i).size := by omega
    rw [hdd] at e1
    have hB : ∀ k, ∃ r, atomP (Lv k) (sgT ⟨#[40]⟩ (1 + a.size + 1 + 1 + (jsg i).size) :: tsb') = r ∧ Fin1 r ∧ (r = .ok (tb.mv dd, [⟨0, ⟨#[]⟩, 0, 0, s'.size⟩]) ∨ ∃ p, r = .error (p, 9)) := by
      intro k
      refine ⟨_, rfl, ?_⟩
      rcases brk (k := k) (p := 1 + a.size + 1 + 1 + (jsg i).size) htb hkb e1 with hB | ⟨p, hB⟩
      · rw [hB]
        exact ⟨fun x xs hx => by cases hx; exact inert_end _, Or.inl rfl⟩
      · rw [hB]
        exact ⟨fun x xs hx => (by cases hx), Or.inr ⟨p, rfl⟩⟩
    obtain ⟨r, q1, q2, q3⟩ := hB 31
    obtain ⟨r', q1', q2', q3'⟩ := hB 30
    have hfin : ∀ r0 : Res T, (r0 = .ok (tb.mv dd, [⟨0, ⟨#[]⟩, 0, 0, s'.size⟩]) ∨ ∃ p, r0 = .error (p, 9)) →
        (parseR (joinR (sgT (jsg i) (1 + a.size + 1 + 1)) (ta.mv 1) r0) = if 1000 < (nodes ta 0).length + (nodes tb 0).length + 1 then .error (0, 8) else .ok (joinN i a (nodes ta 0) (nodes tb 0))) ∨ ∃ p, parseR (joinR (sgT (jsg i) (1 + a.size + 1 + 1)) (ta.mv 1) r0) = .error (p, 9) := by
      intro r0 h
      rcases h with rfl | ⟨p, rfl⟩
      · left
        show parseR (.ok (_, _)) = _
        rw [parse_end rfl, nodes_len, nodes_len]
        have ec : cnt (binT (sgT (jsg i) (1 + a.size + 1 + 1)) (ta.mv 1) (tb.mv dd)) = cnt ta + cnt tb + 1 := by simp [binT, cnt_mv]
        rw [ec]
        have en : nodes (binT (sgT (jsg i) (1 + a.size + 1 + 1)) (ta.mv 1) (tb.mv dd)) 0 = joinN i a (nodes ta 0) (nodes tb 0) := by
          unfold binT joinN
          have ep : 1 + a.size + 1 + 1 = a.size + 3 := by omega
          have up0 := nodes_up (tb.mv dd) 0 (nodes ta 0).length
          rw [Nat.zero_add] at up0
          rw [nodes_mk, nodesK_cons, nodesK_cons, nodesK_nil]
          simp only [Nat.zero_add, nodes_mv, List.length_map, List.append_nil, List.nil_append, List.append_assoc] at up0 ⊢
          rw [up0, hd4]
          have e3 : (nodes tb (nodes ta 0).length).length = (nodes tb 0).length := by rw [nodes_len, nodes_len]
          simp only [sgT, ep, e3]
          rfl
        rw [en]
      · right
        exact ⟨p, rfl⟩
    have ex : (⟨5, jsg i, 0, 0, 1 + a.size + 1 + 1⟩ : Tok) = sgT (jsg i) (1 + a.size + 1 + 1) := rfl
    have hsz1 : (⟨#[41]⟩ : ByteArray).size = 1 := rfl
    rcases join_is (n := 30) (i := i) (p := 1 + a.size + 1 + 1) (us := sgT ⟨#[40]⟩ (1 + a.size + 1 + 1 + (jsg i).size) :: tsb') hi (br_neg _ _) (br_not _ _) (br_neg _ _) (br_not _ _) hA q1 q1' q2 q2' with hJ | hJ
    · rw [hJ]; exact hfin _ q3
    · rw [hJ]; exact hfin _ q3'
  · rw [or_err hA (br_neg _ _) (br_not _ _)]
    exact Or.inr ⟨p, rfl⟩
end Go.Proofs.YtppljgallbmgcaaGreatDoor
