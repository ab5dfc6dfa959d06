/- ParseLists: what the text comes to. -/
import Derived.Test.YtppljgallbmgcaaGreatDoorGv
namespace Go.Proofs.YtppljgallbmgcaaGreatDoor
open Go.RowKit
def itL : List ByteArray → List UInt8
  | [] => []
  | t :: ts => 32 :: 40 :: (t.data.toList ++ 10 :: 41 :: itL ts)
def sumL (b : Nat) : List Nat → List Nat
  | [] => []
  | n :: ns => (b + n - 1) :: sumL (b + n) ns
theorem sumL_app (b : Nat) (ns : List Nat) (n : Nat) : sumL b (ns ++ [n]) = sumL b ns ++ [b + ns.sum + n - 1] := by
  induction ns generalizing b with
  | nil => simp [sumL]
  | cons a ns ih => simp [sumL, ih]; omega
theorem itL_app (ts : List ByteArray) (t : ByteArray) : itL (ts ++ [t]) = itL ts ++ (32 :: 40 :: (t.data.toList ++ [10, 41])) := by
  induction ts with
  | nil => rfl
  | cons a ts ih => simp [itL, ih]
theorem nodesK_sum : ∀ (ks : List T) (b : Nat) (is : List Nat), (nodesK ks b is).2 = is ++ sumL b (ks.map cnt)
  | [], b, is => by simp [nodesK_nil, sumL]
  | t :: ks, b, is => by
    rw [nodesK_cons]
    simp only [List.map_cons, sumL]
    rw [nodesK_sum ks, nodes_len]
    simp
theorem cntK_sum (ks : List T) : cntK ks = (ks.map cnt).sum := by
  induction ks with
  | nil => simp
  | cons t ks ih => simp [ih]
/-- The items, from a place on. -/
theorem lists_go {pf : ByteArray → Nat} {s' : ByteArray} (m : Nat) : ∀ (items : List ByteArray) (ns : List Nat) (p : Nat), (∀ (i : Nat) (t : ByteArray), items[i]? = some t → ∃ l, parseP pf t = .ok l ∧ ns[i]? = some l.length) → items.length = ns.length →
    s'.data.toList.drop p = itL items ++ [93] → ∃ toks, Lx pf s' p toks ∧ isP ⟨#[46]⟩ toks = false ∧ ∀ k ks, toks.length ≤ k →
      (∃ ts e, e.kind = 0 ∧ ts.map cnt = ns ∧ listL (Lv m) k ks toks = .ok (ks ++ ts, [sgT ⟨#[93]⟩ (s'.size - 1), e])) ∨ ∃ q, listL (Lv m) k ks toks = .error (q, 9) := by
  intro items
  induction items with
  | nil =>
    intro ns p _ hl hd
    obtain rfl : ns = [] := List.eq_nil_of_length_eq_zero (by simpa using hl.symm)
    have hd' : s'.data.toList.drop p = 93 :: [] := hd
    have hp : p + 1 = s'.size := by
      have := congrArg List.length hd'
      rw [List.length_drop, list_len] at this
      have := (dr_bt hd').2.2
      simp at *
      omega
    refine ⟨[sgT ⟨#[93]⟩ p, ⟨0, ⟨#[]⟩, 0, 0, s'.size⟩], lx_sign hd' rfl (by kernel_rfl) (lx_end hp), (by show isT ⟨#[46]⟩ (sgT ⟨#[93]⟩ p) = false; kernel_rfl), fun k ks hk => ?_⟩
    obtain ⟨k, rfl⟩ : ∃ j, k = j + 1 := ⟨k - 1, by simp at hk; omega⟩
    refine Or.inl ⟨[], ⟨0, ⟨#[]⟩, 0, 0, s'.size⟩, rfl, rfl, ?_⟩
    unfold listL
    rw [if_pos (show isP ⟨#[93]⟩ _ = true by show isT ⟨#[93]⟩ (sgT ⟨#[93]⟩ p) = true; kernel_rfl)]
    have ep : s'.size - 1 = p := by omega
    rw [ep, List.append_nil]
  | cons t items ih =>
    intro ns p h hl hd
    obtain ⟨n, ns, rfl⟩ : ∃ n ns', ns = n :: ns' := by
      cases ns with
      | nil => simp at hl
      | cons n ns => exact ⟨n, ns, rfl⟩
    obtain ⟨l, hp, hn⟩ := h 0 t rfl
    have hn' : n = l.length := by simpa using hn
    obtain ⟨tst, a, u, us, _, hla, hta, hka, rfl, hca⟩ := taken hp
    rw [nodes_len] at hn'
    have hd0 : s'.data.toList.drop p = 32 :: (40 :: (t.data.toList ++ 10 :: 41 :: (itL items ++ [93]))) := by rw [hd]; simp [itL]
    obtain ⟨_, hd1, _⟩ := dr_bt hd0
    obtain ⟨_, hd2, _⟩ := dr_bt hd1
    have hd3 := dr_add (a := t.data.toList ++ [10]) (r := 41 :: (itL items ++ [93])) (by rw [hd2]; simp)
    simp only [List.length_append, list_len, List.length_cons, List.length_nil, Nat.zero_add] at hd3
    obtain ⟨_, hd4, _⟩ := dr_bt hd3
    obtain ⟨toks, k1, k2, k3⟩ := ih ns _ (fun i x hx => h (i + 1) x hx) (by simpa using hl) hd4
    have j1 := lx_sign (pf := pf) hd3 rfl (sig_shut _) k1
    rw [← Nat.add_assoc] at j1
    obtain ⟨ts', e1, j2⟩ := lx_text hla hd2 j1
    have j3 := lx_sign (pf := pf) hd1 rfl (sig_open _) j2
    refine ⟨_, lx_blank hd0 rfl j3, (by show isT ⟨#[46]⟩ (sgT ⟨#[40]⟩ (p + 1)) = false; kernel_rfl), fun k ks hk => ?_⟩
    have hlen := e1.len
    simp only [List.length_cons] at hk hlen
    have hne := e1.ne
    obtain ⟨k, rfl⟩ : ∃ j, k = j + 1 := ⟨k - 1, by omega⟩
    have hu : ∀ r, selP (Lv m) (sgT ⟨#[40]⟩ (p + 1) :: ts') = r → listL (Lv m) (k + 1) ks (sgT ⟨#[40]⟩ (p + 1) :: ts') = match r with | .error e => .error e | .ok (a, us) => listL (Lv m) k (ks ++ [a]) us := by
      intro r hr
      conv => lhs; unfold listL
      rw [if_neg (show ¬ isP ⟨#[93]⟩ (sgT ⟨#[40]⟩ (p + 1) :: ts') = true by rw [show isP ⟨#[93]⟩ (sgT ⟨#[40]⟩ (p + 1) :: ts') = false by show isT ⟨#[93]⟩ (sgT ⟨#[40]⟩ (p + 1)) = false; kernel_rfl]; simp), hr]
      rfl
    rcases brk (k := m) (p := p + 1) hta hka e1 with hb | ⟨q, hb⟩
    · have hs := hu _ (selP_ok hb k2)
      simp only at hs
      rcases k3 k (ks ++ [a.mv (p + 1 + 1)]) (by omega) with ⟨ts, e, g1, g2, g3⟩ | ⟨q, g3⟩
      · refine Or.inl ⟨a.mv (p + 1 + 1) :: ts, e, g1, by simp [cnt_mv, g2, hn'], ?_⟩
        rw [show (⟨5, ⟨#[40]⟩, 0, 0, p + 1⟩ : Tok) = sgT ⟨#[40]⟩ (p + 1) from rfl, hs, g3]
        simp
      · right
        exact ⟨q, by rw [show (⟨5, ⟨#[40]⟩, 0, 0, p + 1⟩ : Tok) = sgT ⟨#[40]⟩ (p + 1) from rfl, hs, g3]⟩
    · right
      refine ⟨q, ?_⟩
      rw [show (⟨5, ⟨#[40]⟩, 0, 0, p + 1⟩ : Tok) = sgT ⟨#[40]⟩ (p + 1) from rfl, hu (.error (q, 9)) (by unfold selP; rw [hb])]
theorem lists {pf : ByteArray → Nat} {s' : ByteArray} {items : List ByteArray} {ns : List Nat} (h : ∀ (i : Nat) (t : ByteArray), items[i]? = some t → ∃ l, parseP pf t = .ok l ∧ ns[i]? = some l.length) (hl : items.length = ns.length)
    (hs : s'.data.toList = 91 :: (itL items ++ [93])) (hz : s'.size ≤ 4096) (hn : ns.sum + 1 ≤ 1000) :
    (∃ r, parseP pf s' = .ok r ∧ r.length = ns.sum + 1 ∧ r[ns.sum]? = some ⟨5, ⟨#[]⟩, 0, 0, [], sumL 0 ns, 0⟩) ∨ ∃ q, parseP pf s' = .error (q, 9) := by
  have h0 : s'.data.toList.drop 0 = 91 :: (itL items ++ [93]) := hs
  obtain ⟨_, h1, _⟩ := dr_bt h0
  obtain ⟨toks, k1, _, k3⟩ := lists_go 30 items ns 1 h hl h1
  have k0 := lx_sign (pf := pf) h0 rfl (by kernel_rfl : signL (91 :: _) = some ⟨#[91]⟩) k1
  rw [parse_of hz k0]
  have hA : atomP (Lv 31) (sgT ⟨#[91]⟩ 0 :: toks) = listP (Lv 30) (sgT ⟨#[91]⟩ 0 :: toks) := by
    unfold atomP
    rw [if_pos (show begP (sgT ⟨#[91]⟩ 0 :: toks) = true by show begT (sgT ⟨#[91]⟩ 0) = true; kernel_rfl), if_pos (show isP ⟨#[91]⟩ (sgT ⟨#[91]⟩ 0 :: toks) = true by show isT ⟨#[91]⟩ (sgT ⟨#[91]⟩ 0) = true; kernel_rfl)]
    rfl
  have htop : (Lv 32).top (sgT ⟨#[91]⟩ 0 :: toks) = orP (Lv 31) (sgT ⟨#[91]⟩ 0 :: toks) := top_sign (by kernel_rfl) (by kernel_rfl) (by kernel_rfl) (by kernel_rfl)
  have hm : isP ⟨#[45]⟩ (sgT ⟨#[91]⟩ 0 :: toks) = false := by show isT ⟨#[45]⟩ (sgT ⟨#[91]⟩ 0) = false; kernel_rfl
  have hnn : isP ⟨#[33]⟩ (sgT ⟨#[91]⟩ 0 :: toks) = false := by show isT ⟨#[33]⟩ (sgT ⟨#[91]⟩ 0) = false; kernel_rfl
  rw [show (⟨5, ⟨#[91]⟩, 0, 0, 0⟩ : Tok) = sgT ⟨#[91]⟩ 0 from rfl, htop]
  unfold listP at hA
  simp only [List.tail_cons] at hA
  rcases k3 (sgT ⟨#[91]⟩ 0 :: toks).length [] (by simp) with ⟨ts, e, g1, g2, g3⟩ | ⟨q, g3⟩
  · rw [g3] at hA
    simp only [List.nil_append, List.tail_cons] at hA
    left
    rw [or_ok (inert_nx ⟨e, [], rfl, Or.inl g1⟩) hA hm hnn, parse_end g1]
    have hc : cnt (.mk 5 ⟨#[]⟩ 0 0 [] (placeP (sgT ⟨#[91]⟩ 0 :: toks)) ts) = ns.sum + 1 := by rw [cnt_mk, cntK_sum, g2]
    rw [hc, if_neg (by omega)]
    refine ⟨_, rfl, by rw [nodes_len, hc], ?_⟩
    have hK : (nodesK ts 0 []).1.length = ns.sum := by rw [nodesK_len, cntK_sum, g2]
    rw [nodes_mk, List.getElem?_append_right (by omega), hK, Nat.sub_self, nodesK_sum, g2]
    rfl
  · rw [g3] at hA
    right
    rw [or_err hA hm hnn]
    exact ⟨q, rfl⟩
end Go.Proofs.YtppljgallbmgcaaGreatDoor
