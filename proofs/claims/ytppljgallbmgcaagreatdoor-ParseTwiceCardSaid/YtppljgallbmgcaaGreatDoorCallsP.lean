/- ParseCalls: what the text comes to. -/
import Derived.Test.YtppljgallbmgcaaGreatDoorGv
namespace Go.Proofs.YtppljgallbmgcaaGreatDoor
open Go.RowKit
def xT (p : Nat) : Tok := ⟨1, ⟨#[120]⟩, 0, 0, p⟩
def xsT : Nat → Nat → List Tok
  | 0, p => [⟨0, ⟨#[]⟩, 0, 0, p⟩]
  | n + 1, p => xT (p + 1) :: xsT n (p + 2)
def xsL : Nat → List UInt8
  | 0 => []
  | n + 1 => 32 :: 120 :: xsL n
theorem xsL_len (n : Nat) : (xsL n).length = 2 * n := by
  induction n with
  | zero => rfl
  | succ n ih => simp [xsL, ih]; omega
theorem xsL_head (n : Nat) : ∀ x, (xsL n)[0]? = some x → moreB x = false := by
  intro x hx
  cases n with
  | zero => cases hx
  | succ n => cases hx; rfl
theorem lx_xs {pf : ByteArray → Nat} {s : ByteArray} : ∀ (n p : Nat), s.data.toList.drop p = xsL n → p + 2 * n = s.size → Lx pf s p (xsT n p) := by
  intro n
  induction n with
  | zero =>
    intro p h hp
    obtain rfl : p = s.size := by omega
    exact lx_end rfl
  | succ n ih =>
    intro p h hp
    have h0 : s.data.toList.drop p = 32 :: (120 :: xsL n) := h
    obtain ⟨_, h1, _⟩ := dr_bt h0
    obtain ⟨_, h2, _⟩ := dr_bt h1
    refine lx_blank h0 rfl ?_
    exact lx_name (c := 120) (l := []) (r := xsL n) h1 (by rfl) (by simp) (xsL_head n) (by simp) (ih (p + 2) h2 (by omega))
theorem isT_end (b : ByteArray) (p : Nat) : isT b ⟨0, ⟨#[]⟩, 0, 0, p⟩ = false := by unfold isT; simp
theorem xs_dot (n p : Nat) : isP ⟨#[46]⟩ (xsT n p) = false := by
  cases n with
  | zero => exact isT_end _ _
  | succ n => show isT ⟨#[46]⟩ (xT (p + 1)) = false; kernel_rfl
theorem xs_colon (t : Tok) (n p : Nat) : colonP (t :: xsT n p) = false := by
  cases n with
  | zero => rfl
  | succ n => rfl
theorem xs_len (n p : Nat) : (xsT n p).length = n + 1 := by
  induction n generalizing p with
  | zero => rfl
  | succ n ih => simp [xsT, ih]
def nameN (b : ByteArray) (p : Nat) : T := .mk 4 b 0 0 [] p []
theorem atom_name {L : PF} {b : ByteArray} {p : Nat} {us : List Tok} (h1 : begT ⟨1, b, 0, 0, p⟩ = true) (h2 : isT ⟨#[91]⟩ ⟨1, b, 0, 0, p⟩ = false) (h3 : (b.toList == (⟨#[40]⟩ : ByteArray).toList) = false) (h4 : (b.toList == (⟨#[123]⟩ : ByteArray).toList) = false) (h5 : (b.toList == (⟨#[114, 101, 99]⟩ : ByteArray).toList) = false) :
    atomP L (⟨1, b, 0, 0, p⟩ :: us) = .ok (nameN b p, us) := by
  conv => lhs; unfold atomP
  rw [if_pos (show begP (⟨1, b, 0, 0, p⟩ :: us) = true from h1), if_neg (show ¬ isP ⟨#[91]⟩ (⟨1, b, 0, 0, p⟩ :: us) = true by rw [show isP ⟨#[91]⟩ (⟨1, b, 0, 0, p⟩ :: us) = false from h2]; simp)]
  simp only
  rw [h3, h4, h5]
  rfl
theorem atom_x (L : PF) (p : Nat) (us : List Tok) : atomP L (xT p :: us) = .ok (nameN ⟨#[120]⟩ p, us) := atom_name (by kernel_rfl) (by kernel_rfl) (by kernel_rfl) (by kernel_rfl) (by kernel_rfl)
theorem atom_f (L : PF) (p : Nat) (us : List Tok) : atomP L (⟨1, ⟨#[102]⟩, 0, 0, p⟩ :: us) = .ok (nameN ⟨#[102]⟩ p, us) := atom_name (by kernel_rfl) (by kernel_rfl) (by kernel_rfl) (by kernel_rfl) (by kernel_rfl)
def callsT : Nat → Nat → T → T
  | 0, _, a => a
  | n + 1, p, a => callsT n (p + 2) (.mk 10 ⟨#[]⟩ 0 0 [] a.place [a, nameN ⟨#[120]⟩ (p + 1)])
theorem callL_xs (L : PF) : ∀ (n k p : Nat) (a : T), n + 1 ≤ k → ∃ e, e.kind = 0 ∧ callL L k a (xsT n p) = .ok (callsT n p a, [e]) := by
  intro n
  induction n with
  | zero =>
    intro k p a hk
    exact ⟨⟨0, ⟨#[]⟩, 0, 0, p⟩, rfl, callL_no _ rfl⟩
  | succ n ih =>
    intro k p a hk
    obtain ⟨k, rfl⟩ : ∃ j, k = j + 1 := ⟨k - 1, by omega⟩
    obtain ⟨e, h1, h2⟩ := ih k (p + 2) (.mk 10 ⟨#[]⟩ 0 0 [] a.place [a, nameN ⟨#[120]⟩ (p + 1)]) (by omega)
    refine ⟨e, h1, ?_⟩
    show callL L (k + 1) a (xT (p + 1) :: xsT n (p + 2)) = _
    unfold callL
    rw [if_pos (show begP _ = true by show begT (xT (p + 1)) = true; kernel_rfl), selP_ok (atom_x L (p + 1) _) (xs_dot _ _)]
    exact h2
theorem calls_nodes : ∀ (n p : Nat) (a : T) (b : Nat), a.place = b → (nodes (callsT n p a) 0).length = (nodes a 0).length + 2 * n ∧
    (∀ i, i < (nodes a 0).length → (nodes (callsT n p a) 0)[i]? = (nodes a 0)[i]?) ∧
    ∀ i, i < n → (nodes (callsT n p a) 0)[(nodes a 0).length + 2 * i]? = some ⟨4, ⟨#[120]⟩, 0, 0, [], [], p + 1 + 2 * i⟩ ∧
      (nodes (callsT n p a) 0)[(nodes a 0).length + 2 * i + 1]? = some ⟨10, ⟨#[]⟩, 0, 0, [], [(nodes a 0).length + 2 * i - 1, (nodes a 0).length + 2 * i], b⟩ := by
  intro n
  induction n with
  | zero => intro p a b _; exact ⟨rfl, fun _ _ => rfl, fun i hi => by omega⟩
  | succ n ih =>
    intro p a b hb
    have e : nodes (.mk 10 ⟨#[]⟩ 0 0 [] a.place [a, nameN ⟨#[120]⟩ (p + 1)]) 0 = nodes a 0 ++ [⟨4, ⟨#[120]⟩, 0, 0, [], [], p + 1⟩, ⟨10, ⟨#[]⟩, 0, 0, [], [(nodes a 0).length - 1, (nodes a 0).length], b⟩] := by
      rw [nodes_mk, nodesK_cons, nodesK_cons, nodesK_nil]
      have e2 : ∀ q, nodes (nameN ⟨#[120]⟩ (p + 1)) q = [⟨4, ⟨#[120]⟩, 0, 0, [], [], p + 1⟩] := fun q => by unfold nameN; rw [nodes_mk, nodesK_nil]; rfl
      rw [e2, hb]
      simp
    obtain ⟨h1, h2, h3⟩ := ih (p + 2) (.mk 10 ⟨#[]⟩ 0 0 [] a.place [a, nameN ⟨#[120]⟩ (p + 1)]) b (by rw [← hb]; rfl)
    rw [e] at h1 h2 h3
    simp only [List.length_append, List.length_cons, List.length_nil] at h1 h2 h3
    show (nodes (callsT n (p + 2) _) 0).length = _ ∧ (∀ i, _ → (nodes (callsT n (p + 2) _) 0)[i]? = _) ∧ ∀ i, _ → (nodes (callsT n (p + 2) _) 0)[_]? = _ ∧ (nodes (callsT n (p + 2) _) 0)[_]? = _
    refine ⟨by omega, fun i hi => ?_, fun i hi => ?_⟩
    · rw [h2 i (by omega), List.getElem?_append_left hi]
    · cases i with
      | zero =>
        refine ⟨?_, ?_⟩
        · rw [h2 _ (by omega), List.getElem?_append_right (by omega)]
          simp
        · rw [h2 _ (by omega), List.getElem?_append_right (by omega)]
          simp
      | succ i =>
        obtain ⟨g1, g2⟩ := h3 i (by omega)
        have a1 : (nodes a 0).length + 2 * (i + 1) = (nodes a 0).length + (0 + 1 + 1) + 2 * i := by omega
        have a2 : p + 1 + 2 * (i + 1) = p + 2 + 1 + 2 * i := by omega
        rw [a1, a2]
        exact ⟨g1, g2⟩
theorem calls {pf : ByteArray → Nat} {s : ByteArray} {n : Nat} (hs : s.data.toList = 102 :: xsL n) (hn : n < 400) :
    ∃ l, parseP pf s = .ok l ∧ l.length = 2 * n + 1 ∧ l[0]? = some ⟨4, ⟨#[102]⟩, 0, 0, [], [], 0⟩ ∧ ∀ i, i < n → l[2 * i + 1]? = some ⟨4, ⟨#[120]⟩, 0, 0, [], [], 2 * i + 2⟩ ∧ l[2 * i + 2]? = some ⟨10, ⟨#[]⟩, 0, 0, [], [2 * i, 2 * i + 1], 0⟩ := by
  have hsz : s.size = 2 * n + 1 := by
    rw [size_of hs]
    simp [xsL_len]
  have h0 : s.data.toList.drop 0 = 102 :: xsL n := hs
  obtain ⟨_, h1, _⟩ := dr_bt h0
  have h2 := lx_xs (pf := pf) n 1 h1 (by omega)
  have h3 := lx_name (pf := pf) (c := 102) (l := []) (r := xsL n) h0 (by rfl) (by simp) (xsL_head n) (by simp) h2
  obtain ⟨e, k1, k2⟩ := callL_xs (Lv 31) n (xsT n 1).length 1 (nameN ⟨#[102]⟩ 0) (by rw [xs_len]; exact Nat.le_refl _)
  have hsel : selP (Lv 31) (⟨1, ⟨#[102]⟩, 0, 0, 0⟩ :: xsT n 1) = .ok (nameN ⟨#[102]⟩ 0, xsT n 1) := selP_ok (atom_f _ 0 _) (xs_dot _ _)
  have hcall : callP (Lv 31) (⟨1, ⟨#[102]⟩, 0, 0, 0⟩ :: xsT n 1) = .ok (callsT n 1 (nameN ⟨#[102]⟩ 0), [e]) := by
    unfold callP
    rw [hsel]
    exact k2
  have hI : Inert [e] := ⟨e, [], rfl, Or.inl k1⟩
  have hx := inert_nx hI
  have hneg : negP (Lv 31) (⟨1, ⟨#[102]⟩, 0, 0, 0⟩ :: xsT n 1) = .ok (callsT n 1 (nameN ⟨#[102]⟩ 0), [e]) := by
    unfold negP
    rw [prefixP_no (by show isT _ _ = false; kernel_rfl)]
    exact hasP_ok hcall hx.qm
  have hadd : addP (Lv 31) (⟨1, ⟨#[102]⟩, 0, 0, 0⟩ :: xsT n 1) = .ok (callsT n 1 (nameN ⟨#[102]⟩ 0), [e]) := leftP_no (leftP_no (rightP_no hneg (hx.cat (by omega))) (hx.mul (by omega))) (hx.add (by omega))
  have hor : orP (Lv 31) (⟨1, ⟨#[102]⟩, 0, 0, 0⟩ :: xsT n 1) = .ok (callsT n 1 (nameN ⟨#[102]⟩ 0), [e]) :=
    hx.xor (hx.xand (hx.xeq (hx.xcmp (hx.xupd hadd (by show isT _ _ = false; kernel_rfl) (by omega)) (by omega)) (by omega)) (by omega)) (by omega)
  have htop : (Lv 32).top (⟨1, ⟨#[102]⟩, 0, 0, 0⟩ :: xsT n 1) = .ok (callsT n 1 (nameN ⟨#[102]⟩ 0), [e]) := by
    rw [show (Lv 32).top = topP (Lv 31) from rfl]
    unfold topP
    simp only
    rw [xs_colon, show isT ⟨#[108, 101, 116]⟩ ⟨1, ⟨#[102]⟩, 0, 0, 0⟩ = false by kernel_rfl, show isT ⟨#[119, 105, 116, 104]⟩ ⟨1, ⟨#[102]⟩, 0, 0, 0⟩ = false by kernel_rfl, show isT ⟨#[97, 115, 115, 101, 114, 116]⟩ ⟨1, ⟨#[102]⟩, 0, 0, 0⟩ = false by kernel_rfl, show isT ⟨#[105, 102]⟩ ⟨1, ⟨#[102]⟩, 0, 0, 0⟩ = false by kernel_rfl]
    simp only [Bool.and_false, Bool.false_eq_true, if_false]
    exact hor
  have hf : nodes (nameN ⟨#[102]⟩ 0) 0 = [⟨4, ⟨#[102]⟩, 0, 0, [], [], 0⟩] := by unfold nameN; rw [nodes_mk, nodesK_nil]; rfl
  obtain ⟨q1, q2, q3⟩ := calls_nodes n 1 (nameN ⟨#[102]⟩ 0) 0 rfl
  rw [hf] at q1 q2 q3
  simp only [List.length_cons, List.length_nil, Nat.zero_add] at q1 q2 q3
  refine ⟨nodes (callsT n 1 (nameN ⟨#[102]⟩ 0)) 0, ?_, by omega, by rw [q2 0 (by omega)]; rfl, fun i hi => ?_⟩
  · rw [parse_of (by omega) h3]
    show parseR ((Lv 32).top (⟨1, ⟨#[102]⟩, 0, 0, 0⟩ :: xsT n 1)) = _
    rw [htop, parse_end k1, ← nodes_len _ 0, if_neg (by omega)]
  · obtain ⟨g1, g2⟩ := q3 i hi
    have a1 : 1 + 2 * i = 2 * i + 1 := by omega
    have a2 : 1 + 1 + 2 * i = 2 * i + 2 := by omega
    have a3 : 1 + 2 * i + 1 = 2 * i + 2 := by omega
    have a4 : 1 + 2 * i - 1 = 2 * i := by omega
    rw [a1, a2] at g1
    rw [a3, a4, a1] at g2
    exact ⟨g1, g2⟩
end Go.Proofs.YtppljgallbmgcaaGreatDoor
