/- ParsePaths: what the texts come to. -/
import Derived.Test.YtppljgallbmgcaaGreatDoorGv
namespace Go.Proofs.YtppljgallbmgcaaGreatDoor
open Go.RowKit
/-- A name as it is written, and as it is. -/
def pnW : Nat → List UInt8
  | 0 => [97] | 1 => [98] | 2 => [120, 45, 121] | 3 => [34, 115, 32, 116, 34] | 4 => [99, 39] | _ => [34, 34]
def pnN : Nat → ByteArray
  | 0 => ⟨#[97]⟩ | 1 => ⟨#[98]⟩ | 2 => ⟨#[120, 45, 121]⟩ | 3 => ⟨#[115, 32, 116]⟩ | 4 => ⟨#[99, 39]⟩ | _ => ⟨#[]⟩
def pnK : Nat → Int
  | 0 => 1 | 1 => 1 | 2 => 1 | 3 => 4 | 4 => 1 | _ => 4
def pnT (k p : Nat) : Tok := ⟨pnK k, pnN k, 0, 0, p⟩
theorem lx_pn {pf : ByteArray → Nat} {s : ByteArray} {k p : Nat} (hk : k < 6) {c : UInt8} {r : List UInt8} {tl : List Tok} (h : s.data.toList.drop p = pnW k ++ c :: r) (hc : moreB c = false) (ht : Lx pf s (p + (pnW k).length) tl) : Lx pf s p (pnT k p :: tl) := by
  have hstr : ∀ (l : List UInt8) (j : Nat) (t : Tok), bt ⟨(34 :: l).toArray⟩ 0 = some 34 → s.data.toList.drop p = (34 :: l) ++ c :: r → j = (34 :: l).length → textP ⟨(34 :: l).toArray⟩ 0 = .ok (t, j) → Lx pf s (p + j) tl → Lx pf s p (t.at p :: tl) := by
    intro l j t _ hd hj ht2 hx
    have h34 : bt s p = some 34 := (dr_bt hd).1
    have h2 := text_local (s' := s) (p' := p) (show 0 < (⟨(34 :: l).toArray⟩ : ByteArray).size by show 0 < (34 :: l).length; simp) ht2 (fun i hi => by
      have hi2 : i < (34 :: l).length := by omega
      rw [dr_get hd, List.getElem?_append_left hi2, Nat.zero_add]
      rfl)
    rw [Nat.sub_zero] at h2
    refine .tok (.here p) (j := p + j) ?_ hx
    unfold tokP
    rw [h34]
    exact h2
  rcases (by omega : k = 0 ∨ k = 1 ∨ k = 2 ∨ k = 3 ∨ k = 4 ∨ k = 5) with rfl | rfl | rfl | rfl | rfl | rfl
  · exact lx_name (c := 97) (l := []) h (by rfl) (by simp) (by intro x hx; cases hx; exact hc) (by simp) ht
  · exact lx_name (c := 98) (l := []) h (by rfl) (by simp) (by intro x hx; cases hx; exact hc) (by simp) ht
  · exact lx_name (c := 120) (l := [45, 121]) h (by rfl) (by decide) (by intro x hx; cases hx; exact hc) (by simp) ht
  · exact hstr [115, 32, 116, 34] 5 (pnT 3 0) rfl h rfl (by kernel_rfl) ht
  · exact lx_name (c := 99) (l := [39]) h (by rfl) (by decide) (by intro x hx; cases hx; exact hc) (by simp) ht
  · exact hstr [34] 2 (pnT 5 0) rfl h rfl (by kernel_rfl) ht
theorem pn_all {p : Nat → Bool} (h : ((List.range 6).all p) = true) {n : Nat} (hn : n < 6) : p n = true := List.all_eq_true.1 h n (List.mem_range.2 hn)
theorem pn_is {k : Nat} (hk : k < 6) (p : Nat) : (nameT (pnT k p) || decide ((pnT k p).kind = 4)) = true := pn_all (p := fun k => nameT (pnT k 0) || decide ((pnT k 0).kind = 4)) (by kernel_rfl) hk
theorem pn_attr {k : Nat} (hk : k < 6) (p : Nat) (us : List Tok) : attrP (pnT k p :: us) = .ok (pnN k, us) := by
  unfold attrP
  simp only
  rw [if_pos (pn_is hk p)]
  rfl
theorem pn_inh {k : Nat} (hk : k < 6) (p : Nat) : isT ⟨#[105, 110, 104, 101, 114, 105, 116]⟩ (pnT k p) = false := by
  have h : (!isT ⟨#[105, 110, 104, 101, 114, 105, 116]⟩ (pnT k p)) = true := pn_all (p := fun k => !isT ⟨#[105, 110, 104, 101, 114, 105, 116]⟩ (pnT k 0)) (by kernel_rfl) hk
  simpa using h
theorem need_sg {b : ByteArray} {p : Nat} {us : List Tok} (h : isT b (sgT b p) = true) : needP b (sgT b p :: us) = .ok us := by
  unfold needP
  rw [if_pos (show isP b (sgT b p :: us) = true from h)]
  rfl
/-- Sets within sets, and a value within all. -/
def chain : List (ByteArray × Nat) → T → T
  | [], v => v
  | (n, p) :: r, v => .mk 6 ⟨#[]⟩ 0 0 [n] p [chain r v]
def Nd.z (x : Nd) : Nd := { x with place := 0 }
theorem chain_cnt (r : List (ByteArray × Nat)) (v : T) : cnt (chain r v) = cnt v + r.length := by
  induction r with
  | nil => rfl
  | cons x r ih => obtain ⟨n, p⟩ := x; simp [chain, ih]; omega
theorem chain_z (d d' : Nat) (t : T) : ∀ (r r' : List (ByteArray × Nat)), r.map (·.1) = r'.map (·.1) → (nodes (chain r (t.mv d)) 0).map Nd.z = (nodes (chain r' (t.mv d')) 0).map Nd.z := by
  intro r
  induction r with
  | nil =>
    intro r' h
    have : r' = [] := by cases r' with | nil => rfl | cons a b => cases h
    subst this
    show (nodes (t.mv d) 0).map Nd.z = (nodes (t.mv d') 0).map Nd.z
    rw [nodes_mv, nodes_mv, List.map_map, List.map_map]
    rfl
  | cons x r ih =>
    intro r' h
    cases r' with
    | nil => cases h
    | cons y r' =>
      obtain ⟨n, p⟩ := x
      obtain ⟨n', p'⟩ := y
      simp only [List.map_cons, List.cons.injEq] at h
      have h2 := ih r' h.2
      have h3 := congrArg List.length h2
      simp only [List.length_map] at h3
      have hn : n = n' := h.1
      subst hn
      unfold chain
      rw [nodes_mk, nodes_mk, nodesK_cons, nodesK_cons, nodesK_nil, nodesK_nil]
      simp only [List.append_nil, List.map_append, List.map_cons, List.map_nil, Nd.z, List.nil_append, h3]
      rw [h2]
/-- A set of one binding. -/
theorem br_set {m p q : Nat} {us rest : List Tok} {t : Tok} (ht : (nameT t || decide (t.kind = 4)) = true) (hi : isT ⟨#[105, 110, 104, 101, 114, 105, 116]⟩ t = false) (hl : us.length ≠ 0) :
    (∀ e, bindP (Lv m).top [⟨[], [], p⟩] (t :: us) = .error e → atomP (Lv m) (sgT ⟨#[123]⟩ p :: t :: us) = .error e) ∧
    (∀ ar, bindP (Lv m).top [⟨[], [], p⟩] (t :: us) = .ok (ar, sgT ⟨#[125]⟩ q :: rest) → atomP (Lv m) (sgT ⟨#[123]⟩ p :: t :: us) = .ok (rootOf 6 p [] ar, rest)) := by
  have hat : atomP (Lv m) (sgT ⟨#[123]⟩ p :: t :: us) = bracesP (Lv m).top 6 p (t :: us) := by
    unfold atomP
    rw [if_pos (show begP (sgT ⟨#[123]⟩ p :: t :: us) = true by show begT (sgT ⟨#[123]⟩ p) = true; kernel_rfl), if_neg (show ¬ isP ⟨#[91]⟩ (sgT ⟨#[123]⟩ p :: t :: us) = true by rw [show isP ⟨#[91]⟩ (sgT ⟨#[123]⟩ p :: t :: us) = false by show isT ⟨#[91]⟩ (sgT ⟨#[123]⟩ p) = false; kernel_rfl]; simp)]
    simp only
    rw [if_neg (show ¬ (sgT ⟨#[123]⟩ p).kind = 2 by show ¬ (5 : Int) = 2; decide), if_neg (show ¬ (sgT ⟨#[123]⟩ p).kind = 3 by show ¬ (5 : Int) = 3; decide), if_neg (show ¬ (sgT ⟨#[123]⟩ p).kind = 4 by show ¬ (5 : Int) = 4; decide), if_neg (show ¬ ((sgT ⟨#[123]⟩ p).text.toList == (⟨#[40]⟩ : ByteArray).toList) = true by rw [show ((sgT ⟨#[123]⟩ p).text.toList == (⟨#[40]⟩ : ByteArray).toList) = false by kernel_rfl]; simp), if_pos (show ((sgT ⟨#[123]⟩ p).text.toList == (⟨#[123]⟩ : ByteArray).toList) = true by kernel_rfl)]
    rfl
  obtain ⟨k, hk⟩ : ∃ k, us.length = k + 1 := ⟨us.length - 1, by omega⟩
  have hb : bindsL (Lv m).top (t :: us).length [⟨[], [], p⟩] (t :: us) = match bindP (Lv m).top [⟨[], [], p⟩] (t :: us) with | .error e => .error e | .ok (ar, us') => bindsL (Lv m).top us.length ar us' := by
    show bindsL (Lv m).top (us.length + 1) _ _ = _
    conv => lhs; unfold bindsL
    simp only
    rw [hi, ht]
    simp only [Bool.false_eq_true, if_false, if_true]
    rfl
  rw [hat]
  unfold bracesP bindsP
  rw [hb]
  refine ⟨fun e he => by rw [he], fun ar ha => ?_⟩
  rw [ha]
  simp only
  have h2 : bindsL (Lv m).top us.length ar (sgT ⟨#[125]⟩ q :: rest) = .ok (ar, sgT ⟨#[125]⟩ q :: rest) := by
    rw [hk]
    unfold bindsL
    simp only
    rw [show isT ⟨#[105, 110, 104, 101, 114, 105, 116]⟩ (sgT ⟨#[125]⟩ q) = false by kernel_rfl, show nameT (sgT ⟨#[125]⟩ q) = false from rfl, show decide ((sgT ⟨#[125]⟩ q).kind = 4) = false from rfl]
    simp
  rw [h2]
  simp only
  rw [need_sg (by kernel_rfl)]
theorem path_stop (k : Nat) (path : List ByteArray) (q : Nat) (us : List Tok) : pathL k path (sgT ⟨#[61]⟩ q :: us) = .ok (path, sgT ⟨#[61]⟩ q :: us) := by
  cases k with
  | zero => rfl
  | succ k =>
    unfold pathL
    rw [if_neg (show ¬ isP ⟨#[46]⟩ (sgT ⟨#[61]⟩ q :: us) = true by rw [show isP ⟨#[46]⟩ (sgT ⟨#[61]⟩ q :: us) = false by show isT ⟨#[46]⟩ (sgT ⟨#[61]⟩ q) = false; kernel_rfl]; simp)]
/-- Sets within sets, written out. -/
def opL : List Nat → List UInt8
  | [] => []
  | k :: ks => 123 :: 32 :: (pnW k ++ (32 :: 61 :: 32 :: opL ks))
def shB : Nat → List UInt8
  | 0 => []
  | n + 1 => 59 :: 32 :: 125 :: shB n
theorem shB_succ (n : Nat) : shB (n + 1) = shB n ++ [59, 32, 125] := by
  induction n with
  | zero => rfl
  | succ n ih => show 59 :: 32 :: 125 :: shB (n + 1) = (59 :: 32 :: 125 :: shB n) ++ _; rw [ih]; rfl
theorem paths_open {pf : ByteArray → Nat} {s s' : ByteArray} {ts us0 : List Tok} {t : T} {u : Tok} (hlx : Lx pf s 0 ts) (htop : (Lv 32).top ts = .ok (t, u :: us0)) (hu : u.kind = 0) : ∀ (ks : List Nat) (p : Nat) (r : List UInt8) (rest : List Tok), (∀ k ∈ ks, k < 6) →
    s'.data.toList.drop p = opL ks ++ (s.data.toList ++ 10 :: (shB ks.length ++ r)) → Inert rest → (∀ q, s'.data.toList.drop q = r → q = p + (opL ks).length + s.size + 1 + 3 * ks.length → Lx pf s' q rest) →
    ∃ toks pls d, Lx pf s' p toks ∧ 0 < toks.length ∧ pls.length = ks.length ∧ ∀ m, (Lv m).top toks = .ok (chain ((ks.map pnN).zip pls) (t.mv d), rest) ∨ ∃ q, (Lv m).top toks = .error (q, 9) := by
  intro ks
  induction ks with
  | nil =>
    intro p r rest _ hd hI hr
    have hd' : s'.data.toList.drop p = s.data.toList ++ 10 :: r := hd
    have hd2 := dr_add (a := s.data.toList ++ [10]) (r := r) (by rw [hd']; simp)
    simp only [List.length_append, list_len, List.length_cons, List.length_nil, Nat.zero_add] at hd2
    rw [← Nat.add_assoc] at hd2
    obtain ⟨ts', h1, h2⟩ := lx_text hlx hd' (hr _ hd2 (by simp [opL]))
    refine ⟨ts', [], p, h2, h1.ne' hI, rfl, fun m => ?_⟩
    rcases (Lv_sim hI (m := true) 32 m (by simp)).top _ _ h1 _ _ htop with ⟨us', h4, h5⟩ | ⟨_, q, h4⟩
    · cases h5 with
      | tok hk => exact absurd hu hk
      | fin _ => exact Or.inl h4
    · exact Or.inr ⟨q, h4⟩
  | cons k ks ih =>
    intro p r rest hk6 hd hI hr
    have hk := hk6 k (by simp)
    have hd0 : s'.data.toList.drop p = 123 :: (32 :: (pnW k ++ 32 :: (61 :: 32 :: (opL ks ++ (s.data.toList ++ 10 :: (shB ks.length ++ (59 :: 32 :: 125 :: r))))))) := by
      rw [hd]
      simp only [opL, List.length_cons, shB_succ]
      simp
    obtain ⟨_, hd1, _⟩ := dr_bt hd0
    obtain ⟨_, hd2, _⟩ := dr_bt hd1
    have hd3 := dr_add hd2
    obtain ⟨_, hd4, _⟩ := dr_bt hd3
    obtain ⟨_, hd5, _⟩ := dr_bt hd4
    obtain ⟨_, hd6, _⟩ := dr_bt hd5
    obtain ⟨P, hP⟩ : ∃ P, p + 1 + 1 + (pnW k).length + 1 + 1 + 1 = P := ⟨_, rfl⟩
    rw [hP] at hd6
    obtain ⟨E, hE⟩ : ∃ E, P + (opL ks).length + s.size + 1 + 3 * ks.length = E := ⟨_, rfl⟩
    obtain ⟨toks, pls, d, h1, h2, h3, h4⟩ := ih P (59 :: 32 :: 125 :: r) (sgT ⟨#[59]⟩ E :: sgT ⟨#[125]⟩ (E + 2) :: rest) (fun x hx => hk6 x (by simp [hx])) hd6 ⟨_, _, rfl, Or.inr ⟨rfl, Or.inr rfl⟩⟩ (fun q hq he => by
      obtain rfl : q = E := by omega
      obtain ⟨_, g1, _⟩ := dr_bt hq
      obtain ⟨_, g2, _⟩ := dr_bt g1
      obtain ⟨_, g3, _⟩ := dr_bt g2
      have := hr _ g3 (by simp [opL]; omega)
      exact lx_sign hq rfl (sig_semi _) (lx_blank g1 rfl (lx_sign g2 rfl (by kernel_rfl : signL (125 :: _) = some ⟨#[125]⟩) this)))
    rw [← hP] at h1
    have j1 := lx_sign (pf := pf) hd4 rfl (by kernel_rfl : signL (61 :: 32 :: _) = some ⟨#[61]⟩) (lx_blank hd5 rfl h1)
    have j2 := lx_pn (pf := pf) hk hd2 rfl (lx_blank hd3 rfl j1)
    have j3 := lx_sign (pf := pf) hd0 rfl (by kernel_rfl : signL (123 :: _) = some ⟨#[123]⟩) (lx_blank hd1 rfl j2)
    refine ⟨_, p :: pls, d, j3, by simp, by simp [h3], fun m => ?_⟩
    cases m with
    | zero => exact Or.inr ⟨_, rfl⟩
    | succ m =>
      have e0 : (⟨5, ⟨#[123]⟩, 0, 0, p⟩ : Tok) = sgT ⟨#[123]⟩ p := rfl
      have e1 : ∀ x, (⟨5, ⟨#[61]⟩, 0, 0, x⟩ : Tok) = sgT ⟨#[61]⟩ x := fun _ => rfl
      rw [e0, e1]
      generalize p + 1 + 1 + (pnW k).length + 1 = Q
      generalize p + 1 + 1 = R
      have htp : (Lv (m + 1)).top (sgT ⟨#[123]⟩ p :: pnT k R :: sgT ⟨#[61]⟩ Q :: toks) = orP (Lv m) (sgT ⟨#[123]⟩ p :: pnT k R :: sgT ⟨#[61]⟩ Q :: toks) := top_sign (by kernel_rfl) (by kernel_rfl) (by kernel_rfl) (by kernel_rfl)
      rw [htp]
      have hm : isP ⟨#[45]⟩ (sgT ⟨#[123]⟩ p :: pnT k R :: sgT ⟨#[61]⟩ Q :: toks) = false := by show isT ⟨#[45]⟩ (sgT ⟨#[123]⟩ p) = false; kernel_rfl
      have hnn : isP ⟨#[33]⟩ (sgT ⟨#[123]⟩ p :: pnT k R :: sgT ⟨#[61]⟩ Q :: toks) = false := by show isT ⟨#[33]⟩ (sgT ⟨#[123]⟩ p) = false; kernel_rfl
      obtain ⟨b1, b2⟩ := br_set (m := m) (p := p) (q := E + 2) (rest := rest) (us := sgT ⟨#[61]⟩ Q :: toks) (pn_is hk R) (pn_inh hk R) (by simp)
      have hbind : ∀ x, (Lv m).top toks = x → bindP (Lv m).top [⟨[], [], p⟩] (pnT k R :: sgT ⟨#[61]⟩ Q :: toks) = match x with
          | .error e => .error e
          | .ok (v, us) => match needP ⟨#[59]⟩ us with | .error e => .error e | .ok us => .ok ([⟨[pnN k], [.leaf v], p⟩], us) := by
        intro x hx
        unfold bindP
        rw [pn_attr hk]
        simp only
        rw [path_stop]
        simp only
        rw [need_sg (by kernel_rfl)]
        simp only
        have h4 : walkP [⟨[], [], p⟩] (placeP (pnT k R :: sgT ⟨#[61]⟩ Q :: toks), 10) 0 [pnN k].dropLast = .ok (0, []) := rfl
        rw [h4]
        simp only
        have h5 : hasP [⟨[], [], p⟩] 0 ([pnN k].getLast?.getD ⟨#[]⟩) = false := rfl
        rw [h5, Bool.and_false]
        simp only [Bool.false_eq_true, if_false]
        rw [hx]
        cases x with
        | error e => rfl
        | ok y =>
          obtain ⟨v, us⟩ := y
          simp only
          cases needP ⟨#[59]⟩ us with
          | error e => rfl
          | ok us => rfl
      rcases h4 m with h5 | ⟨q, h5⟩
      · left
        have h6 := hbind _ h5
        simp only [need_sg (b := ⟨#[59]⟩) (p := E) (us := sgT ⟨#[125]⟩ (E + 2) :: rest) (by kernel_rfl)] at h6
        exact or_ok (inert_nx hI) (b2 _ h6) hm hnn
      · right
        exact ⟨q, or_err (b1 _ (hbind _ h5)) hm hnn⟩
/-- The path's own names. -/
def paL : List Nat → List UInt8
  | [] => []
  | [k] => pnW k
  | k :: ks => pnW k ++ 46 :: paL ks
/-- A path's names behind the first. -/
theorem lx_path {pf : ByteArray → Nat} {s' : ByteArray} {r : List UInt8} {rest : List Tok} : ∀ (ks : List Nat) (k p : Nat), k < 6 → (∀ x ∈ ks, x < 6) → s'.data.toList.drop p = paL (k :: ks) ++ 32 :: r → (Lx pf s' (p + (paL (k :: ks)).length) rest) →
    ∃ toks, Lx pf s' p (pnT k p :: toks) ∧ rest.length ≤ toks.length ∧ ∀ (q : Nat) us, rest = sgT ⟨#[61]⟩ q :: us → ∀ f path, toks.length ≤ f → pathL f path toks = .ok (path ++ ks.map pnN, rest) := by
  intro ks
  induction ks with
  | nil =>
    intro k p hk _ hd hx
    exact ⟨rest, lx_pn hk hd rfl hx, Nat.le_refl _, fun q us he f path _ => by subst he; rw [path_stop]; simp⟩
  | cons k2 ks ih =>
    intro k p hk hks hd hx
    have hd0 : s'.data.toList.drop p = pnW k ++ 46 :: (paL (k2 :: ks) ++ 32 :: r) := by rw [hd]; simp [paL]
    have hd1 := dr_add hd0
    obtain ⟨_, hd2, _⟩ := dr_bt hd1
    have hk2 := hks k2 (by simp)
    obtain ⟨toks, h1, h2, h3⟩ := ih k2 _ hk2 (fun x hx => hks x (by simp [hx])) hd2 (by
      have e : p + (pnW k).length + 1 + (paL (k2 :: ks)).length = p + (paL (k :: k2 :: ks)).length := by simp [paL]; omega
      rw [e]
      exact hx)
    have hdot : signL (46 :: (paL (k2 :: ks) ++ 32 :: r)) = some ⟨#[46]⟩ := by kernel_rfl
    have j1 := lx_pn (pf := pf) hk hd0 rfl (lx_sign (pf := pf) hd1 rfl hdot h1)
    refine ⟨_, j1, by simp; omega, fun q us he f path hf => ?_⟩
    simp only [List.length_cons] at hf
    obtain ⟨f, rfl⟩ : ∃ g, f = g + 1 := ⟨f - 1, by omega⟩
    unfold pathL
    rw [if_pos (show isP ⟨#[46]⟩ _ = true by show isT ⟨#[46]⟩ (sgT ⟨#[46]⟩ _) = true; kernel_rfl)]
    simp only [List.tail_cons]
    rw [pn_attr hk2]
    simp only
    rw [h3 q us he f _ (by omega)]
    simp
/-- What a path's sets come to. -/
theorem make_chain (pl : Nat) (v : T) (last : ByteArray) : ∀ (rest : List ByteArray) (ar : Ar) (i p0 : Nat), i + 1 = ar.length → ar[i]? = some ⟨[], [], p0⟩ →
    ((makeP pl ar i rest).1.addAt (makeP pl ar i rest).2 last (.leaf v)).length = ar.length + rest.length ∧
    (∀ j, j < i → ((makeP pl ar i rest).1.addAt (makeP pl ar i rest).2 last (.leaf v))[j]? = ar[j]?) ∧
    ∀ f, rest.length < f → treeOf ((makeP pl ar i rest).1.addAt (makeP pl ar i rest).2 last (.leaf v)) f i = chain ((rest ++ [last]).zip (p0 :: List.replicate rest.length pl)) v := by
  intro rest
  induction rest with
  | nil =>
    intro ar i p0 hi h0
    unfold makeP
    refine ⟨by simp [addAt_len], fun j hj => ?_, fun f hf => ?_⟩
    · rw [addAt_get, if_neg (by omega)]
    · obtain ⟨f, rfl⟩ : ∃ g, f = g + 1 := ⟨f - 1, by omega⟩
      have hg : (ar.addAt i last (.leaf v))[i]? = some ⟨[last], [.leaf v], p0⟩ := by
        rw [addAt_get, if_pos rfl, h0]
        rfl
      rw [treeOf_some f hg]
      rfl
  | cons n rest ih =>
    intro ar i p0 hi h0
    have hlen : (ar.addAt i n (.made ar.length) ++ [(⟨[], [], pl⟩ : SO)]).length = ar.length + 1 := by simp [addAt_len]
    have hg0 : (ar.addAt i n (.made ar.length) ++ [(⟨[], [], pl⟩ : SO)])[i]? = some ⟨[n], [.made ar.length], p0⟩ := by
      rw [List.getElem?_append_left (by rw [addAt_len]; omega), addAt_get, if_pos rfl, h0]
      rfl
    obtain ⟨h1, h2, h3⟩ := ih (ar.addAt i n (.made ar.length) ++ [⟨[], [], pl⟩]) ar.length pl (by omega) (by
      rw [List.getElem?_append_right (by rw [addAt_len]; exact Nat.le_refl _), addAt_len, Nat.sub_self]
      rfl)
    unfold makeP
    refine ⟨by rw [h1, hlen]; simp; omega, fun j hj => ?_, fun f hf => ?_⟩
    · rw [h2 j (by omega), List.getElem?_append_left (by rw [addAt_len]; omega), addAt_get, if_neg (by omega)]
    · obtain ⟨f, rfl⟩ : ∃ g, f = g + 1 := ⟨f - 1, by omega⟩
      simp only [List.length_cons] at hf
      rw [treeOf_some f ((h2 i (by omega)).trans hg0)]
      simp only [List.map_cons, List.map_nil, List.cons_append, List.length_cons, List.replicate_succ, List.zip_cons_cons, chain]
      congr 1
      show [kidT _ f (.made ar.length)] = _
      unfold kidT
      simp only
      rw [h3 f (by omega)]
theorem walk_root (e : Er) (path : List ByteArray) (p : Nat) : walkP [⟨[], [], p⟩] e 0 path = .ok (0, path) := by
  cases path <;> rfl
theorem has_root (p : Nat) (n : ByteArray) : hasP [⟨[], [], p⟩] 0 n = false := rfl
theorem paths_path {pf : ByteArray → Nat} {s s' : ByteArray} {ts us0 : List Tok} {t : T} {u : Tok} (hlx : Lx pf s 0 ts) (htop : (Lv 32).top ts = .ok (t, u :: us0)) (hu : u.kind = 0) {k : Nat} {ks : List Nat} (hk : k < 6) (hks : ∀ x ∈ ks, x < 6)
    (hd : s'.data.toList.drop 0 = 123 :: 32 :: (paL (k :: ks) ++ (32 :: 61 :: 32 :: (s.data.toList ++ [10, 59, 32, 125])))) :
    ∃ toks pls d e, e.kind = 0 ∧ Lx pf s' 0 toks ∧ pls.length = ks.length + 1 ∧ ∀ m, (Lv m).top toks = .ok (chain (((k :: ks).map pnN).zip pls) (t.mv d), [e]) ∨ ∃ q, (Lv m).top toks = .error (q, 9) := by
  obtain ⟨_, hd1, _⟩ := dr_bt hd
  obtain ⟨_, hd2, _⟩ := dr_bt hd1
  have hd3 := dr_add hd2
  obtain ⟨_, hd4, _⟩ := dr_bt hd3
  obtain ⟨_, hd5, _⟩ := dr_bt hd4
  obtain ⟨_, hd6, _⟩ := dr_bt hd5
  have hd7 := dr_add (a := s.data.toList ++ [10]) (r := [59, 32, 125]) (by rw [hd6]; simp)
  simp only [List.length_append, list_len, List.length_cons, List.length_nil, Nat.zero_add] at hd7
  rw [← Nat.add_assoc] at hd7
  obtain ⟨_, hd8, _⟩ := dr_bt hd7
  obtain ⟨_, hd9, hz⟩ := dr_bt hd8
  obtain ⟨_, hd10, hz2⟩ := dr_bt hd9
  have hend : ∀ q, s'.data.toList.drop q = [] → q ≤ s'.size → q = s'.size := fun q hq hle => by
    have := congrArg List.length hq
    rw [List.length_drop, list_len] at this
    simp at this
    omega
  generalize hP : 0 + 1 + 1 + (paL (k :: ks)).length = P at *
  generalize hE : P + 1 + 1 + 1 + s.size + 1 = E at *
  have hrest : Lx pf s' E [sgT ⟨#[59]⟩ E, sgT ⟨#[125]⟩ (E + 1 + 1), ⟨0, ⟨#[]⟩, 0, 0, s'.size⟩] :=
    lx_sign hd7 rfl (sig_semi _) (lx_blank hd8 rfl (lx_sign hd9 rfl (by kernel_rfl : signL (125 :: _) = some ⟨#[125]⟩) (lx_end (hend _ hd10 (by show E + 1 + 1 + 1 ≤ _; omega)))))
  have hI : Inert [sgT ⟨#[59]⟩ E, sgT ⟨#[125]⟩ (E + 1 + 1), ⟨0, ⟨#[]⟩, 0, 0, s'.size⟩] := ⟨_, _, rfl, Or.inr ⟨rfl, Or.inr rfl⟩⟩
  obtain ⟨ts', h1, h2⟩ := lx_text hlx hd6 (by rw [hE]; exact hrest)
  have j1 := lx_blank (pf := pf) hd3 rfl (lx_sign (pf := pf) hd4 rfl (by kernel_rfl : signL (61 :: 32 :: _) = some ⟨#[61]⟩) (lx_blank hd5 rfl h2))
  obtain ⟨ptoks, g1, g2, g3⟩ := lx_path (pf := pf) ks k (0 + 1 + 1) hk hks hd2 (by rw [hP]; exact j1)
  have g3 : ∀ f path, ptoks.length ≤ f → pathL f path ptoks = .ok (path ++ ks.map pnN, sgT ⟨#[61]⟩ (P + 1) :: ts') := g3 (P + 1) ts' rfl
  have j3 := lx_sign (pf := pf) hd rfl (by kernel_rfl : signL (123 :: _) = some ⟨#[123]⟩) (lx_blank hd1 rfl g1)
  refine ⟨_, 0 :: List.replicate ks.length 2, P + 1 + 1 + 1, ⟨0, ⟨#[]⟩, 0, 0, s'.size⟩, rfl, j3, by simp, fun m => ?_⟩
  cases m with
  | zero => exact Or.inr ⟨_, rfl⟩
  | succ m =>
    rw [show (⟨5, ⟨#[123]⟩, 0, 0, 0⟩ : Tok) = sgT ⟨#[123]⟩ 0 from rfl]
    have htp : (Lv (m + 1)).top (sgT ⟨#[123]⟩ 0 :: pnT k (0 + 1 + 1) :: ptoks) = orP (Lv m) (sgT ⟨#[123]⟩ 0 :: pnT k (0 + 1 + 1) :: ptoks) := top_sign (by kernel_rfl) (by kernel_rfl) (by kernel_rfl) (by kernel_rfl)
    rw [htp]
    have hm : isP ⟨#[45]⟩ (sgT ⟨#[123]⟩ 0 :: pnT k (0 + 1 + 1) :: ptoks) = false := by show isT ⟨#[45]⟩ (sgT ⟨#[123]⟩ 0) = false; kernel_rfl
    have hnn : isP ⟨#[33]⟩ (sgT ⟨#[123]⟩ 0 :: pnT k (0 + 1 + 1) :: ptoks) = false := by show isT ⟨#[33]⟩ (sgT ⟨#[123]⟩ 0) = false; kernel_rfl
    obtain ⟨b1, b2⟩ := br_set (m := m) (p := 0) (q := E + 1 + 1) (rest := [⟨0, ⟨#[]⟩, 0, 0, s'.size⟩]) (us := ptoks) (pn_is hk (0 + 1 + 1)) (pn_inh hk (0 + 1 + 1)) (by simp at g2; omega)
    obtain ⟨last, ini, hpath⟩ : ∃ last ini, (pnN k :: ks.map pnN) = ini ++ [last] := ⟨_, _, (List.dropLast_concat_getLast (l := pnN k :: ks.map pnN) (by simp)).symm⟩
    have hini : ini.length = ks.length := by
      have := congrArg List.length hpath
      simp at this
      omega
    have hbind : ∀ x, (Lv m).top ts' = x → bindP (Lv m).top [⟨[], [], 0⟩] (pnT k (0 + 1 + 1) :: ptoks) = match x with
        | .error e => .error e
        | .ok (v, us) => match needP ⟨#[59]⟩ us with | .error e => .error e | .ok us => .ok ((makeP 2 [⟨[], [], 0⟩] 0 ini).1.addAt (makeP 2 [⟨[], [], 0⟩] 0 ini).2 last (.leaf v), us) := by
      intro x hx
      unfold bindP
      rw [pn_attr hk]
      simp only
      rw [g3 _ _ (Nat.le_refl _)]
      have hp2 : [pnN k] ++ ks.map pnN = ini ++ [last] := hpath
      rw [hp2]
      simp only
      rw [need_sg (by kernel_rfl)]
      simp only
      rw [List.dropLast_concat, walk_root]
      simp only
      rw [has_root, Bool.and_false]
      simp only [Bool.false_eq_true, if_false]
      rw [hx]
      cases x with
      | error e => rfl
      | ok y =>
        obtain ⟨v, us⟩ := y
        simp only
        cases needP ⟨#[59]⟩ us with
        | error e => rfl
        | ok us =>
          simp only [List.getLast?_append, List.getLast?_singleton, Option.some_or, Option.getD_some]
          rfl
    rcases (Lv_sim hI (m := true) 32 m (by simp)).top _ _ h1 _ _ htop with ⟨us', h4, h5⟩ | ⟨_, q, h4⟩
    · cases h5 with
      | tok hk2 => exact absurd hu hk2
      | fin _ =>
        left
        have h6 := hbind _ h4
        simp only [need_sg (b := ⟨#[59]⟩) (p := E) (us := [sgT ⟨#[125]⟩ (E + 1 + 1), ⟨0, ⟨#[]⟩, 0, 0, s'.size⟩]) (by kernel_rfl)] at h6
        have h7 := or_ok (inert_nx (inert_end s'.size)) (b2 _ h6) hm hnn
        rw [h7]
        congr 2
        obtain ⟨c1, _, c3⟩ := make_chain 2 (t.mv (P + 1 + 1 + 1)) last ini [⟨[], [], 0⟩] 0 0 rfl rfl
        unfold rootOf
        rw [c3 _ (by rw [c1]; simp; omega)]
        have ez : (ini ++ [last]).zip (0 :: List.replicate ini.length 2) = ((k :: ks).map pnN).zip (0 :: List.replicate ks.length 2) := by
          rw [hini, ← hpath]
          rfl
        rw [ez]
        simp only [List.map_cons, List.zip_cons_cons, chain, List.append_nil]
    · right
      exact ⟨q, or_err (b1 _ (hbind _ h4)) hm hnn⟩
/-- A path, and the sets written out. -/
theorem paths {pf : ByteArray → Nat} {s a b : ByteArray} {l : List Nd} {ks : List Nat} (h : parseP pf s = .ok l) (hne : ks ≠ []) (h9 : ks.length ≤ 9) (hks : ∀ x ∈ ks, x < 6) (hl : l.length ≤ 980) (hz : s.size ≤ 3896)
    (ha : a.data.toList = 123 :: 32 :: (paL ks ++ (32 :: 61 :: 32 :: (s.data.toList ++ [10, 59, 32, 125])))) (hb : b.data.toList = opL ks ++ (s.data.toList ++ 10 :: shB ks.length)) :
    (∃ la lb, parseP pf a = .ok la ∧ parseP pf b = .ok lb ∧ la.map Nd.z = lb.map Nd.z) ∨ (∃ p, parseP pf a = .error (p, 9)) ∨ ((∃ la, parseP pf a = .ok la) ∧ ∃ p, parseP pf b = .error (p, 9)) := by
  obtain ⟨ts, t, u, us, _, hlx, htop, hu, rfl, hc⟩ := taken h
  rw [nodes_len] at hl
  obtain ⟨k, ks, rfl⟩ : ∃ k ks', ks = k :: ks' := by
    cases ks with
    | nil => exact absurd rfl hne
    | cons k ks => exact ⟨k, ks, rfl⟩
  have hlenP : ∀ ks : List Nat, (paL ks).length ≤ 6 * ks.length := by
    intro ks
    have h5 : ∀ k, (pnW k).length ≤ 5 := fun k => by unfold pnW; split <;> decide
    induction ks with
    | nil => simp [paL]
    | cons k ks ih =>
      cases ks with
      | nil => have := h5 k; simp [paL]; omega
      | cons k2 ks => have := h5 k; simp only [paL, List.length_append, List.length_cons] at ih ⊢; omega
  have hlenO : ∀ ks : List Nat, (opL ks).length ≤ 10 * ks.length := by
    intro ks
    have h5 : ∀ k, (pnW k).length ≤ 5 := fun k => by unfold pnW; split <;> decide
    induction ks with
    | nil => simp [opL]
    | cons k ks ih => have := h5 k; simp only [opL, List.length_append, List.length_cons] at ih ⊢; omega
  have hlenS : ∀ n : Nat, (shB n).length = 3 * n := by
    intro n
    induction n with
    | zero => rfl
    | succ n ih => simp only [shB, List.length_cons, ih]; omega
  have hsa : a.size ≤ 4096 := by
    rw [size_of ha]
    have := hlenP (k :: ks)
    simp only [List.length_cons, List.length_append, list_len, List.length_nil] at this h9 ⊢
    omega
  have hsb : b.size ≤ 4096 ∧ b.size = (opL (k :: ks)).length + s.size + 1 + 3 * (k :: ks).length := by
    rw [size_of hb]
    have := hlenO (k :: ks)
    have h2 := hlenS (k :: ks).length
    simp only [List.length_append, List.length_cons, list_len] at this h2 h9 ⊢
    omega
  obtain ⟨ta, pa, da, e, he, a1, a2, a3⟩ := paths_path (pf := pf) hlx htop hu (hks k (by simp)) (fun x hx => hks x (by simp [hx])) (s' := a) ha
  obtain ⟨tb, pb, db, b1, _, b2, b3⟩ := paths_open (pf := pf) (s' := b) hlx htop hu (k :: ks) 0 [] [⟨0, ⟨#[]⟩, 0, 0, b.size⟩] hks (by rw [List.drop_zero, hb]; simp) (inert_end _) (fun q _ hq => lx_end (by omega))
  rw [parse_of hsa a1, parse_of hsb.1 b1]
  have hzip : ∀ pl : List Nat, pl.length = (k :: ks).length → (((k :: ks).map pnN).zip pl).map (·.1) = (k :: ks).map pnN ∧ (((k :: ks).map pnN).zip pl).length ≤ 9 := fun pl hp =>
    ⟨List.map_fst_zip (by simp at hp ⊢; omega), by simp at hp h9 ⊢; omega⟩
  obtain ⟨z1, z2⟩ := hzip pa (by simpa using a2)
  obtain ⟨z3, z4⟩ := hzip pb b2
  have hpa : ∀ (x : T) (e : Tok), e.kind = 0 → cnt x ≤ 1000 → parseR (.ok (x, [e])) = .ok (nodes x 0) := fun x e he hx => by rw [parse_end he, if_neg (by omega)]
  have ca := chain_cnt (((k :: ks).map pnN).zip pa) (t.mv da)
  have cb := chain_cnt (((k :: ks).map pnN).zip pb) (t.mv db)
  rw [cnt_mv] at ca cb
  rcases a3 32 with x | ⟨q, x⟩
  · rw [x, hpa _ _ he (by omega)]
    rcases b3 32 with y | ⟨q, y⟩
    · rw [y, hpa _ _ rfl (by omega)]
      exact Or.inl ⟨_, _, rfl, rfl, chain_z da db t _ _ (by rw [z1, z3])⟩
    · rw [y]
      exact Or.inr (Or.inr ⟨⟨_, rfl⟩, q, rfl⟩)
  · rw [x]
    exact Or.inr (Or.inl ⟨q, rfl⟩)
end Go.Proofs.YtppljgallbmgcaaGreatDoor
