/- ParseTwice: what the text comes to. -/
import Derived.Test.YtppljgallbmgcaaGreatDoorCallsP
namespace Go.Proofs.YtppljgallbmgcaaGreatDoor
open Go.RowKit
def nmB (n : Nat) : ByteArray := ⟨#[110, UInt8.ofNat (48 + n / 10), UInt8.ofNat (48 + n % 10)]⟩
def twL (i : Nat) : List Nat → List UInt8
  | [] => []
  | n :: ns => 110 :: UInt8.ofNat (48 + n / 10) :: UInt8.ofNat (48 + n % 10) :: 32 :: 61 :: 32 :: UInt8.ofNat (48 + i % 10) :: 59 :: 32 :: twL (i + 1) ns
theorem twL_len (i : Nat) (ns : List Nat) : (twL i ns).length = 9 * ns.length := by
  induction ns generalizing i with
  | nil => rfl
  | cons n ns ih => simp [twL, ih]; omega
theorem twL_app (i : Nat) (ns : List Nat) (n : Nat) : twL i (ns ++ [n]) = twL i ns ++ twL (i + ns.length) [n] := by
  induction ns generalizing i with
  | nil => simp [twL]
  | cons a ns ih =>
    have := ih (i + 1)
    rw [show i + 1 + ns.length = i + (a :: ns).length by simp; omega] at this
    simp only [List.cons_append, twL, this]
theorem nmB_ne {a b : Nat} (ha : a < 60) (hb : b < 60) : ((nmB a).toList == (nmB b).toList) = decide (a = b) := by
  have h : ∀ x : Fin 60, ∀ y : Fin 60, ((nmB x.val).toList == (nmB y.val).toList) = decide (x.val = y.val) := by
    have : ((List.finRange 60).all fun x => (List.finRange 60).all fun y => ((nmB x.val).toList == (nmB y.val).toList) == decide (x.val = y.val)) = true := by kernel_rfl
    intro x y
    have h1 := List.all_eq_true.1 this x (List.mem_finRange x)
    have h2 := List.all_eq_true.1 h1 y (List.mem_finRange y)
    simpa using h2
  exact h ⟨a, ha⟩ ⟨b, hb⟩
theorem nm_all {p : Nat → Bool} (h : ((List.range 60).all p) = true) {n : Nat} (hn : n < 60) : p n = true := List.all_eq_true.1 h n (List.mem_range.2 hn)
theorem dig_all {p : Nat → Bool} (h : ((List.range 10).all p) = true) (n : Nat) : p (n % 10) = true := List.all_eq_true.1 h _ (List.mem_range.2 (Nat.mod_lt _ (by omega)))
def nmT (n p : Nat) : Tok := ⟨1, nmB n, 0, 0, p⟩
def inT (i p : Nat) : Tok := ⟨2, ⟨#[UInt8.ofNat (48 + i % 10)]⟩, ((i % 10 : Nat) : Int), 0, p⟩
theorem nm_name {n : Nat} (hn : n < 60) (p : Nat) : nameT (nmT n p) = true := nm_all (p := fun n => nameT (nmT n 0)) (by kernel_rfl) hn
theorem nm_inh {n : Nat} (hn : n < 60) (p : Nat) : isT ⟨#[105, 110, 104, 101, 114, 105, 116]⟩ (nmT n p) = false := by
  have h : (!isT ⟨#[105, 110, 104, 101, 114, 105, 116]⟩ (nmT n p)) = true := nm_all (p := fun n => !isT ⟨#[105, 110, 104, 101, 114, 105, 116]⟩ (nmT n 0)) (by kernel_rfl) hn
  simpa using h
/-- A digit, and something behind it that goes on with no token. -/
theorem lx_digit {pf : ByteArray → Nat} {s : ByteArray} {p i : Nat} {c : UInt8} {r : List UInt8} {tl : List Tok} (h : s.data.toList.drop p = UInt8.ofNat (48 + i % 10) :: c :: r) (hc : stopB c = true) (ht : Lx pf s (p + 1) tl) : Lx pf s p (inT i p :: tl) := by
  have h0 : tokP pf ⟨#[UInt8.ofNat (48 + i % 10)]⟩ 0 = .ok (inT i 0, 1) := by
    have h1 : ∀ x : Fin 10, tokP pf ⟨#[UInt8.ofNat (48 + x.val)]⟩ 0 = .ok (⟨2, ⟨#[UInt8.ofNat (48 + x.val)]⟩, (x.val : Int), 0, 0⟩, 1) := by
      intro x
      rcases x with ⟨x, hx⟩
      rcases (by omega : x = 0 ∨ x = 1 ∨ x = 2 ∨ x = 3 ∨ x = 4 ∨ x = 5 ∨ x = 6 ∨ x = 7 ∨ x = 8 ∨ x = 9) with rfl | rfl | rfl | rfl | rfl | rfl | rfl | rfl | rfl | rfl <;> kernel_rfl
    exact h1 ⟨i % 10, Nat.mod_lt _ (by omega)⟩
  obtain ⟨b1, hd1, _⟩ := dr_bt h
  obtain ⟨b2, _, _⟩ := dr_bt hd1
  have h2 := tok_local (s' := s) (p' := p) (m := 1) h0 (by omega) (fun j hj => by
    obtain rfl : j = 0 := by omega
    rw [Nat.add_zero, b1]
    rfl) (fun x hx => by rw [b2] at hx; cases hx; exact hc)
  exact .tok (.here p) h2 ht
/-- The bindings' tokens. -/
def twT (rest : List Tok) : Nat → Nat → List Nat → List Tok
  | _, _, [] => rest
  | i, p, n :: ns => nmT n p :: sgT ⟨#[61]⟩ (p + 4) :: inT i (p + 6) :: sgT ⟨#[59]⟩ (p + 7) :: twT rest (i + 1) (p + 9) ns
theorem twT_len (rest : List Tok) (ns : List Nat) (i p : Nat) : (twT rest i p ns).length = 4 * ns.length + rest.length := by
  induction ns generalizing i p with
  | nil => simp [twT]
  | cons n ns ih => simp [twT, ih]; omega
theorem dig_more (k : Nat) (h : k < 10) : moreB (UInt8.ofNat (48 + k)) = true := List.all_eq_true.1 (by kernel_rfl : ((List.range 10).all fun k => moreB (UInt8.ofNat (48 + k))) = true) k (List.mem_range.2 h)
theorem lx_tw {pf : ByteArray → Nat} {s : ByteArray} {rest : List Tok} {r : List UInt8} : ∀ (ns : List Nat) (i p : Nat), (∀ n ∈ ns, n < 60) → s.data.toList.drop p = twL i ns ++ r → Lx pf s (p + 9 * ns.length) rest → Lx pf s p (twT rest i p ns) := by
  intro ns
  induction ns with
  | nil => intro i p _ _ h; exact h
  | cons n ns ih =>
    intro i p hn hd ht
    have h60 := hn n (by simp)
    have d0 : s.data.toList.drop p = 110 :: ([UInt8.ofNat (48 + n / 10), UInt8.ofNat (48 + n % 10)] ++ (32 :: 61 :: 32 :: UInt8.ofNat (48 + i % 10) :: 59 :: 32 :: (twL (i + 1) ns ++ r))) := by rw [hd]; simp [twL]
    have d3 := dr_add (a := [110, UInt8.ofNat (48 + n / 10), UInt8.ofNat (48 + n % 10)]) (r := 32 :: 61 :: 32 :: UInt8.ofNat (48 + i % 10) :: 59 :: 32 :: (twL (i + 1) ns ++ r)) (by rw [d0]; simp)
    have d3' : s.data.toList.drop (p + 3) = _ := d3
    obtain ⟨_, d4, _⟩ := dr_bt d3'
    obtain ⟨_, d5, _⟩ := dr_bt d4
    obtain ⟨_, d6, _⟩ := dr_bt d5
    obtain ⟨_, d7, _⟩ := dr_bt d6
    obtain ⟨_, d8, _⟩ := dr_bt d7
    obtain ⟨_, d9, _⟩ := dr_bt d8
    have k9 := ih (i + 1) (p + 9) (fun x hx => hn x (by simp [hx])) d9 (by rw [show p + 9 + 9 * ns.length = p + 9 * (n :: ns).length by simp; omega]; exact ht)
    have k8 := lx_blank (pf := pf) d8 rfl k9
    have k7 := lx_sign (pf := pf) d7 rfl (sig_semi _) k8
    have k6 := lx_digit (pf := pf) d6 (by rfl) k7
    have k5 := lx_blank (pf := pf) d5 rfl k6
    have k4 := lx_sign (pf := pf) d4 rfl (by kernel_rfl : signL (61 :: 32 :: _) = some ⟨#[61]⟩) k5
    have k3 := lx_blank (pf := pf) d3' rfl k4
    exact lx_name (pf := pf) (c := 110) (l := [UInt8.ofNat (48 + n / 10), UInt8.ofNat (48 + n % 10)]) d0 (by rfl) (by
      intro x hx
      rcases List.mem_cons.1 hx with rfl | hx
      · exact dig_more _ (by omega)
      · rcases List.mem_cons.1 hx with rfl | hx
        · exact dig_more _ (by omega)
        · cases hx) (by intro x hx; cases hx; rfl) (by simp) k3
def inN (i p : Nat) : T := .mk 1 ⟨#[]⟩ ((i % 10 : Nat) : Int) 0 [] p []
theorem atom_int (L : PF) (i p : Nat) (us : List Tok) : atomP L (inT i p :: us) = .ok (inN i p, us) := by
  unfold atomP
  rw [if_pos (show begP (inT i p :: us) = true from rfl), if_neg (show ¬ isP ⟨#[91]⟩ (inT i p :: us) = true by
    rw [show isP ⟨#[91]⟩ (inT i p :: us) = false by show ((inT i p).text.toList == (⟨#[91]⟩ : ByteArray).toList && (decide ((2 : Int) = 5) || decide ((2 : Int) = 1) && kwB ⟨#[91]⟩)) = false; simp]; simp)]
  rfl
theorem int_isT (s : ByteArray) (i p : Nat) : isT s (inT i p) = false := by
  unfold isT
  rw [show (decide ((inT i p).kind = 5) || decide ((inT i p).kind = 1) && kwB s) = false from rfl]
  simp
theorem top_int (n i p : Nat) {us : List Tok} (h : Inert us) : (Lv (n + 1)).top (inT i p :: us) = .ok (inN i p, us) := by
  show topP (Lv n) (inT i p :: us) = _
  unfold topP
  simp only
  rw [int_isT, int_isT, int_isT, int_isT]
  simp only [show nameT (inT i p) = false from rfl, Bool.false_and, Bool.false_eq_true, if_false]
  exact or_ok (inert_nx h) (atom_int _ _ _ _) (int_isT _ _ _) (int_isT _ _ _)
/-- Where a name stands that is there already. -/
def dup (seen : List Nat) : List Nat → Option Nat
  | [] => none
  | n :: ns => if seen.contains n then some 0 else (dup (seen ++ [n]) ns).map (· + 1)
def soOf (pl : Nat) (names : List Nat) (kids : List Kid) : SO := ⟨names.map nmB, kids, pl⟩
theorem has_names {names : List Nat} (h : ∀ n ∈ names, n < 60) {n : Nat} (hn : n < 60) : (names.map nmB).any (fun x => x.toList == (nmB n).toList) = names.contains n := by
  induction names with
  | nil => rfl
  | cons a names ih =>
    simp only [List.map_cons, List.any_cons]
    rw [ih (fun x hx => h x (by simp [hx])), nmB_ne (h a (by simp)) hn, List.contains_cons]
    congr 1
    by_cases e : a = n
    · simp [e]
    · simp [e, Ne.symm e]
theorem bind_tw {m : Nat} {pl : Nat} {names : List Nat} {kids : List Kid} (hnm : ∀ n ∈ names, n < 60) {n : Nat} (hn : n < 60) (i p : Nat) (us : List Tok) :
    bindP (Lv (m + 1)).top [soOf pl names kids] (nmT n p :: sgT ⟨#[61]⟩ (p + 4) :: inT i (p + 6) :: sgT ⟨#[59]⟩ (p + 7) :: us) =
      if names.contains n then .error (p, 10) else .ok ([soOf pl (names ++ [n]) (kids ++ [.leaf (inN i (p + 6))])], us) := by
  have h1 : ∀ us, attrP (nmT n p :: us) = .ok (nmB n, us) := fun us => by
    unfold attrP
    simp only
    rw [if_pos (by rw [nm_name hn]; rfl)]
    rfl
  unfold bindP
  rw [h1]
  simp only
  have h2 : ∀ k us, pathL k [nmB n] (sgT ⟨#[61]⟩ (p + 4) :: us) = .ok ([nmB n], sgT ⟨#[61]⟩ (p + 4) :: us) := by
    intro k us
    cases k with
    | zero => rfl
    | succ k =>
      unfold pathL
      rw [if_neg (show ¬ isP ⟨#[46]⟩ (sgT ⟨#[61]⟩ (p + 4) :: us) = true by rw [show isP ⟨#[46]⟩ (sgT ⟨#[61]⟩ (p + 4) :: us) = false by show isT ⟨#[46]⟩ (sgT ⟨#[61]⟩ (p + 4)) = false; kernel_rfl]; simp)]
  rw [h2]
  simp only
  have h3 : ∀ us, needP ⟨#[61]⟩ (sgT ⟨#[61]⟩ (p + 4) :: us) = .ok us := fun us => by
    unfold needP
    rw [if_pos (show isP ⟨#[61]⟩ (sgT ⟨#[61]⟩ (p + 4) :: us) = true by show isT ⟨#[61]⟩ (sgT ⟨#[61]⟩ (p + 4)) = true; kernel_rfl)]
    rfl
  rw [h3]
  simp only
  have h4 : walkP [soOf pl names kids] (placeP (nmT n p :: sgT ⟨#[61]⟩ (p + 4) :: inT i (p + 6) :: sgT ⟨#[59]⟩ (p + 7) :: us), 10) 0 [nmB n].dropLast = .ok (0, []) := rfl
  rw [h4]
  simp only
  have h5 : hasP [soOf pl names kids] 0 ([nmB n].getLast?.getD ⟨#[]⟩) = names.contains n := by
    show ((soOf pl names kids).names.any fun x => x.toList == (nmB n).toList) = _
    exact has_names hnm hn
  rw [h5]
  show (if (true && names.contains n) = true then _ else _) = _
  rw [Bool.true_and]
  split
  · rfl
  · have hI : Inert (sgT ⟨#[59]⟩ (p + 7) :: us) := ⟨_, _, rfl, Or.inr ⟨rfl, Or.inr rfl⟩⟩
    rw [top_int m i (p + 6) hI]
    simp only
    have h6 : needP ⟨#[59]⟩ (sgT ⟨#[59]⟩ (p + 7) :: us) = .ok us := by
      unfold needP
      rw [if_pos (show isP ⟨#[59]⟩ (sgT ⟨#[59]⟩ (p + 7) :: us) = true by show isT ⟨#[59]⟩ (sgT ⟨#[59]⟩ (p + 7)) = true; kernel_rfl)]
      rfl
    rw [h6]
    simp only
    show Except.ok (Ar.addAt [soOf pl names kids] 0 (nmB n) (.leaf (inN i (p + 6))), us) = _
    simp [Ar.addAt, soOf, SO.add]
theorem binds_tw {m pl : Nat} {rest : List Tok} {x : Tok} {xs : List Tok} (hr : rest = x :: xs) (hx1 : isT ⟨#[105, 110, 104, 101, 114, 105, 116]⟩ x = false) (hx2 : nameT x = false) (hx3 : x.kind ≠ 4) :
    ∀ (ns : List Nat) (i p k : Nat) (names : List Nat) (kids : List Kid), (∀ n ∈ names, n < 60) → (∀ n ∈ ns, n < 60) → (twT rest i p ns).length ≤ k →
      match dup names ns with
      | some j => bindsL (Lv (m + 1)).top k [soOf pl names kids] (twT rest i p ns) = .error (p + 9 * j, 10)
      | none => ∃ ks : List T, ks.length = ns.length ∧ (∀ t ∈ ks, cnt t = 1) ∧ bindsL (Lv (m + 1)).top k [soOf pl names kids] (twT rest i p ns) = .ok ([soOf pl (names ++ ns) (kids ++ ks.map Kid.leaf)], rest) := by
  intro ns
  induction ns with
  | nil =>
    intro i p k names kids hnm _ hk
    show ∃ ks : List T, _
    refine ⟨[], rfl, by simp, ?_⟩
    subst hr
    obtain ⟨k, rfl⟩ : ∃ j, k = j + 1 := ⟨k - 1, by simp [twT] at hk; omega⟩
    unfold bindsL twT
    simp only
    rw [hx1, hx2, decide_eq_false hx3]
    simp
  | cons n ns ih =>
    intro i p k names kids hnm hns hk
    have h60 := hns n (by simp)
    rw [twT_len] at hk
    simp only [List.length_cons] at hk
    obtain ⟨k, rfl⟩ : ∃ j, k = j + 1 := ⟨k - 1, by omega⟩
    have hb := bind_tw (m := m) (pl := pl) (kids := kids) hnm h60 i p (twT rest (i + 1) (p + 9) ns)
    have hu : bindsL (Lv (m + 1)).top (k + 1) [soOf pl names kids] (twT rest i p (n :: ns)) = match bindP (Lv (m + 1)).top [soOf pl names kids] (twT rest i p (n :: ns)) with | .error e => .error e | .ok (ar, us) => bindsL (Lv (m + 1)).top k ar us := by
      conv => lhs; unfold bindsL twT
      simp only
      rw [nm_inh h60, nm_name h60]
      simp only [Bool.false_eq_true, if_false, Bool.true_or, if_true]
      rfl
    rw [hu]
    have hb' : bindP (Lv (m + 1)).top [soOf pl names kids] (twT rest i p (n :: ns)) = _ := hb
    rw [hb']
    unfold dup
    cases hc : names.contains n with
    | true => rfl
    | false =>
      simp only [Bool.false_eq_true, if_false]
      have h9 := ih (i + 1) (p + 9) k (names ++ [n]) (kids ++ [.leaf (inN i (p + 6))]) (fun y hy => by
        rcases List.mem_append.1 hy with h | h
        · exact hnm y h
        · simp at h; omega) (fun y hy => hns y (by simp [hy])) (by rw [twT_len]; omega)
      cases hd : dup (names ++ [n]) ns with
      | some j =>
        rw [hd] at h9
        simp only [Option.map_some] at h9 ⊢
        rw [h9]
        congr 2
        omega
      | none =>
        rw [hd] at h9
        simp only [Option.map_none] at h9 ⊢
        obtain ⟨ks, g1, g2, g3⟩ := h9
        refine ⟨inN i (p + 6) :: ks, by simp [g1], fun t ht => ?_, ?_⟩
        · rcases List.mem_cons.1 ht with rfl | ht
          · simp [inN]
          · exact g2 t ht
        · rw [g3]
          simp
theorem root_tw (kind : Int) (pl : Nat) (more : List T) (names : List Nat) (ks : List T) : rootOf kind pl more [soOf pl names (ks.map Kid.leaf)] = .mk kind ⟨#[]⟩ 0 0 (names.map nmB) pl (ks ++ more) := by
  have hk : ∀ (ar : Ar) (f : Nat) (ks : List T), (ks.map Kid.leaf).map (kidT ar f) = ks := by
    intro ar f ks
    induction ks with
    | nil => rfl
    | cons t ks ih => simp only [List.map_cons, ih]; rfl
  unfold rootOf
  rw [treeOf_some (o := soOf pl names (ks.map Kid.leaf)) _ rfl]
  simp only [soOf, hk]
theorem cntK_ones {ks : List T} (h : ∀ t ∈ ks, cnt t = 1) : cntK ks = ks.length := by
  induction ks with
  | nil => simp
  | cons t ks ih => simp [h t (by simp), ih (fun x hx => h x (by simp [hx]))]; omega
/-- What stands ahead of the names, and behind them. -/
def twH : Nat → List UInt8 | 0 => [123, 32] | 1 => [114, 101, 99, 32, 123, 32] | _ => [108, 101, 116, 32]
def twE : Nat → List UInt8 | 0 => [125] | 1 => [125] | _ => [105, 110, 32, 49]
theorem last_mk {kind : Int} {tx : ByteArray} {i : Int} {f : Nat} {ns : List ByteArray} {p : Nat} {ks : List T} : ∃ l x, nodes (.mk kind tx i f ns p ks) 0 = l ++ [x] ∧ x.names = ns := ⟨_, _, nodes_mk _ _ _ _ _ _ _ _, rfl⟩
theorem twice {pf : ByteArray → Nat} {s : ByteArray} {w : Nat} (hw : w < 3) {ns : List Nat} (hn : ∀ n ∈ ns, n < 60) (hl : ns.length ≤ 40) (hs : s.data.toList = twH w ++ (twL 0 ns ++ twE w)) :
    match dup [] ns with
    | some j => parseP pf s = .error ((twH w).length + 9 * j, 10)
    | none => ∃ l x, parseP pf s = .ok (l ++ [x]) ∧ x.names = ns.map nmB := by
  have hsz : s.size = (twH w).length + 9 * ns.length + (twE w).length := by
    rw [size_of hs]
    simp [twL_len]
    omega
  have hh : (twH w).length ≤ 6 ∧ (twE w).length ≤ 4 := by
    rcases (by omega : w = 0 ∨ w = 1 ∨ w = 2) with rfl | rfl | rfl <;> decide
  have d0 : s.data.toList.drop 0 = twH w ++ (twL 0 ns ++ twE w) := hs
  have d1 := dr_add d0
  rw [Nat.zero_add] at d1
  have d2 := dr_add d1
  rw [twL_len] at d2
  -- the end of what a set is
  have hset : ∀ (kind : Int) (pl : Nat), w < 2 → ∃ e, e.kind = 0 ∧ Lx pf s ((twH w).length + 9 * ns.length) [sgT ⟨#[125]⟩ ((twH w).length + 9 * ns.length), e] ∧
      match dup [] ns with
      | some j => bracesP (Lv 31).top kind pl (twT [sgT ⟨#[125]⟩ ((twH w).length + 9 * ns.length), e] 0 (twH w).length ns) = .error ((twH w).length + 9 * j, 10)
      | none => ∃ ks : List T, ks.length = ns.length ∧ (∀ t ∈ ks, cnt t = 1) ∧ bracesP (Lv 31).top kind pl (twT [sgT ⟨#[125]⟩ ((twH w).length + 9 * ns.length), e] 0 (twH w).length ns) = .ok (.mk kind ⟨#[]⟩ 0 0 (ns.map nmB) pl ks, [e]) := by
    intro kind pl hw2
    have hE : twE w = [125] := by rcases (by omega : w = 0 ∨ w = 1) with rfl | rfl <;> rfl
    rw [hE] at d2 hsz
    refine ⟨⟨0, ⟨#[]⟩, 0, 0, s.size⟩, rfl, lx_sign d2 rfl (by kernel_rfl) (lx_end (by simp at hsz; show _ + 1 = _; omega)), ?_⟩
    have h9 := binds_tw (m := 30) (pl := pl) (rest := [sgT ⟨#[125]⟩ ((twH w).length + 9 * ns.length), ⟨0, ⟨#[]⟩, 0, 0, s.size⟩]) rfl (by kernel_rfl) rfl (by show (5 : Int) ≠ 4; decide) ns 0 (twH w).length _ [] [] (by simp) hn (Nat.le_refl _)
    cases hd : dup [] ns with
    | some j =>
      rw [hd] at h9
      simp only at h9 ⊢
      unfold bracesP bindsP
      rw [show ([⟨[], [], pl⟩] : Ar) = [soOf pl [] []] from rfl, h9]
    | none =>
      rw [hd] at h9
      simp only at h9 ⊢
      obtain ⟨ks, g1, g2, g3⟩ := h9
      refine ⟨ks, g1, g2, ?_⟩
      unfold bracesP bindsP
      rw [show ([⟨[], [], pl⟩] : Ar) = [soOf pl [] []] from rfl, g3]
      simp only [List.nil_append]
      have h6 : needP ⟨#[125]⟩ [sgT ⟨#[125]⟩ ((twH w).length + 9 * ns.length), ⟨0, ⟨#[]⟩, 0, 0, s.size⟩] = .ok [⟨0, ⟨#[]⟩, 0, 0, s.size⟩] := by
        unfold needP
        rw [if_pos (show isP ⟨#[125]⟩ _ = true by show isT ⟨#[125]⟩ (sgT ⟨#[125]⟩ _) = true; kernel_rfl)]
        rfl
      rw [h6, root_tw, List.append_nil]
  have hout : ∀ (kind : Int) (pl : Nat) (ks : List T) (e : Tok), e.kind = 0 → ks.length ≤ 41 → (∀ t ∈ ks, cnt t = 1) → ∃ l x, parseR (.ok (.mk kind ⟨#[]⟩ 0 0 (ns.map nmB) pl ks, [e])) = .ok (l ++ [x]) ∧ x.names = ns.map nmB := by
    intro kind pl ks e he hk h1
    obtain ⟨l, x, h2, h3⟩ := last_mk (kind := kind) (tx := ⟨#[]⟩) (i := 0) (f := 0) (ns := ns.map nmB) (p := pl) (ks := ks)
    refine ⟨l, x, ?_, h3⟩
    rw [parse_end he, cnt_mk, cntK_ones h1, if_neg (by omega), h2]
  rcases (by omega : w = 0 ∨ w = 1 ∨ w = 2) with rfl | rfl | rfl
  · obtain ⟨e, he, hx, h9⟩ := hset 6 0 (by omega)
    have k2 := lx_tw (pf := pf) ns 0 2 hn d1 hx
    have d0' : s.data.toList.drop 0 = 123 :: (32 :: (twL 0 ns ++ [125])) := d0
    obtain ⟨_, d0'', _⟩ := dr_bt d0'
    have k0 := lx_sign (pf := pf) d0' rfl (by kernel_rfl : signL (123 :: _) = some ⟨#[123]⟩) (lx_blank d0'' rfl k2)
    rw [parse_of (by omega) k0, show (⟨5, ⟨#[123]⟩, 0, 0, 0⟩ : Tok) = sgT ⟨#[123]⟩ 0 from rfl]
    generalize hus : twT [sgT ⟨#[125]⟩ ((twH 0).length + 9 * ns.length), e] 0 2 ns = us at *
    have hus' : twT [sgT ⟨#[125]⟩ ((twH 0).length + 9 * ns.length), e] 0 (twH 0).length ns = us := hus
    rw [hus'] at h9
    have hat : atomP (Lv 31) (sgT ⟨#[123]⟩ 0 :: us) = bracesP (Lv 31).top 6 0 us := by
      unfold atomP
      rw [if_pos (show begP (sgT ⟨#[123]⟩ 0 :: us) = true by show begT (sgT ⟨#[123]⟩ 0) = true; kernel_rfl), if_neg (show ¬ isP ⟨#[91]⟩ (sgT ⟨#[123]⟩ 0 :: us) = true by rw [show isP ⟨#[91]⟩ (sgT ⟨#[123]⟩ 0 :: us) = false by show isT ⟨#[91]⟩ (sgT ⟨#[123]⟩ 0) = false; kernel_rfl]; simp)]
      simp only
      rw [if_neg (show ¬ (sgT ⟨#[123]⟩ 0).kind = 2 by show ¬ (5 : Int) = 2; decide), if_neg (show ¬ (sgT ⟨#[123]⟩ 0).kind = 3 by show ¬ (5 : Int) = 3; decide), if_neg (show ¬ (sgT ⟨#[123]⟩ 0).kind = 4 by show ¬ (5 : Int) = 4; decide), if_neg (show ¬ ((sgT ⟨#[123]⟩ 0).text.toList == (⟨#[40]⟩ : ByteArray).toList) = true by rw [show ((sgT ⟨#[123]⟩ 0).text.toList == (⟨#[40]⟩ : ByteArray).toList) = false by kernel_rfl]; simp), if_pos (show ((sgT ⟨#[123]⟩ 0).text.toList == (⟨#[123]⟩ : ByteArray).toList) = true by kernel_rfl)]
      rfl
    have htop : (Lv 32).top (sgT ⟨#[123]⟩ 0 :: us) = orP (Lv 31) (sgT ⟨#[123]⟩ 0 :: us) := top_sign (by kernel_rfl) (by kernel_rfl) (by kernel_rfl) (by kernel_rfl)
    have hm : isP ⟨#[45]⟩ (sgT ⟨#[123]⟩ 0 :: us) = false := by show isT ⟨#[45]⟩ (sgT ⟨#[123]⟩ 0) = false; kernel_rfl
    have hnn : isP ⟨#[33]⟩ (sgT ⟨#[123]⟩ 0 :: us) = false := by show isT ⟨#[33]⟩ (sgT ⟨#[123]⟩ 0) = false; kernel_rfl
    rw [htop]
    cases hd : dup [] ns with
    | some j =>
      rw [hd] at h9
      simp only at h9 ⊢
      rw [or_err (hat.trans h9) hm hnn]
      rfl
    | none =>
      rw [hd] at h9
      simp only at h9 ⊢
      obtain ⟨ks, g1, g2, g3⟩ := h9
      rw [or_ok (inert_nx ⟨e, [], rfl, Or.inl he⟩) (hat.trans g3) hm hnn]
      exact hout 6 0 ks e he (by omega) g2
  · obtain ⟨e, he, hx, h9⟩ := hset 7 0 (by omega)
    have k2 := lx_tw (pf := pf) ns 0 6 hn d1 hx
    have d0' : s.data.toList.drop 0 = (114 :: [101, 99]) ++ (32 :: 123 :: 32 :: (twL 0 ns ++ [125])) := d0
    have d3 := dr_add d0'
    have d3' : s.data.toList.drop 3 = 32 :: 123 :: 32 :: (twL 0 ns ++ [125]) := d3
    obtain ⟨_, d4, _⟩ := dr_bt d3'
    obtain ⟨_, d5, _⟩ := dr_bt d4
    have k4 := lx_sign (pf := pf) d4 rfl (by kernel_rfl : signL (123 :: _) = some ⟨#[123]⟩) (lx_blank d5 rfl k2)
    have k0 := lx_name (pf := pf) d0' (by rfl) (by decide) (by intro x hx; cases hx; rfl) (by decide) (lx_blank d3' rfl k4)
    rw [parse_of (by omega) k0]
    generalize hus : twT [sgT ⟨#[125]⟩ ((twH 1).length + 9 * ns.length), e] 0 6 ns = us at *
    have hus' : twT [sgT ⟨#[125]⟩ ((twH 1).length + 9 * ns.length), e] 0 (twH 1).length ns = us := hus
    rw [hus'] at h9
    have e0 : (⟨1, ⟨(114 :: [101, 99]).toArray⟩, 0, 0, 0⟩ : Tok) = ⟨1, ⟨#[114, 101, 99]⟩, 0, 0, 0⟩ := rfl
    rw [e0, show (⟨5, ⟨#[123]⟩, 0, 0, 3 + 1⟩ : Tok) = sgT ⟨#[123]⟩ 4 from rfl]
    have hat : atomP (Lv 31) (⟨1, ⟨#[114, 101, 99]⟩, 0, 0, 0⟩ :: sgT ⟨#[123]⟩ 4 :: us) = bracesP (Lv 31).top 7 0 us := by
      unfold atomP
      rw [if_pos (show begP (⟨1, ⟨#[114, 101, 99]⟩, 0, 0, 0⟩ :: sgT ⟨#[123]⟩ 4 :: us) = true by show begT ⟨1, ⟨#[114, 101, 99]⟩, 0, 0, 0⟩ = true; kernel_rfl), if_neg (show ¬ isP ⟨#[91]⟩ (⟨1, ⟨#[114, 101, 99]⟩, 0, 0, 0⟩ :: sgT ⟨#[123]⟩ 4 :: us) = true by rw [show isP ⟨#[91]⟩ (⟨1, ⟨#[114, 101, 99]⟩, 0, 0, 0⟩ :: sgT ⟨#[123]⟩ 4 :: us) = false by show isT ⟨#[91]⟩ ⟨1, ⟨#[114, 101, 99]⟩, 0, 0, 0⟩ = false; kernel_rfl]; simp)]
      simp only
      rw [if_neg (by decide), if_neg (by decide), if_neg (by decide), if_neg (show ¬ ((⟨#[114, 101, 99]⟩ : ByteArray).toList == (⟨#[40]⟩ : ByteArray).toList) = true by rw [show ((⟨#[114, 101, 99]⟩ : ByteArray).toList == (⟨#[40]⟩ : ByteArray).toList) = false by kernel_rfl]; simp), if_neg (show ¬ ((⟨#[114, 101, 99]⟩ : ByteArray).toList == (⟨#[123]⟩ : ByteArray).toList) = true by rw [show ((⟨#[114, 101, 99]⟩ : ByteArray).toList == (⟨#[123]⟩ : ByteArray).toList) = false by kernel_rfl]; simp), if_pos (show ((⟨#[114, 101, 99]⟩ : ByteArray).toList == (⟨#[114, 101, 99]⟩ : ByteArray).toList) = true by kernel_rfl)]
      have h6 : needP ⟨#[123]⟩ (sgT ⟨#[123]⟩ 4 :: us) = .ok us := by
        unfold needP
        rw [if_pos (show isP ⟨#[123]⟩ _ = true by show isT ⟨#[123]⟩ (sgT ⟨#[123]⟩ _) = true; kernel_rfl)]
        rfl
      rw [h6]
    have htop : (Lv 32).top (⟨1, ⟨#[114, 101, 99]⟩, 0, 0, 0⟩ :: sgT ⟨#[123]⟩ 4 :: us) = orP (Lv 31) (⟨1, ⟨#[114, 101, 99]⟩, 0, 0, 0⟩ :: sgT ⟨#[123]⟩ 4 :: us) := by
      rw [show (Lv 32).top = topP (Lv 31) from rfl]
      unfold topP
      simp only
      rw [show nameT ⟨1, ⟨#[114, 101, 99]⟩, 0, 0, 0⟩ = false by kernel_rfl, show isT ⟨#[108, 101, 116]⟩ ⟨1, ⟨#[114, 101, 99]⟩, 0, 0, 0⟩ = false by kernel_rfl, show isT ⟨#[119, 105, 116, 104]⟩ ⟨1, ⟨#[114, 101, 99]⟩, 0, 0, 0⟩ = false by kernel_rfl, show isT ⟨#[97, 115, 115, 101, 114, 116]⟩ ⟨1, ⟨#[114, 101, 99]⟩, 0, 0, 0⟩ = false by kernel_rfl, show isT ⟨#[105, 102]⟩ ⟨1, ⟨#[114, 101, 99]⟩, 0, 0, 0⟩ = false by kernel_rfl]
      simp
    have hm : isP ⟨#[45]⟩ (⟨1, ⟨#[114, 101, 99]⟩, 0, 0, 0⟩ :: sgT ⟨#[123]⟩ 4 :: us) = false := by show isT ⟨#[45]⟩ ⟨1, ⟨#[114, 101, 99]⟩, 0, 0, 0⟩ = false; kernel_rfl
    have hnn : isP ⟨#[33]⟩ (⟨1, ⟨#[114, 101, 99]⟩, 0, 0, 0⟩ :: sgT ⟨#[123]⟩ 4 :: us) = false := by show isT ⟨#[33]⟩ ⟨1, ⟨#[114, 101, 99]⟩, 0, 0, 0⟩ = false; kernel_rfl
    rw [htop]
    cases hd : dup [] ns with
    | some j =>
      rw [hd] at h9
      simp only at h9 ⊢
      rw [or_err (hat.trans h9) hm hnn]
      rfl
    | none =>
      rw [hd] at h9
      simp only at h9 ⊢
      obtain ⟨ks, g1, g2, g3⟩ := h9
      rw [or_ok (inert_nx ⟨e, [], rfl, Or.inl he⟩) (hat.trans g3) hm hnn]
      exact hout 7 0 ks e he (by omega) g2
  · have d2' : s.data.toList.drop (4 + 9 * ns.length) = (105 :: [110]) ++ (32 :: [49]) := d2
    have d3 := dr_add d2'
    have d3' : s.data.toList.drop (4 + 9 * ns.length + 2) = 32 :: [49] := d3
    obtain ⟨_, d4, _⟩ := dr_bt d3'
    have hz : s.size = 4 + 9 * ns.length + 4 := hsz
    have k4 : Lx pf s (4 + 9 * ns.length + 2 + 1) [inT 1 (4 + 9 * ns.length + 2 + 1), ⟨0, ⟨#[]⟩, 0, 0, s.size⟩] := by
      have h0 : tokP pf ⟨#[49]⟩ 0 = .ok (inT 1 0, 1) := by kernel_rfl
      obtain ⟨b1, _, _⟩ := dr_bt d4
      have h2 := tok_local (s' := s) (p' := 4 + 9 * ns.length + 2 + 1) (m := 1) h0 (by omega) (fun j hj => by
        obtain rfl : j = 0 := by omega
        rw [Nat.add_zero, b1]
        rfl) (fun x hx => by have := bt_lt hx; omega)
      exact .tok (.here _) h2 (lx_end (by omega))
    have k3 := lx_name (pf := pf) d2' (by rfl) (by decide) (by intro x hx; cases hx; rfl) (by decide) (lx_blank d3' rfl k4)
    have e3 : (⟨1, ⟨(105 :: [110]).toArray⟩, 0, 0, 4 + 9 * ns.length⟩ : Tok) = ⟨1, ⟨#[105, 110]⟩, 0, 0, 4 + 9 * ns.length⟩ := rfl
    rw [e3] at k3
    have k2 := lx_tw (pf := pf) ns 0 4 hn d1 k3
    have d0' : s.data.toList.drop 0 = (108 :: [101, 116]) ++ (32 :: (twL 0 ns ++ [105, 110, 32, 49])) := d0
    have d5 := dr_add d0'
    have d5' : s.data.toList.drop 3 = 32 :: (twL 0 ns ++ [105, 110, 32, 49]) := d5
    have k0 := lx_name (pf := pf) d0' (by rfl) (by decide) (by intro x hx; cases hx; rfl) (by decide) (lx_blank d5' rfl k2)
    rw [parse_of (by omega) k0]
    have e0 : (⟨1, ⟨(108 :: [101, 116]).toArray⟩, 0, 0, 0⟩ : Tok) = ⟨1, ⟨#[108, 101, 116]⟩, 0, 0, 0⟩ := rfl
    rw [e0]
    have h9 := binds_tw (m := 30) (pl := 0) (rest := [⟨1, ⟨#[105, 110]⟩, 0, 0, 4 + 9 * ns.length⟩, inT 1 (4 + 9 * ns.length + 2 + 1), ⟨0, ⟨#[]⟩, 0, 0, s.size⟩]) rfl (by kernel_rfl) (by kernel_rfl) (by show (1 : Int) ≠ 4; decide) ns 0 4 _ [] [] (by simp) hn (Nat.le_refl _)
    generalize hus : twT [⟨1, ⟨#[105, 110]⟩, 0, 0, 4 + 9 * ns.length⟩, inT 1 (4 + 9 * ns.length + 2 + 1), ⟨0, ⟨#[]⟩, 0, 0, s.size⟩] 0 4 ns = us at *
    have htop : (Lv 32).top (⟨1, ⟨#[108, 101, 116]⟩, 0, 0, 0⟩ :: us) = (match bindsL (Lv 31).top us.length [⟨[], [], 0⟩] us with
      | .error e => .error e
      | .ok (ar, vs) => match needP ⟨#[105, 110]⟩ vs with
        | .error e => .error e
        | .ok vs => match (Lv 31).top vs with
          | .error e => .error e
          | .ok (b, vs) => .ok (rootOf 12 0 [b] ar, vs)) := by
      rw [show (Lv 32).top = topP (Lv 31) from rfl]
      conv => lhs; unfold topP
      simp only
      rw [show nameT ⟨1, ⟨#[108, 101, 116]⟩, 0, 0, 0⟩ = false by kernel_rfl, show isT ⟨#[108, 101, 116]⟩ ⟨1, ⟨#[108, 101, 116]⟩, 0, 0, 0⟩ = true by kernel_rfl]
      simp only [Bool.false_and, Bool.false_eq_true, if_false, if_true]
      rfl
    rw [htop]
    cases hd : dup [] ns with
    | some j =>
      rw [hd] at h9
      simp only at h9 ⊢
      rw [show ([⟨[], [], 0⟩] : Ar) = [soOf 0 [] []] from rfl, h9]
      rfl
    | none =>
      rw [hd] at h9
      simp only at h9 ⊢
      obtain ⟨ks, g1, g2, g3⟩ := h9
      rw [show ([⟨[], [], 0⟩] : Ar) = [soOf 0 [] []] from rfl, g3]
      simp only [List.nil_append]
      have h6 : ∀ us, needP ⟨#[105, 110]⟩ (⟨1, ⟨#[105, 110]⟩, 0, 0, 4 + 9 * ns.length⟩ :: us) = .ok us := fun us => by
        unfold needP
        rw [if_pos (show isP ⟨#[105, 110]⟩ _ = true by show isT ⟨#[105, 110]⟩ ⟨1, ⟨#[105, 110]⟩, 0, 0, 4 + 9 * ns.length⟩ = true; kernel_rfl)]
        rfl
      rw [h6]
      simp only
      rw [top_int 30 1 _ (inert_end s.size)]
      simp only
      rw [root_tw]
      exact hout 12 0 (ks ++ [inN 1 (4 + 9 * ns.length + 2 + 1)]) _ rfl (by simp; omega) (fun t ht => by
        rcases List.mem_append.1 ht with h | h
        · exact g2 t h
        · simp at h; subst h; simp [inN])
end Go.Proofs.YtppljgallbmgcaaGreatDoor
