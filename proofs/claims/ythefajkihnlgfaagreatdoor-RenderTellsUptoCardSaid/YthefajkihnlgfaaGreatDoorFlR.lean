/- bootjackref12.Float at any float: the walk. -/
import Derived.Test.YthefajkihnlgfaaGreatDoorFlW
namespace Go.Proofs.YthefajkihnlgfaaGreatDoor
open Go.RowKit Go.Sort Go.Shelf
set_option linter.unusedSimpArgs false
set_option linter.unusedVariables false
def NoDE (s : ByteArray) (k : Nat) : Prop := ∀ (j : Nat) (h : j < s.size), j < k → s[j] ≠ 46 ∧ s[j] ≠ 101
def NoD (s : ByteArray) (k : Nat) : Prop := ∀ (j : Nat) (h : j < s.size), j < k → s[j] ≠ 46
theorem u8_ne {c : UInt8} {n : Nat} (hn : n < 256) (h : c ≠ UInt8.ofNat n) : (((c.toNat : Nat) : Int) == (n : Int)) = false := by
  rw [beq_eq_false_iff_ne]
  intro e
  have e : c.toNat = n := by omega
  exact h (by rw [← e, UInt8.ofNat_toNat])
theorem u8_eq {c : UInt8} {n : Nat} (h : c = UInt8.ofNat n) (hn : n < 256) : ((c.toNat : Nat) : Int) = (n : Int) := by
  rw [h, UInt8.toNat_ofNat']
  omega
set_option maxHeartbeats 2000000 in
set_option maxRecDepth 100000 in
theorem rfloat_big {w : World} {x m : Nat} {p q sE : ByteArray} {k : Nat} {R : ByteArray}
    (oN : FloatKind.f64.format.order x x = some .eq) (oU : (FloatKind.f64.format.order x 9218868437227405311 == some .gt) = false)
    (oD : (FloatKind.f64.format.order x 18442240474082181119 == some .lt) = false)
    (HE : Hid (∀ W, Below w.heap.size w W → Calls Tryz.prog 49 #[.float .f64 x, .int .u8 101, .int .i64 (-1), .int .i64 64] W fun e w' => e = .returned (.string sE) ∧ Below W.heap.size W w'))
    (HA : Hid (∀ W, Calls Tryz.prog 50 #[.float .f64 x] W fun e w' => e = .returned (.float .f64 m) ∧ W = w'))
    (h1 : sE.extract 0 k = p) (h2 : sE.extract k sE.size = q) (hk : k < sE.size) (hss : sE.size ≤ 1000) (hp : p.size ≤ 1000) (hq : q.size ≤ 1000)
    (HB : Hid (NoDE sE k)) (HR : Hid ((sE[k] = 46 ∧ R = sE) ∨ (sE[k] = 101 ∧ R = p ++ ⟨#[46, 48]⟩ ++ q)))
    (o0 : FloatKind.f64.format.order m 0 = some .gt) (o1 : (FloatKind.f64.format.order m 4517329193108106637 == some .lt) = true ∨ ((FloatKind.f64.format.order m 4517329193108106637 == some .lt) = false ∧ (FloatKind.f64.format.order m 4921056587992461136 = some .gt ∨ FloatKind.f64.format.order m 4921056587992461136 = some .eq))) :
    Calls Tryz.prog 41 #[.float .f64 x] w fun e w' => e = .returned (.string R) ∧ Below w.heap.size w w' := by
  have hkI : (k : Int) ≤ (sE.size : Int) := by omega
  rcases o1 with o1 | ⟨o1, o2 | o2⟩
  all_goals
    go_enter Tryz.func41, Tryz.ntmps41
    go_wp2_with fail
    refine (HA.out _).mono ?_
    rintro e w3 ⟨rfl, rfl⟩
    go_wp2_with fail
    refine (HE.out _ (Below.refl _ _)).mono ?_
    rintro e w4 ⟨rfl, hb4⟩
    go_wp2_with fail
    go_loopw [5] (fun i wr => ∃ j : Nat, j ≤ k ∧ i = .int .i64 (j : Int) ∧ Below w.heap.size w wr) (fun i _ => k - (intOf i).toNat)
    case atStart => exact ⟨0, Nat.zero_le _, rfl, hb4⟩
    case round =>
      obtain ⟨j, hj, rfl, hb⟩ := hrel
      have hjs : j < sE.size := by omega
      have hjI : (j : Int) < (sE.size : Int) := by omega
      by_cases hjk : j < k
      · obtain ⟨n1, n2⟩ := HB.out j hjs hjk
        have n3 := u8_ne (n := 46) (by decide) n1
        have n4 := u8_ne (n := 101) (by decide) n2
        go_wp2_with fail
        go_roundw
        case rel => exact ⟨j + 1, by omega, by go_num, hb⟩
        case measure => simp [intOf]; omega
      · obtain rfl : j = k := by omega
        rcases HR.out with ⟨h46, rfl⟩ | ⟨h101, rfl⟩
        · have n3 := u8_eq (n := 46) h46 (by decide)
          go_wp2_with fail
          go_ret
          exact ⟨rfl, hb⟩
        · have n3 := u8_ne (n := 46) (c := sE[j]) (by decide) (by rw [h101]; decide)
          have n4 := u8_eq (n := 101) h101 (by decide)
          go_wp2_with fail
          go_quiet (fail)
          go_wp2_with fail
          go_ret
          exact ⟨rfl, below_drewN hb _⟩
set_option maxHeartbeats 2000000 in
set_option maxRecDepth 100000 in
theorem rfloat_small {w : World} {x m : Nat} {sf : ByteArray} {k : Nat} {R : ByteArray}
    (oN : FloatKind.f64.format.order x x = some .eq) (oU : (FloatKind.f64.format.order x 9218868437227405311 == some .gt) = false)
    (oD : (FloatKind.f64.format.order x 18442240474082181119 == some .lt) = false)
    (HF : Hid (∀ W, Below w.heap.size w W → Calls Tryz.prog 49 #[.float .f64 x, .int .u8 102, .int .i64 (-1), .int .i64 64] W fun e w' => e = .returned (.string sf) ∧ Below W.heap.size W w'))
    (HA : Hid (∀ W, Calls Tryz.prog 50 #[.float .f64 x] W fun e w' => e = .returned (.float .f64 m) ∧ W = w'))
    (hk : k ≤ sf.size) (hss : sf.size ≤ 1000)
    (HB : Hid (NoD sf k)) (HR : Hid ((∃ h : k < sf.size, sf[k] = 46 ∧ R = sf) ∨ (k = sf.size ∧ R = sf ++ ⟨#[46, 48]⟩)))
    (o0 : FloatKind.f64.format.order m 0 = some .eq ∨ (FloatKind.f64.format.order m 0 = some .gt ∧ (FloatKind.f64.format.order m 4517329193108106637 == some .lt) = false ∧ FloatKind.f64.format.order m 4921056587992461136 = some .lt)) :
    Calls Tryz.prog 41 #[.float .f64 x] w fun e w' => e = .returned (.string R) ∧ Below w.heap.size w w' := by
  rcases o0 with o0 | ⟨o0, o1, o2⟩
  all_goals
    go_enter Tryz.func41, Tryz.ntmps41
    go_wp2_with fail
    refine (HA.out _).mono ?_
    rintro e w3 ⟨rfl, rfl⟩
    go_wp2_with fail
    refine (HF.out _ (Below.refl _ _)).mono ?_
    rintro e w4 ⟨rfl, hb4⟩
    go_wp2_with fail
    go_loopw [7] (fun i wr => ∃ j : Nat, j ≤ k ∧ i = .int .i64 (j : Int) ∧ Below w.heap.size w wr) (fun i _ => k - (intOf i).toNat)
    case atStart => exact ⟨0, Nat.zero_le _, rfl, hb4⟩
    case round =>
      obtain ⟨j, hj, rfl, hb⟩ := hrel
      by_cases hjk : j < k
      · have hjs : j < sf.size := by omega
        have hjI : (j : Int) < (sf.size : Int) := by omega
        have n1 := HB.out j hjs hjk
        have n3 := u8_ne (n := 46) (by decide) n1
        go_wp2_with fail
        go_roundw
        case rel => exact ⟨j + 1, by omega, by go_num, hb⟩
        case measure => simp [intOf]; omega
      · obtain rfl : j = k := by omega
        rcases HR.out with ⟨hjs, h46, rfl⟩ | ⟨he, rfl⟩
        · have hjI : (j : Int) < (R.size : Int) := by omega
          have n3 := u8_eq (n := 46) h46 (by decide)
          go_wp2_with fail
          go_ret
          exact ⟨rfl, hb⟩
        · have hjI : ¬ ((j : Int) < (sf.size : Int)) := by omega
          clear HR HB hk
          go_wp2_with fail
          go_ret
          exact ⟨rfl, hb⟩
theorem rfloat_nan {w : World} {x : Nat} (h : FloatKind.f64.format.order x x = none) : Calls Tryz.prog 41 #[.float .f64 x] w fun e w' => e = .returned (.string ⟨#[110, 97, 110]⟩) ∧ Below w.heap.size w w' := by
  go_enter Tryz.func41, Tryz.ntmps41
  go_wp2_with fail
  go_ret
  exact ⟨rfl, Below.refl _ _⟩
theorem rfloat_infU {w : World} : Calls Tryz.prog 41 #[.float .f64 9218868437227405312] w fun e w' => e = .returned (.string ⟨#[105, 110, 102]⟩) ∧ Below w.heap.size w w' := by
  have h1 : FloatKind.f64.format.order 9218868437227405312 9218868437227405312 = some .eq := by kernel_rfl
  have h2 : (FloatKind.f64.format.order 9218868437227405312 9218868437227405311 == some .gt) = true := by kernel_rfl
  generalize (9218868437227405312 : Nat) = x at *
  go_enter Tryz.func41, Tryz.ntmps41
  go_wp2_with fail
  go_ret
  exact ⟨rfl, Below.refl _ _⟩
theorem rfloat_infD {w : World} : Calls Tryz.prog 41 #[.float .f64 18442240474082181120] w fun e w' => e = .returned (.string ⟨#[45, 105, 110, 102]⟩) ∧ Below w.heap.size w w' := by
  have h1 : FloatKind.f64.format.order 18442240474082181120 18442240474082181120 = some .eq := by kernel_rfl
  have h2 : (FloatKind.f64.format.order 18442240474082181120 9218868437227405311 == some .gt) = false := by kernel_rfl
  have h3 : (FloatKind.f64.format.order 18442240474082181120 18442240474082181119 == some .lt) = true := by kernel_rfl
  generalize (18442240474082181120 : Nat) = x at *
  go_enter Tryz.func41, Tryz.ntmps41
  go_wp2_with fail
  go_ret
  exact ⟨rfl, Below.refl _ _⟩
theorem idx_first : ∀ (l : List UInt8) (c : UInt8), ∃ k, k ≤ l.length ∧ (∀ (j : Nat) (b : UInt8), j < k → l[j]? = some b → b ≠ c) ∧ ((l.contains c = true ∧ l[k]? = some c) ∨ (l.contains c = false ∧ k = l.length))
  | [], c => ⟨0, by simp, fun j b h => by omega, Or.inr ⟨rfl, rfl⟩⟩
  | a :: r, c => by
    by_cases h : a = c
    · exact ⟨0, by simp, fun j b h => by omega, Or.inl ⟨by simp [h], by simp [h]⟩⟩
    · obtain ⟨k, h1, h2, h3⟩ := idx_first r c
      refine ⟨k + 1, by simp [h1], fun j b hj hb => ?_, ?_⟩
      · cases j with
        | zero => simp at hb; rw [← hb]; exact h
        | succ j => exact h2 j b (by omega) (by simpa using hb)
      · have e : (a :: r).contains c = r.contains c := by
          rw [List.contains_cons]
          have : (c == a) = false := by rw [beq_eq_false_iff_ne]; exact fun e => h e.symm
          rw [this, Bool.false_or]
        rw [e]
        rcases h3 with ⟨h3, h4⟩ | ⟨h3, h4⟩
        · exact Or.inl ⟨h3, by simpa using h4⟩
        · exact Or.inr ⟨h3, by simp [h4]⟩
theorem ba_at {l : List UInt8} {j : Nat} {b : UInt8} (h : l[j]? = some b) (hj : j < (⟨l.toArray⟩ : ByteArray).size) : (⟨l.toArray⟩ : ByteArray)[j] = b := by
  obtain ⟨h1, h2⟩ := List.getElem?_eq_some_iff.1 h
  rw [← h2]
  rfl
theorem ba_len (l : List UInt8) : (⟨l.toArray⟩ : ByteArray).size = l.length := by show l.toArray.size = _; simp
theorem RFloat_any {w : World} {B b : Nat} (hG : RG B w) (hb : b < 18446744073709551616) : Calls Tryz.prog 41 #[.float .f64 b] w fun e w' => e = .returned (.string ⟨(fltT b).toArray⟩) ∧ Below w.heap.size w w' := by
  unfold fltT
  by_cases hE : ftE b = 2047
  · rcases not_fin hb hE with ⟨h1, h2⟩ | rfl | rfl
    · rw [if_pos h1]
      exact rfloat_nan h2
    · rw [if_neg (by decide), if_pos rfl]
      exact rfloat_infU
    · rw [if_neg (by decide), if_neg (by decide), if_pos rfl]
      exact rfloat_infD
  · obtain ⟨n1, n2, n3⟩ := fin_of hE
    rw [if_neg n1, if_neg n2, if_neg n3]
    have oN := order_same hb hE
    have oU : (FloatKind.f64.format.order b 9218868437227405311 == some .gt) = false := by
      have h : FloatKind.f64.format.order b 9218868437227405311 = some .lt ∨ FloatKind.f64.format.order b 9218868437227405311 = some .eq := order_max hb hE
      rcases h with h | h <;> rw [h] <;> rfl
    have oD : (FloatKind.f64.format.order b 18442240474082181119 == some .lt) = false := by
      have h : FloatKind.f64.format.order b 18442240474082181119 = some .gt ∨ FloatKind.f64.format.order b 18442240474082181119 = some .eq := order_min hb hE
      rcases h with h | h <;> rw [h] <;> rfl
    have HF := Lib.hid (fun W (h : Below w.heap.size w W) => fmt102 (hG.below h).fg hb hE)
    have HA := Lib.hid (fun W => abs_any b W)
    have hsz : (⟨(fT102 b).toArray⟩ : ByteArray).size ≤ 1000 := by rw [ba_len]; exact fT102_len hb hE
    have small (o0 : FloatKind.f64.format.order (absB b) 0 = some .eq ∨ (FloatKind.f64.format.order (absB b) 0 = some .gt ∧ (FloatKind.f64.format.order (absB b) 4517329193108106637 == some .lt) = false ∧ FloatKind.f64.format.order (absB b) 4921056587992461136 = some .lt)) :
        Calls Tryz.prog 41 #[.float .f64 b] w fun e w' => e = .returned (.string ⟨(dotT (fT102 b)).toArray⟩) ∧ Below w.heap.size w w' := by
      obtain ⟨k, h1, h2, h3⟩ := idx_first (fT102 b) 46
      refine rfloat_small oN oU oD HF HA (k := k) (by rw [ba_len]; exact h1) hsz (Lib.hid fun j hj hjk => ?_) (Lib.hid ?_) o0
      · rw [ba_len] at hj
        rw [ba_at (List.getElem?_eq_getElem hj)]
        exact h2 j _ hjk (List.getElem?_eq_getElem hj)
      · unfold dotT
        rcases h3 with ⟨h3, h4⟩ | ⟨h3, h4⟩
        · have hk := (List.getElem?_eq_some_iff.1 h4).1
          rw [if_pos h3]
          exact Or.inl ⟨by rw [ba_len]; exact hk, ba_at h4 _, rfl⟩
        · rw [if_neg (by rw [h3]; simp), ← ba_plus]
          exact Or.inr ⟨by rw [ba_len]; exact h4, rfl⟩
    rcases abs_cases hb hE with ⟨hM, o0⟩ | ⟨hM, o0, h⟩
    · rw [if_neg (by simp [hM])]
      exact small (Or.inl o0)
    · have ge {c : Nat} (h : FloatKind.f64.format.order (absB b) c = some .gt ∨ FloatKind.f64.format.order (absB b) c = some .eq) : (FloatKind.f64.format.order (absB b) c == some .lt) = false := by
        rcases h with h | h <;> rw [h] <;> rfl
      have big (hB : bigB b = true) (o1 : (FloatKind.f64.format.order (absB b) 4517329193108106637 == some .lt) = true ∨ ((FloatKind.f64.format.order (absB b) 4517329193108106637 == some .lt) = false ∧ (FloatKind.f64.format.order (absB b) 4921056587992461136 = some .gt ∨ FloatKind.f64.format.order (absB b) 4921056587992461136 = some .eq))) :
          Calls Tryz.prog 41 #[.float .f64 b] w fun e w' => e = .returned (.string ⟨(if ftM b ≠ 0 ∧ bigB b = true then dotT (fmS (ftN b) ++ fmM (ftD b)) ++ 101 :: fmX (ftQ b - 1) else dotT (fT102 b)).toArray⟩) ∧ Below w.heap.size w w' := by
        rw [if_pos ⟨hM, hB⟩]
        have hl := fT101_len hb hE hM
        have HE := Lib.hid (fun W (h : Below w.heap.size w W) => fmt101 (hG.below h).fg hb hE hM)
        rw [fT101_is] at HE
        have hn := fmE_head (ftN b) b
        generalize fmS (ftN b) ++ fmM (ftD b) = p at *
        generalize fmX (ftQ b - 1) = q at *
        obtain ⟨k, h1, h2, h3⟩ := idx_first p 46
        have hls : (⟨(p ++ 101 :: q).toArray⟩ : ByteArray).size ≤ 1000 := by rw [ba_len, List.length_append]; omega
        have hkl : k < (⟨(p ++ 101 :: q).toArray⟩ : ByteArray).size := by rw [ba_len]; simp; omega
        have hB : NoDE ⟨(p ++ 101 :: q).toArray⟩ k := by
          intro j hj hjk
          have hjp : j < p.length := by omega
          have e : (p ++ 101 :: q)[j]? = some p[j] := by rw [List.getElem?_append_left hjp, List.getElem?_eq_getElem hjp]
          rw [ba_at e]
          exact ⟨h2 j _ hjk (List.getElem?_eq_getElem hjp), fun e => hn (by rw [← e]; exact List.getElem_mem _)⟩
        rcases h3 with ⟨h3, h4⟩ | ⟨h3, h4⟩
        · have hkp := (List.getElem?_eq_some_iff.1 h4).1
          have e1 := ba_cut_l ((p ++ 101 :: q).take k) ((p ++ 101 :: q).drop k)
          have e2 := ba_cut_r ((p ++ 101 :: q).take k) ((p ++ 101 :: q).drop k)
          rw [List.take_append_drop] at e1 e2
          have ek : ((p ++ 101 :: q).take k).length = k := by rw [List.length_take]; simp; omega
          rw [ek] at e1 e2
          rw [← ba_len (p ++ 101 :: q)] at e2
          refine rfloat_big oN oU oD HE HA e1 e2 hkl hls ?_ ?_ (Lib.hid hB) (Lib.hid (Or.inl ⟨ba_at (by rw [List.getElem?_append_left hkp]; exact h4) _, ?_⟩)) o0 o1
          · rw [ba_len, ek]; omega
          · rw [ba_len, List.length_drop]; rw [ba_len] at hls; omega
          · unfold dotT
            rw [if_pos h3]
        · subst h4
          have e1 := ba_cut_l p (101 :: q)
          have e2 := ba_cut_r p (101 :: q)
          rw [← ba_len (p ++ 101 :: q)] at e2
          refine rfloat_big oN oU oD HE HA e1 e2 hkl hls (by rw [ba_len]; omega) (by rw [ba_len]; omega) (Lib.hid hB) (Lib.hid (Or.inr ⟨ba_at (by simp) _, ?_⟩)) o0 o1
          unfold dotT
          rw [if_neg (by rw [h3]; simp), ← ba_plus, ← ba_plus]
      rcases h with ⟨hB, o1⟩ | ⟨o1, ⟨hB, o2⟩ | ⟨hB, o2⟩⟩
      · exact big hB (Or.inl (by rw [show FloatKind.f64.format.order (absB b) 4517329193108106637 = some .lt from o1]; rfl))
      · exact big hB (Or.inr ⟨ge o1, o2⟩)
      · rw [if_neg (by simp [hB])]
        exact small (Or.inr ⟨o0, ge o1, o2⟩)
end Go.Proofs.YthefajkihnlgfaaGreatDoor

