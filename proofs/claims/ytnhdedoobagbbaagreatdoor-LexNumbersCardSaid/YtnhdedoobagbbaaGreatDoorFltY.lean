/- The exact way from few digits to a float. -/
import Derived.Test.YtnhdedoobagbbaaGreatDoorFltQ
import Derived.Test.YtnhdedoobagbbaaGreatDoorFltB
import Derived.Laws.FloatArith
namespace Go.Proofs.YtnhdedoobagbbaaGreatDoor
open Go.RowKit

set_option maxRecDepth 100000 in
theorem special_any {t : ByteArray} (h0 : 0 < t.size) (hs : t.size ≤ 100000) (h1 : 48 ≤ t[0].toNat) (h2 : t[0].toNat ≤ 57) (w : World) : Calls Tryz.prog 62 #[.string t] w fun e w' => e = .returned (.tuple #[.float .f64 0, .int .i64 0, .bool false]) ∧ w = w' := by
  have n43 : ((t[0].toNat : Int) == 43) = false := by simp; omega
  have n45 : ((t[0].toNat : Int) == 45) = false := by simp; omega
  have n105 : ((t[0].toNat : Int) == 105) = false := by simp; omega
  have n73 : ((t[0].toNat : Int) == 73) = false := by simp; omega
  have n110 : ((t[0].toNat : Int) == 110) = false := by simp; omega
  have n78 : ((t[0].toNat : Int) == 78) = false := by simp; omega
  have hne : ¬ (t = ByteArray.empty) := by rintro rfl; exact absurd h0 (by decide)
  go_enter Tryz.func62, Tryz.ntmps62
  go_wp2_with fail
  go_ret3
  exact ⟨rfl, rfl⟩
def p10L : List Nat := [4607182418800017408, 4621819117588971520, 4636737291354636288, 4652007308841189376, 4666723172467343360, 4681608360884174848, 4696837146684686336, 4711630319722168320, 4726483295884279808, 4741671816366391296, 4756540486875873280, 4771362005757984768, 4786511204640096256, 4801453603149578240, 4816244402031689728, 4831355200913801216, 4846369599423283200, 4861130398305394688, 4876203697187506176, 4891288408196988160, 4906019910204099648, 4921056587992461136, 4936209963552724370]
def p10 (k : Nat) : Nat := p10L[k]?.getD 0
def numB : Ieee.Datum → Bool | .number false m _ => m != 0 | _ => false
theorem p10_num {k : Nat} (h : k < 23) : ∃ m p, F64.read (p10 k) = .number false m p ∧ m ≠ 0 := by
  have hall : ∀ k : Fin 23, numB (F64.read (p10 k.val)) = true := by decide +kernel
  have := hall ⟨k, h⟩
  simp only at this
  revert this
  cases F64.read (p10 k) with
  | number s m p =>
    cases s
    · intro h; exact ⟨m, p, rfl, by simpa [numB] using h⟩
    · intro h; cases h
  | infinity s => intro h; cases h
  | nan s f => intro h; cases h
def mulP (f k : Nat) : Nat := (F64.mul f (p10 k)).getD 0
def divP (f k : Nat) : Nat := (F64.div f (p10 k)).getD 0
theorem mulP_is {f k : Nat} (h : Fin' f) (hk : k < 23) : FloatKind.f64.format.mul f (p10 k) = some (mulP f k) ∧ Fin' (mulP f k) := by
  obtain ⟨m, p, hr, hm⟩ := p10_num hk
  obtain ⟨r, h1, h2⟩ := mul_fin h hr hm
  unfold mulP
  rw [h1]
  exact ⟨rfl, h2⟩
theorem divP_is {f k : Nat} (h : Fin' f) (hk : k < 23) : FloatKind.f64.format.div f (p10 k) = some (divP f k) ∧ Fin' (divP f k) := by
  obtain ⟨m, p, hr, hm⟩ := p10_num hk
  obtain ⟨r, h1, h2⟩ := div_fin h hr hm
  unfold divP
  rw [h1]
  exact ⟨rfl, h2⟩
def exF (m : Nat) : Nat := floatOfInt .f64 (m : Int)
theorem exF_fin (m : Nat) : Fin' (exF m) := by
  unfold exF floatOfInt
  have : decide ((m : Int) < 0) = false := by simp
  change Fin' (F64.write (.number (decide ((m : Int) < 0)) (m : Int).natAbs 0))
  rw [this]
  exact write_fin (Or.inl ⟨_, _, rfl⟩)
/-- An integer of the float, times a power of ten. -/
def exM (f k : Nat) : Option Nat :=
  if (FloatKind.f64.format.order f 4831355200913801216 == some .gt) = true then none
  else if (FloatKind.f64.format.order f 14054727237768577024 == some .lt) = true then none
  else some (mulP f k)
def exR (m : Nat) (e : Int) : Option Nat :=
  if 4503599627370496 ≤ m then none
  else if e = 0 then some (exF m)
  else if 0 < e ∧ e ≤ 37 then (if 22 < e then exM (mulP (exF m) (e - 22).toNat) 22 else exM (exF m) e.toNat)
  else if e < 0 ∧ -22 ≤ e then some (divP (exF m) (-e).toNat)
  else none
def ExPost (r : Option Nat) (w : World) (en : Ending) (w' : World) : Prop :=
  (match r with
  | some x => en = .returned (.tuple #[.float .f64 x, .bool true])
  | none => ∃ x, en = .returned (.tuple #[.float .f64 x, .bool false])) ∧ w' = w
/-- What the package variables hold that the exact way looks at. -/
def P10G (B : Nat) (w : World) : Prop := 10 < B ∧ ∃ b o c : Nat, b < B ∧ w.cell? ⟨10, 0, none⟩ = some (.slice (some ⟨b, o, none⟩) 23 c) ∧ ∀ k : Nat, k < 23 → w.cell? ⟨b, o + k, none⟩ = some (.float .f64 (p10 k))
theorem P10G.keeps {B B' : Nat} {w w' : World} (hB : B ≤ B') (hb : Below B' w w') (h : P10G B w) : P10G B w' := by
  obtain ⟨h0, b, o, c, h1, h2, h3⟩ := h
  refine ⟨h0, b, o, c, h1, ?_, fun k hk => ?_⟩
  · rw [hb.cell (show (10 : Nat) < B' by omega)]; exact h2
  · rw [hb.cell (show b < B' by omega)]; exact h3 k hk
set_option maxHeartbeats 1000000 in
set_option maxRecDepth 100000 in
theorem exact_any {B : Nat} {w : World} (hP : P10G B w) (hM : w.cell? ⟨7, 0, none⟩ = some (.int .u64 52)) {m : Nat} (hm : m < 18446744073709551616) {e : Int} (h1 : -1000000 ≤ e) (h2 : e ≤ 1000000) :
    Calls Tryz.prog 73 #[.int .u64 m, .int .i64 e, .bool false] w fun en w' => ExPost (exR m e) w en w' := by
  obtain ⟨R, hR⟩ : ∃ R, exR m e = R := ⟨_, rfl⟩
  have HR := Lib.hid hR
  rw [hR]
  clear hR
  obtain ⟨_, b, o, c, _, q2, q3⟩ := hP
  have hsh : (m : Int) / 4503599627370496 = ((m / 4503599627370496 : Nat) : Int) := by omega
  obtain ⟨F, hF⟩ : ∃ F, exF m = F := ⟨_, rfl⟩
  have hFF : Fin' F := hF ▸ exF_fin m
  have f0 : floatOfInt FloatKind.f64 (m : Int) = F := hF
  by_cases hbig : 4503599627370496 ≤ m
  · have HE : Hid (R = none) := Lib.hid (by rw [← HR.out]; unfold exR; rw [if_pos hbig])
    have hz : (((m / 4503599627370496 : Nat) : Int) != 0) = true := by simp; omega
    clear HR q3 hF
    generalize m / 4503599627370496 = m2 at *
    go_enter Tryz.func73, Tryz.ntmps73
    go_wp2_with fail
    go_ret2
    rw [HE.out]
    exact ⟨⟨_, rfl⟩, rfl⟩
  · have hz : (((m / 4503599627370496 : Nat) : Int) != 0) = false := by simp; omega
    have HS : Hid ((if e = 0 then some F else if 0 < e ∧ e ≤ 37 then (if 22 < e then exM (mulP F (e - 22).toNat) 22 else exM F e.toNat) else if e < 0 ∧ -22 ≤ e then some (divP F (-e).toNat) else none) = R) := Lib.hid (by
      rw [← HR.out]; unfold exR; rw [if_neg hbig, hF])
    clear HR hF hbig
    generalize m / 4503599627370496 = m2 at *
    by_cases he0 : e = 0
    · subst he0
      have HE : Hid (R = some F) := Lib.hid (by rw [← HS.out, if_pos rfl])
      clear HS q3
      go_enter Tryz.func73, Tryz.ntmps73
      go_wp2_with fail
      go_ret2
      rw [HE.out]
      exact ⟨rfl, rfl⟩
    · have hez : (e == 0) = false := by simpa using he0
      by_cases hpos : 0 < e
      · by_cases h37 : e ≤ 37
        · by_cases h22 : 22 < e
          · obtain ⟨k, hk⟩ : ∃ k : Nat, e = (k : Int) + 22 := ⟨(e - 22).toNat, by omega⟩
            subst hk
            obtain ⟨y1, y2⟩ := mulP_is hFF (k := k) (by omega)
            have HE0 : Hid (exM (mulP F k) 22 = R) := Lib.hid (by
              rw [← HS.out, if_neg he0, if_pos ⟨hpos, h37⟩, if_pos h22, show ((k : Int) + 22 - 22).toNat = k by omega])
            have c1 := q3 k (by omega)
            have c2 := q3 22 (by omega)
            have hmul : ∀ W, (binOp BinOp.mul 32 (.float .f64 F) (.float .f64 (p10 k))).run Tryz.prog W = .ok (.float .f64 (mulP F k)) W := fun W => run_float_arith W _ _ _ _ _ _ y1
            obtain ⟨G, hG⟩ : ∃ G, mulP F k = G := ⟨_, rfl⟩
            rw [hG] at y2 hmul HE0
            obtain ⟨z1, z2⟩ := mulP_is y2 (k := 22) (by omega)
            have hmul2 : ∀ W, (binOp BinOp.mul 32 (.float .f64 G) (.float .f64 (p10 22))).run Tryz.prog W = .ok (.float .f64 (mulP G 22)) W := fun W => run_float_arith W _ _ _ _ _ _ z1
            have hk1 : (k : Int) < 23 := by omega
            have hk2 : (22 : Int) < (k : Int) + 22 := by omega
            clear HS y1 z1 z2 hG q3
            generalize p10 k = t1 at *
            generalize p10 22 = t2 at *
            by_cases o1 : (FloatKind.f64.format.order G 4831355200913801216 == some .gt) = true
            · have HE : Hid (R = none) := Lib.hid (by rw [← HE0.out]; unfold exM; rw [if_pos o1])
              clear HE0
              go_enter Tryz.func73, Tryz.ntmps73
              go_wp2_with fail
              go_ret2
              rw [HE.out]
              exact ⟨⟨_, rfl⟩, rfl⟩
            · have o1' : (FloatKind.f64.format.order G 4831355200913801216 == some .gt) = false := by simpa using o1
              by_cases o2 : (FloatKind.f64.format.order G 14054727237768577024 == some .lt) = true
              · have HE : Hid (R = none) := Lib.hid (by rw [← HE0.out]; unfold exM; rw [if_neg o1, if_pos o2])
                clear HE0 o1
                go_enter Tryz.func73, Tryz.ntmps73
                go_wp2_with fail
                go_ret2
                rw [HE.out]
                exact ⟨⟨_, rfl⟩, rfl⟩
              · have o2' : (FloatKind.f64.format.order G 14054727237768577024 == some .lt) = false := by simpa using o2
                have HE : Hid (R = some (mulP G 22)) := Lib.hid (by rw [← HE0.out]; unfold exM; rw [if_neg o1, if_neg o2])
                clear HE0 o1 o2
                go_enter Tryz.func73, Tryz.ntmps73
                go_wp2_with fail
                go_ret2
                rw [HE.out]
                exact ⟨rfl, rfl⟩
          · obtain ⟨k, hk⟩ : ∃ k : Nat, e = (k : Int) := ⟨e.toNat, by omega⟩
            subst hk
            have HE0 : Hid (exM F k = R) := Lib.hid (by
              rw [← HS.out, if_neg he0, if_pos ⟨hpos, h37⟩, if_neg h22, Int.toNat_natCast])
            have c2 := q3 k (by omega)
            obtain ⟨z1, z2⟩ := mulP_is hFF (k := k) (by omega)
            have hmul2 : ∀ W, (binOp BinOp.mul 32 (.float .f64 F) (.float .f64 (p10 k))).run Tryz.prog W = .ok (.float .f64 (mulP F k)) W := fun W => run_float_arith W _ _ _ _ _ _ z1
            have hk2 : ¬ ((22 : Int) < (k : Int)) := by omega
            have hk3 : (k : Int) < 23 := by omega
            clear HS z1 z2 q3
            generalize p10 k = t2 at *
            by_cases o1 : (FloatKind.f64.format.order F 4831355200913801216 == some .gt) = true
            · have HE : Hid (R = none) := Lib.hid (by rw [← HE0.out]; unfold exM; rw [if_pos o1])
              clear HE0
              go_enter Tryz.func73, Tryz.ntmps73
              go_wp2_with fail
              go_ret2
              rw [HE.out]
              exact ⟨⟨_, rfl⟩, rfl⟩
            · have o1' : (FloatKind.f64.format.order F 4831355200913801216 == some .gt) = false := by simpa using o1
              by_cases o2 : (FloatKind.f64.format.order F 14054727237768577024 == some .lt) = true
              · have HE : Hid (R = none) := Lib.hid (by rw [← HE0.out]; unfold exM; rw [if_neg o1, if_pos o2])
                clear HE0 o1
                go_enter Tryz.func73, Tryz.ntmps73
                go_wp2_with fail
                go_ret2
                rw [HE.out]
                exact ⟨⟨_, rfl⟩, rfl⟩
              · have o2' : (FloatKind.f64.format.order F 14054727237768577024 == some .lt) = false := by simpa using o2
                have HE : Hid (R = some (mulP F k)) := Lib.hid (by rw [← HE0.out]; unfold exM; rw [if_neg o1, if_neg o2])
                clear HE0 o1 o2
                go_enter Tryz.func73, Tryz.ntmps73
                go_wp2_with fail
                go_ret2
                rw [HE.out]
                exact ⟨rfl, rfl⟩
        · have HE : Hid (R = none) := Lib.hid (by rw [← HS.out, if_neg he0, if_neg (by omega), if_neg (by omega)])
          clear HS q3
          go_enter Tryz.func73, Tryz.ntmps73
          go_wp2_with fail
          go_ret2
          rw [HE.out]
          exact ⟨⟨_, rfl⟩, rfl⟩
      · by_cases h22 : -22 ≤ e
        · obtain ⟨k, hk⟩ : ∃ k : Nat, e = -(k : Int) := ⟨(-e).toNat, by omega⟩
          subst hk
          have HE : Hid (R = some (divP F k)) := Lib.hid (by
            rw [← HS.out, if_neg he0, if_neg (by omega), if_pos ⟨by omega, h22⟩, show (-(-(k : Int))).toNat = k by omega])
          have c2 := q3 k (by omega)
          obtain ⟨z1, z2⟩ := divP_is hFF (k := k) (by omega)
          have hdiv : ∀ W, (binOp BinOp.quo 32 (.float .f64 F) (.float .f64 (p10 k))).run Tryz.prog W = .ok (.float .f64 (divP F k)) W := fun W => run_float_arith W _ _ _ _ _ _ z1
          have hk3 : (k : Int) < 23 := by omega
          have hk4 : (-(k : Int)) < 0 := by omega
          clear HS z1 z2 q3
          generalize p10 k = t2 at *
          go_enter Tryz.func73, Tryz.ntmps73
          go_wp2_with fail
          go_ret2
          rw [HE.out]
          exact ⟨rfl, rfl⟩
        · have HE : Hid (R = none) := Lib.hid (by rw [← HS.out, if_neg he0, if_neg (by omega), if_neg (by omega)])
          have hng : e < 0 := by omega
          clear HS q3
          go_enter Tryz.func73, Tryz.ntmps73
          go_wp2_with fail
          go_ret2
          rw [HE.out]
          exact ⟨⟨_, rfl⟩, rfl⟩
end Go.Proofs.YtnhdedoobagbbaaGreatDoor
