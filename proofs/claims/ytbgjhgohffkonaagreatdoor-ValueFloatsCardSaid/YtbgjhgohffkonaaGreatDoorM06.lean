/- The exact way from few digits to a float. -/
import Derived.Test.YtbgjhgohffkonaaGreatDoorFltQ
import Derived.Laws.FloatArith
import Derived.Test.YtbgjhgohffkonaaGreatDoorM03
import Derived.LaidLaws
import Derived.LaidMore
import Derived.ProofKit
import Derived.OpenShut
namespace Go.Proofs.YtbgjhgohffkonaaGreatDoor
open Go.RowKit

set_option maxRecDepth 100000 in
theorem special_any {t : ByteArray} (h0 : 0 < t.size) (hs : t.size ≤ 100000) (h1 : 48 ≤ t[0].toNat) (h2 : t[0].toNat ≤ 57) (w : World) : Calls Tryz.prog 97 #[.string t] w fun e w' => e = .returned (.tuple #[.float .f64 0, .int .i64 0, .bool false]) ∧ w = w' := by
  have n43 : ((t[0].toNat : Int) == 43) = false := by simp; omega
  have n45 : ((t[0].toNat : Int) == 45) = false := by simp; omega
  have n105 : ((t[0].toNat : Int) == 105) = false := by simp; omega
  have n73 : ((t[0].toNat : Int) == 73) = false := by simp; omega
  have n110 : ((t[0].toNat : Int) == 110) = false := by simp; omega
  have n78 : ((t[0].toNat : Int) == 78) = false := by simp; omega
  have hne : ¬ (t = ByteArray.empty) := by rintro rfl; exact absurd h0 (by decide)
  go_enter Tryz.func97, Tryz.ntmps97
  go_wp2_with fail
  go_ret3
  exact ⟨rfl, rfl⟩
def p10L : List Nat := [4607182418800017408, 4621819117588971520, 4636737291354636288, 4652007308841189376, 4666723172467343360, 4681608360884174848, 4696837146684686336, 4711630319722168320, 4726483295884279808, 4741671816366391296, 4756540486875873280, 4771362005757984768, 4786511204640096256, 4801453603149578240, 4816244402031689728, 4831355200913801216, 4846369599423283200, 4861130398305394688, 4876203697187506176, 4891288408196988160, 4906019910204099648, 4921056587992461136, 4936209963552724370]
def p10 (k : Nat) : Nat := p10L[k]?.getD 0
def numB : Ieee.Datum → Bool | .number false m _ => m != 0 | _ => false
theorem p10_num {k : Nat} (h : k < 23) : ∃ m p, F64.read (p10 k) = .number false m p ∧ m ≠ 0 := by
  have hall : ∀ k : Fin 23, numB (F64.read (p10 k.val)) = true := by decide +kernel
  have := hall ⟨k, h⟩
  simp only at this
  revert this
  cases F64.read (p10 k) with
  | number s m p =>
    cases s
    · intro h; exact ⟨m, p, rfl, by simpa [numB] using h⟩
    · intro h; cases h
  | infinity s => intro h; cases h
  | nan s f => intro h; cases h
def mulP (f k : Nat) : Nat := (F64.mul f (p10 k)).getD 0
def divP (f k : Nat) : Nat := (F64.div f (p10 k)).getD 0
theorem mulP_is {f k : Nat} (h : Fin' f) (hk : k < 23) : FloatKind.f64.format.mul f (p10 k) = some (mulP f k) ∧ Fin' (mulP f k) := by
  obtain ⟨m, p, hr, hm⟩ := p10_num hk
  obtain ⟨r, h1, h2⟩ := mul_fin h hr hm
  unfold mulP
  rw [h1]
  exact ⟨rfl, h2⟩
theorem divP_is {f k : Nat} (h : Fin' f) (hk : k < 23) : FloatKind.f64.format.div f (p10 k) = some (divP f k) ∧ Fin' (divP f k) := by
  obtain ⟨m, p, hr, hm⟩ := p10_num hk
  obtain ⟨r, h1, h2⟩ := div_fin h hr hm
  unfold divP
  rw [h1]
  exact ⟨rfl, h2⟩
def exF (m : Nat) : Nat := floatOfInt .f64 (m : Int)
theorem exF_fin (m : Nat) : Fin' (exF m) := by
  unfold exF floatOfInt
  have : decide ((m : Int) < 0) = false := by simp
  change Fin' (F64.write (.number (decide ((m : Int) < 0)) (m : Int).natAbs 0))
  rw [this]
  exact write_fin (Or.inl ⟨_, _, rfl⟩)
/-- An integer of the float, times a power of ten. -/
def exM (f k : Nat) : Option Nat :=
  if (FloatKind.f64.format.order f 4831355200913801216 == some .gt) = true then none
  else if (FloatKind.f64.format.order f 14054727237768577024 == some .lt) = true then none
  else some (mulP f k)
def exR (m : Nat) (e : Int) : Option Nat :=
  if 4503599627370496 ≤ m then none
  else if e = 0 then some (exF m)
  else if 0 < e ∧ e ≤ 37 then (if 22 < e then exM (mulP (exF m) (e - 22).toNat) 22 else exM (exF m) e.toNat)
  else if e < 0 ∧ -22 ≤ e then some (divP (exF m) (-e).toNat)
  else none
def ExPost (r : Option Nat) (w : World) (en : Ending) (w' : World) : Prop :=
  (match r with
  | some x => en = .returned (.tuple #[.float .f64 x, .bool true])
  | none => ∃ x, en = .returned (.tuple #[.float .f64 x, .bool false])) ∧ w' = w
/-- What the package variables hold that the exact way looks at. -/
def P10G (B : Nat) (w : World) : Prop := 10 < B ∧ ∃ b o c : Nat, b < B ∧ w.cell? ⟨10, 0, none⟩ = some (.slice (some ⟨b, o, none⟩) 23 c) ∧ ∀ k : Nat, k < 23 → w.cell? ⟨b, o + k, none⟩ = some (.float .f64 (p10 k))
theorem P10G.keeps {B B' : Nat} {w w' : World} (hB : B ≤ B') (hb : Below B' w w') (h : P10G B w) : P10G B w' := by
  obtain ⟨h0, b, o, c, h1, h2, h3⟩ := h
  refine ⟨h0, b, o, c, h1, ?_, fun k hk => ?_⟩
  · rw [hb.cell (show (10 : Nat) < B' by omega)]; exact h2
  · rw [hb.cell (show b < B' by omega)]; exact h3 k hk
set_option maxHeartbeats 1000000 in
set_option maxRecDepth 100000 in
theorem exact_any {B : Nat} {w : World} (hP : P10G B w) (hM : w.cell? ⟨6, 0, none⟩ = some (.int .u64 52)) {m : Nat} (hm : m < 18446744073709551616) {e : Int} (h1 : -1000000 ≤ e) (h2 : e ≤ 1000000) :
    Calls Tryz.prog 108 #[.int .u64 m, .int .i64 e, .bool false] w fun en w' => ExPost (exR m e) w en w' := by
  obtain ⟨R, hR⟩ : ∃ R, exR m e = R := ⟨_, rfl⟩
  have HR := Lib.hid hR
  rw [hR]
  clear hR
  obtain ⟨_, b, o, c, _, q2, q3⟩ := hP
  have hsh : (m : Int) / 4503599627370496 = ((m / 4503599627370496 : Nat) : Int) := by omega
  obtain ⟨F, hF⟩ : ∃ F, exF m = F := ⟨_, rfl⟩
  have hFF : Fin' F := hF ▸ exF_fin m
  have f0 : floatOfInt FloatKind.f64 (m : Int) = F := hF
  by_cases hbig : 4503599627370496 ≤ m
  · have HE : Hid (R = none) := Lib.hid (by rw [← HR.out]; unfold exR; rw [if_pos hbig])
    have hz : (((m / 4503599627370496 : Nat) : Int) != 0) = true := by simp; omega
    clear HR q3 hF
    generalize m / 4503599627370496 = m2 at *
    go_enter Tryz.func108, Tryz.ntmps108
    go_wp2_with fail
    go_ret2
    rw [HE.out]
    exact ⟨⟨_, rfl⟩, rfl⟩
  · have hz : (((m / 4503599627370496 : Nat) : Int) != 0) = false := by simp; omega
    have HS : Hid ((if e = 0 then some F else if 0 < e ∧ e ≤ 37 then (if 22 < e then exM (mulP F (e - 22).toNat) 22 else exM F e.toNat) else if e < 0 ∧ -22 ≤ e then some (divP F (-e).toNat) else none) = R) := Lib.hid (by
      rw [← HR.out]; unfold exR; rw [if_neg hbig, hF])
    clear HR hF hbig
    generalize m / 4503599627370496 = m2 at *
    by_cases he0 : e = 0
    · subst he0
      have HE : Hid (R = some F) := Lib.hid (by rw [← HS.out, if_pos rfl])
      clear HS q3
      go_enter Tryz.func108, Tryz.ntmps108
      go_wp2_with fail
      go_ret2
      rw [HE.out]
      exact ⟨rfl, rfl⟩
    · have hez : (e == 0) = false := by simpa using he0
      by_cases hpos : 0 < e
      · by_cases h37 : e ≤ 37
        · by_cases h22 : 22 < e
          · obtain ⟨k, hk⟩ : ∃ k : Nat, e = (k : Int) + 22 := ⟨(e - 22).toNat, by omega⟩
            subst hk
            obtain ⟨y1, y2⟩ := mulP_is hFF (k := k) (by omega)
            have HE0 : Hid (exM (mulP F k) 22 = R) := Lib.hid (by
              rw [← HS.out, if_neg he0, if_pos ⟨hpos, h37⟩, if_pos h22, show ((k : Int) + 22 - 22).toNat = k by omega])
            have c1 := q3 k (by omega)
            have c2 := q3 22 (by omega)
            have hmul : ∀ W, (binOp BinOp.mul 24 (.float .f64 F) (.float .f64 (p10 k))).run Tryz.prog W = .ok (.float .f64 (mulP F k)) W := fun W => run_float_arith W _ _ _ _ _ _ y1
            obtain ⟨G, hG⟩ : ∃ G, mulP F k = G := ⟨_, rfl⟩
            rw [hG] at y2 hmul HE0
            obtain ⟨z1, z2⟩ := mulP_is y2 (k := 22) (by omega)
            have hmul2 : ∀ W, (binOp BinOp.mul 24 (.float .f64 G) (.float .f64 (p10 22))).run Tryz.prog W = .ok (.float .f64 (mulP G 22)) W := fun W => run_float_arith W _ _ _ _ _ _ z1
            have hk1 : (k : Int) < 23 := by omega
            have hk2 : (22 : Int) < (k : Int) + 22 := by omega
            clear HS y1 z1 z2 hG q3
            generalize p10 k = t1 at *
            generalize p10 22 = t2 at *
            by_cases o1 : (FloatKind.f64.format.order G 4831355200913801216 == some .gt) = true
            · have HE : Hid (R = none) := Lib.hid (by rw [← HE0.out]; unfold exM; rw [if_pos o1])
              clear HE0
              go_enter Tryz.func108, Tryz.ntmps108
              go_wp2_with fail
              go_ret2
              rw [HE.out]
              exact ⟨⟨_, rfl⟩, rfl⟩
            · have o1' : (FloatKind.f64.format.order G 4831355200913801216 == some .gt) = false := by simpa using o1
              by_cases o2 : (FloatKind.f64.format.order G 14054727237768577024 == some .lt) = true
              · have HE : Hid (R = none) := Lib.hid (by rw [← HE0.out]; unfold exM; rw [if_neg o1, if_pos o2])
                clear HE0 o1
                go_enter Tryz.func108, Tryz.ntmps108
                go_wp2_with fail
                go_ret2
                rw [HE.out]
                exact ⟨⟨_, rfl⟩, rfl⟩
              · have o2' : (FloatKind.f64.format.order G 14054727237768577024 == some .lt) = false := by simpa using o2
                have HE : Hid (R = some (mulP G 22)) := Lib.hid (by rw [← HE0.out]; unfold exM; rw [if_neg o1, if_neg o2])
                clear HE0 o1 o2
                go_enter Tryz.func108, Tryz.ntmps108
                go_wp2_with fail
                go_ret2
                rw [HE.out]
                exact ⟨rfl, rfl⟩
          · obtain ⟨k, hk⟩ : ∃ k : Nat, e = (k : Int) := ⟨e.toNat, by omega⟩
            subst hk
            have HE0 : Hid (exM F k = R) := Lib.hid (by
              rw [← HS.out, if_neg he0, if_pos ⟨hpos, h37⟩, if_neg h22, Int.toNat_natCast])
            have c2 := q3 k (by omega)
            obtain ⟨z1, z2⟩ := mulP_is hFF (k := k) (by omega)
            have hmul2 : ∀ W, (binOp BinOp.mul 24 (.float .f64 F) (.float .f64 (p10 k))).run Tryz.prog W = .ok (.float .f64 (mulP F k)) W := fun W => run_float_arith W _ _ _ _ _ _ z1
            have hk2 : ¬ ((22 : Int) < (k : Int)) := by omega
            have hk3 : (k : Int) < 23 := by omega
            clear HS z1 z2 q3
            generalize p10 k = t2 at *
            by_cases o1 : (FloatKind.f64.format.order F 4831355200913801216 == some .gt) = true
            · have HE : Hid (R = none) := Lib.hid (by rw [← HE0.out]; unfold exM; rw [if_pos o1])
              clear HE0
              go_enter Tryz.func108, Tryz.ntmps108
              go_wp2_with fail
              go_ret2
              rw [HE.out]
              exact ⟨⟨_, rfl⟩, rfl⟩
            · have o1' : (FloatKind.f64.format.order F 4831355200913801216 == some .gt) = false := by simpa using o1
              by_cases o2 : (FloatKind.f64.format.order F 14054727237768577024 == some .lt) = true
              · have HE : Hid (R = none) := Lib.hid (by rw [← HE0.out]; unfold exM; rw [if_neg o1, if_pos o2])
                clear HE0 o1
                go_enter Tryz.func108, Tryz.ntmps108
                go_wp2_with fail
                go_ret2
                rw [HE.out]
                exact ⟨⟨_, rfl⟩, rfl⟩
              · have o2' : (FloatKind.f64.format.order F 14054727237768577024 == some .lt) = false := by simpa using o2
                have HE : Hid (R = some (mulP F k)) := Lib.hid (by rw [← HE0.out]; unfold exM; rw [if_neg o1, if_neg o2])
                clear HE0 o1 o2
                go_enter Tryz.func108, Tryz.ntmps108
                go_wp2_with fail
                go_ret2
                rw [HE.out]
                exact ⟨rfl, rfl⟩
        · have HE : Hid (R = none) := Lib.hid (by rw [← HS.out, if_neg he0, if_neg (by omega), if_neg (by omega)])
          clear HS q3
          go_enter Tryz.func108, Tryz.ntmps108
          go_wp2_with fail
          go_ret2
          rw [HE.out]
          exact ⟨⟨_, rfl⟩, rfl⟩
      · by_cases h22 : -22 ≤ e
        · obtain ⟨k, hk⟩ : ∃ k : Nat, e = -(k : Int) := ⟨(-e).toNat, by omega⟩
          subst hk
          have HE : Hid (R = some (divP F k)) := Lib.hid (by
            rw [← HS.out, if_neg he0, if_neg (by omega), if_pos ⟨by omega, h22⟩, show (-(-(k : Int))).toNat = k by omega])
          have c2 := q3 k (by omega)
          obtain ⟨z1, z2⟩ := divP_is hFF (k := k) (by omega)
          have hdiv : ∀ W, (binOp BinOp.quo 24 (.float .f64 F) (.float .f64 (p10 k))).run Tryz.prog W = .ok (.float .f64 (divP F k)) W := fun W => run_float_arith W _ _ _ _ _ _ z1
          have hk3 : (k : Int) < 23 := by omega
          have hk4 : (-(k : Int)) < 0 := by omega
          clear HS z1 z2 q3
          generalize p10 k = t2 at *
          go_enter Tryz.func108, Tryz.ntmps108
          go_wp2_with fail
          go_ret2
          rw [HE.out]
          exact ⟨rfl, rfl⟩
        · have HE : Hid (R = none) := Lib.hid (by rw [← HS.out, if_neg he0, if_neg (by omega), if_neg (by omega)])
          have hng : e < 0 := by omega
          clear HS q3
          go_enter Tryz.func108, Tryz.ntmps108
          go_wp2_with fail
          go_ret2
          rw [HE.out]
          exact ⟨⟨_, rfl⟩, rfl⟩
end Go.Proofs.YtbgjhgohffkonaaGreatDoor

/- What the premise on the package-level variables gives, of all tables that the reader of floats looks at. -/
namespace Go.Proofs.YtbgjhgohffkonaaGreatDoor
open Go.ChangeShapes Go.WideShapes Go.ChangeAt Go.RowKit

section
variable {enc : TypeId × Value → Unit} {w : World} {sp : Nat → Bool} {fuel : Nat} {cs : List Value} {p : List MemPlace}
theorem ga_lit {t : TypeId} {k : IntKind} {n : Int} (ht : Tryz.prog.underlying t = some (.int k)) (h : DataW.trod enc Tryz.prog w 0 sp false fuel t cs = some (.lit (.int k n), p)) : cs = [.int k n] := by
  obtain ⟨v, e, k0, _⟩ := DataW.trod_int ht h
  have := congrArg Prod.fst k0
  simp at this
  subst this
  exact e
theorem ga_bool {t : TypeId} {b : Bool} (ht : Tryz.prog.underlying t = some .bool) (h : DataW.trod enc Tryz.prog w 0 sp false fuel t cs = some (.lit (.bool b), p)) : cs = [.bool b] := by
  obtain ⟨v, e, k0⟩ := DataW.trod_bool ht h
  have := congrArg Prod.fst k0
  simp at this
  subst this
  exact e
set_option maxRecDepth 100000 in
theorem ga_flt {b : Nat} (h : DataW.trod enc Tryz.prog w 0 sp false fuel 24 cs = some (.lit (.float .f64 b), p)) : cs = [.float .f64 b] := by
  have ht := Tryz.underlying24
  cases fuel with
  | zero => simp [DataW.trod] at h
  | succ fuel =>
    match cs with
    | [] => simp [DataW.trod, ht] at h
    | _ :: _ :: _ => simp [DataW.trod, ht] at h
    | [c] =>
      cases c <;> simp [DataW.trod, ht] at h
      obtain ⟨⟨rfl, _⟩, rfl, _⟩ := h
      rfl
theorem ga_one {l : List Value} {i : Nat} {v : Value} (h : (l.drop i).take 1 = [v]) : l[i]? = some v := by
  have := congrArg (·[0]?) h
  simpa [List.getElem?_take, List.getElem?_drop] using this
theorem ga_types : Tryz.prog.cellsOf 224 = 2 ∧ Tryz.prog.cellsOf 22 = 1 ∧ Tryz.prog.cellsOf 228 = 2 ∧ Tryz.prog.cellsOf 3 = 1 ∧ Tryz.prog.cellsOf 9 = 1 ∧ Tryz.prog.cellsOf 116 = 1 := ⟨by kernel_rfl, by kernel_rfl, by kernel_rfl, by kernel_rfl, by kernel_rfl, by kernel_rfl⟩
theorem ga_rows : (Go.Pinned.pow10Rows).length = 696 := by kernel_rfl
/-- The table of powers of ten. -/
theorem ga_pow (h : DataW.trod enc Tryz.prog w 0 sp false fuel 225 cs = some (Go.Pinned.pow10Tab, p)) {i : Nat} (hi : i < 696) :
    cs[i * 2]? = some (.int .u64 (pwR i).1) ∧ cs[i * 2 + 1]? = some (.int .u64 (pwR i).2) := by
  obtain ⟨xs, m, _, hx, _, hxl, hel⟩ := DataW.trod_array Tryz.underlying225 h
  have h1 := congrArg Prod.fst hx
  simp only [Go.Pinned.pow10Tab, DataW.agg.injEq] at h1
  obtain ⟨r, hr⟩ : ∃ r, (Go.Pinned.pow10Rows)[i]? = some r := get_lt _ (by rw [ga_rows]; exact hi)
  have hpw : pwR i = r := by unfold pwR; rw [hr]; rfl
  have h2 : (xs.map (·.1))[i]? = some (.agg [.lit (.int .u64 r.1), .lit (.int .u64 r.2)]) := by
    rw [← h1, List.getElem?_map, hr]
    rfl
  rw [hpw]
  rw [List.getElem?_map] at h2
  have h3 := hel i hi
  cases hy : xs[i]? with
  | none => rw [hy] at h2; cases h2
  | some y =>
    obtain ⟨y1, y2⟩ := y
    rw [hy] at h2 h3
    have hy1 : y1 = .agg [.lit (.int .u64 r.1), .lit (.int .u64 r.2)] := Option.some.inj h2
    subst hy1
    rw [ga_types.1] at h3
    obtain ⟨zs, n, _, hz, _, hzl, hf⟩ := DataW.trod_struct Tryz.underlying224 h3
    match zs, hzl with
    | [z0, z1], _ =>
      obtain ⟨z0a, z0p⟩ := z0
      obtain ⟨z1a, z1p⟩ := z1
      have h4 := congrArg Prod.fst hz
      simp at h4
      obtain ⟨rfl, rfl⟩ := h4
      have e0 : (((cs.drop (i * 2)).take 2).drop 0).take (Tryz.prog.cellsOf 22) = [.int .u64 r.1] := ga_lit Tryz.underlying22 (hf 0 _ rfl)
      have e1 : (((cs.drop (i * 2)).take 2).drop 1).take (Tryz.prog.cellsOf 22) = [.int .u64 r.2] := ga_lit Tryz.underlying22 (hf 1 _ rfl)
      rw [ga_types.2.1] at e0 e1
      have g0 := ga_one e0
      have g1 := ga_one e1
      simp [List.getElem?_drop] at g0 g1
      exact ⟨g0, g1⟩
theorem ga_add (a : Addr) (ha : a.spot = none) (n : Nat) : a.add n = ⟨a.block, a.off + n, none⟩ := by
  obtain ⟨b, o, s⟩ := a
  cases ha
  unfold Addr.add
  split <;> simp_all
theorem ga_row {t e : TypeId} {ds : List (DataW Unit)} {m : Nat} {v : Nat → Value} (ht : Tryz.prog.underlying t = some (.slice e)) (hc : Tryz.prog.cellsOf e = 1) (hm : 0 < m) (hds : ds.length = m)
    (hv : ∀ (i : Nat) (x : DataW Unit) (fuel : Nat) (cs : List Value) (q : List MemPlace), ds[i]? = some x → DataW.trod enc Tryz.prog w 0 sp false fuel e cs = some (x, q) → cs = [v i])
    (h : DataW.trod enc Tryz.prog w 0 sp false fuel t cs = some (.slice ds [], p)) : ∃ b o c : Nat, cs = [.slice (some ⟨b, o, none⟩) m c] ∧ ∀ k, k < m → w.cell? ⟨b, o + k, none⟩ = some (v k) := by
  obtain ⟨a, cap, hcs, _, hel⟩ := open_row ht hc h
  have key : ∀ k, k < m → w.cell? (a.add k) = some (v k) := by
    intro k hk
    obtain ⟨x, hx⟩ := get_lt ds (k := k) (by omega)
    obtain ⟨u, n, q, hcell, ht⟩ := hel k x hx
    have := hv k x _ _ _ hx ht
    cases this
    exact hcell
  have hsp : a.spot = none := by
    have := World.cell?_spot (key 0 hm)
    simpa [Addr.add] using this
  refine ⟨a.block, a.off, cap, ?_, fun k hk => ?_⟩
  · rw [hcs, hds]
    obtain ⟨b, o, s⟩ := a
    cases hsp
    rfl
  · have := key k hk
    rw [ga_add a hsp] at this
    exact this
theorem ga_info {a b : Int} {c : Int} (h : DataW.trod enc Tryz.prog w 0 sp false fuel 145 cs = some (.agg [.lit (.int .u64 a), .lit (.int .u64 b), .lit (.int .i64 c)], p)) :
    cs[0]? = some (.int .u64 a) ∧ cs[1]? = some (.int .u64 b) ∧ cs[2]? = some (.int .i64 c) := by
  obtain ⟨zs, n, _, hz, _, hzl, hf⟩ := DataW.trod_struct Tryz.underlying145 h
  match zs, hzl with
  | [z0, z1, z2], _ =>
    obtain ⟨z0a, z0p⟩ := z0
    obtain ⟨z1a, z1p⟩ := z1
    obtain ⟨z2a, z2p⟩ := z2
    have h4 := congrArg Prod.fst hz
    simp at h4
    obtain ⟨rfl, rfl, rfl⟩ := h4
    have e0 : ((cs.drop 0).take (Tryz.prog.cellsOf 116)) = [.int .u64 a] := ga_lit Tryz.underlying116 (hf 0 _ rfl)
    have e1 : ((cs.drop 1).take (Tryz.prog.cellsOf 116)) = [.int .u64 b] := ga_lit Tryz.underlying116 (hf 1 _ rfl)
    have e2 : ((cs.drop 2).take (Tryz.prog.cellsOf 3)) = [.int .i64 c] := ga_lit Tryz.underlying3 (hf 2 _ rfl)
    rw [ga_types.2.2.2.2.2] at e0 e1
    rw [ga_types.2.2.2.1] at e2
    exact ⟨ga_one e0, ga_one e1, ga_one e2⟩
end
theorem ga_lt {w : World} {a : Addr} {v : Value} (h : w.cell? a = some v) : a.block < w.heap.size := by
  rcases Nat.lt_or_ge a.block w.heap.size with h2 | h2
  · exact h2
  · rw [World.cell?, Array.getElem?_eq_none h2] at h
    cases h
end Go.Proofs.YtbgjhgohffkonaaGreatDoor

