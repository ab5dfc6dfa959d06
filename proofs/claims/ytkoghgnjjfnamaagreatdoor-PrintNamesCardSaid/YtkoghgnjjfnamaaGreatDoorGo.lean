/- Go: what is used of them. -/
import Derived.Test.YtkoghgnjjfnamaaGreatDoorGl
import Derived.Test.YtkoghgnjjfnamaaGreatDoorGn
import Derived.Laws.FloatArith
namespace Go.Proofs.YtkoghgnjjfnamaaGreatDoor
set_option maxRecDepth 100000
set_option maxHeartbeats 1000000
open Go.RowKit
theorem special_any {t : ByteArray} (h0 : 0 < t.size) (hs : t.size ≤ 100000) (h1 : 48 ≤ t[0].toNat) (h2 : t[0].toNat ≤ 57) (w : World) : Calls Tryz.prog 152 #[.string t] w fun e w' => e = .returned (.tuple #[.float .f64 0, .int .i64 0, .bool false]) ∧ w = w' := by
 have n43 : ((t[0].toNat : Int) == 43) = false := by simp; omega
 have n45 : ((t[0].toNat : Int) == 45) = false := by simp; omega
 have n105 : ((t[0].toNat : Int) == 105) = false := by simp; omega
 have n73 : ((t[0].toNat : Int) == 73) = false := by simp; omega
 have n110 : ((t[0].toNat : Int) == 110) = false := by simp; omega
 have n78 : ((t[0].toNat : Int) == 78) = false := by simp; omega
 have hne : ¬ (t = ByteArray.empty) := by rintro rfl; exact absurd h0 (by decide)
 go_enter Tryz.func152, Tryz.ntmps152
 go_wp2_with fail; go_ret3; exact ⟨rfl, rfl⟩
def p10L : List Nat := [4607182418800017408, 4621819117588971520, 4636737291354636288, 4652007308841189376, 4666723172467343360, 4681608360884174848, 4696837146684686336, 4711630319722168320, 4726483295884279808, 4741671816366391296, 4756540486875873280, 4771362005757984768, 4786511204640096256, 4801453603149578240, 4816244402031689728, 4831355200913801216, 4846369599423283200, 4861130398305394688, 4876203697187506176, 4891288408196988160, 4906019910204099648, 4921056587992461136, 4936209963552724370]
def p10 (k : Nat) : Nat := p10L[k]?.getD 0
def numB : Ieee.Datum → Bool | .number false m _ => m != 0 | _ => false
theorem p10_num {k : Nat} (h : k < 23) : ∃ m p, F64.read (p10 k) = .number false m p ∧ m ≠ 0 := by
 have hall : ∀ k : Fin 23, numB (F64.read (p10 k.val)) = true := by decide +kernel
 have := hall ⟨k, h⟩; simp only at this; revert this
 cases F64.read (p10 k) with
 | number s m p =>
   cases s
   · intro h; exact ⟨m, p, rfl, by simpa [numB] using h⟩
   · intro h; cases h
 | infinity s => intro h; cases h
 | nan s f => intro h; cases h
def mulP (f k : Nat) : Nat := (F64.mul f (p10 k)).getD 0
def divP (f k : Nat) : Nat := (F64.div f (p10 k)).getD 0
theorem mulP_is {f k : Nat} (h : Fin' f) (hk : k < 23) : FloatKind.f64.format.mul f (p10 k) = some (mulP f k) ∧ Fin' (mulP f k) := by
 obtain ⟨m, p, hr, hm⟩ := p10_num hk; obtain ⟨r, h1, h2⟩ := mul_fin h hr hm; unfold mulP; rw [h1]; exact ⟨rfl, h2⟩
theorem divP_is {f k : Nat} (h : Fin' f) (hk : k < 23) : FloatKind.f64.format.div f (p10 k) = some (divP f k) ∧ Fin' (divP f k) := by
 obtain ⟨m, p, hr, hm⟩ := p10_num hk; obtain ⟨r, h1, h2⟩ := div_fin h hr hm; unfold divP; rw [h1]; exact ⟨rfl, h2⟩
def exF (m : Nat) : Nat := floatOfInt .f64 (m : Int)
theorem exF_fin (m : Nat) : Fin' (exF m) := by
 unfold exF floatOfInt; have : decide ((m : Int) < 0) = false := by simp
 change Fin' (F64.write (.number (decide ((m : Int) < 0)) (m : Int).natAbs 0)); rw [this]; exact write_fin (Or.inl ⟨_, _, rfl⟩)
def exM (f k : Nat) : Option Nat :=
 if (FloatKind.f64.format.order f 4831355200913801216 == some .gt) = true then none
 else if (FloatKind.f64.format.order f 14054727237768577024 == some .lt) = true then none
 else some (mulP f k)
def exR (m : Nat) (e : Int) : Option Nat :=
 if 4503599627370496 ≤ m then none
 else if e = 0 then some (exF m)
 else if 0 < e ∧ e ≤ 37 then (if 22 < e then exM (mulP (exF m) (e - 22).toNat) 22 else exM (exF m) e.toNat)
 else if e < 0 ∧ -22 ≤ e then some (divP (exF m) (-e).toNat)
 else none
def ExPost (r : Option Nat) (w : World) (en : Ending) (w' : World) : Prop :=
 (match r with
 | some x => en = .returned (.tuple #[.float .f64 x, .bool true])
 | none => ∃ x, en = .returned (.tuple #[.float .f64 x, .bool false])) ∧ w' = w
def P10G (B : Nat) (w : World) : Prop := 12 < B ∧ ∃ b o c : Nat, b < B ∧ w.cell? ⟨12, 0, none⟩ = some (.slice (some ⟨b, o, none⟩) 23 c) ∧ ∀ k : Nat, k < 23 → w.cell? ⟨b, o + k, none⟩ = some (.float .f64 (p10 k))
theorem P10G.keeps {B B' : Nat} {w w' : World} (hB : B ≤ B') (hb : Below B' w w') (h : P10G B w) : P10G B w' := by
 obtain ⟨h0, b, o, c, h1, h2, h3⟩ := h; refine ⟨h0, b, o, c, h1, ?_, fun k hk => ?_⟩
 · rw [hb.cell (show (12 : Nat) < B' by omega)]; exact h2
 · rw [hb.cell (show b < B' by omega)]; exact h3 k hk
theorem exact_any {B : Nat} {w : World} (hP : P10G B w) (hM : w.cell? ⟨7, 0, none⟩ = some (.int .u64 52)) {m : Nat} (hm : m < 18446744073709551616) {e : Int} (h1 : -1000000 ≤ e) (h2 : e ≤ 1000000) :
 Calls Tryz.prog 163 #[.int .u64 m, .int .i64 e, .bool false] w fun en w' => ExPost (exR m e) w en w' := by
 obtain ⟨R, hR⟩ : ∃ R, exR m e = R := ⟨_, rfl⟩; have HR := Lib.hid hR; rw [hR]; clear hR; obtain ⟨_, b, o, c, _, q2, q3⟩ := hP; have hsh : (m : Int) / 4503599627370496 = ((m / 4503599627370496 : Nat) : Int) := by omega
 obtain ⟨F, hF⟩ : ∃ F, exF m = F := ⟨_, rfl⟩; have hFF : Fin' F := hF ▸ exF_fin m; have f0 : floatOfInt FloatKind.f64 (m : Int) = F := hF; by_cases hbig : 4503599627370496 ≤ m
 · have HE : Hid (R = none) := Lib.hid (by rw [← HR.out]; unfold exR; rw [if_pos hbig])
   have hz : (((m / 4503599627370496 : Nat) : Int) != 0) = true := by simp; omega
   clear HR q3 hF; generalize m / 4503599627370496 = m2 at *; go_enter Tryz.func163, Tryz.ntmps163
   go_wp2_with fail; go_ret2; rw [HE.out]; exact ⟨⟨_, rfl⟩, rfl⟩
 · have hz : (((m / 4503599627370496 : Nat) : Int) != 0) = false := by simp; omega
   have HS : Hid ((if e = 0 then some F else if 0 < e ∧ e ≤ 37 then (if 22 < e then exM (mulP F (e - 22).toNat) 22 else exM F e.toNat) else if e < 0 ∧ -22 ≤ e then some (divP F (-e).toNat) else none) = R) := Lib.hid (by
    rw [← HR.out]; unfold exR; rw [if_neg hbig, hF])
   clear HR hF hbig; generalize m / 4503599627370496 = m2 at *; by_cases he0 : e = 0
   · subst he0
     have HE : Hid (R = some F) := Lib.hid (by rw [← HS.out, if_pos rfl]); clear HS q3; go_enter Tryz.func163, Tryz.ntmps163
     go_wp2_with fail; go_ret2; rw [HE.out]; exact ⟨rfl, rfl⟩
   · have hez : (e == 0) = false := by simpa using he0
     by_cases hpos : 0 < e
     · by_cases h37 : e ≤ 37
       · by_cases h22 : 22 < e
         · obtain ⟨k, hk⟩ : ∃ k : Nat, e = (k : Int) + 22 := ⟨(e - 22).toNat, by omega⟩
           subst hk; obtain ⟨y1, y2⟩ := mulP_is hFF (k := k) (by omega); have HE0 : Hid (exM (mulP F k) 22 = R) := Lib.hid (by
            rw [← HS.out, if_neg he0, if_pos ⟨hpos, h37⟩, if_pos h22, show ((k : Int) + 22 - 22).toNat = k by omega])
           have c1 := q3 k (by omega); have c2 := q3 22 (by omega); have hmul : ∀ W, (binOp BinOp.mul 33 (.float .f64 F) (.float .f64 (p10 k))).run Tryz.prog W = .ok (.float .f64 (mulP F k)) W := fun W => run_float_arith W _ _ _ _ _ _ y1
           obtain ⟨G, hG⟩ : ∃ G, mulP F k = G := ⟨_, rfl⟩; rw [hG] at y2 hmul HE0; obtain ⟨z1, z2⟩ := mulP_is y2 (k := 22) (by omega); have hmul2 : ∀ W, (binOp BinOp.mul 33 (.float .f64 G) (.float .f64 (p10 22))).run Tryz.prog W = .ok (.float .f64 (mulP G 22)) W := fun W => run_float_arith W _ _ _ _ _ _ z1
           have hk1 : (k : Int) < 23 := by omega
           have hk2 : (22 : Int) < (k : Int) + 22 := by omega
           clear HS y1 z1 z2 hG q3; generalize p10 k = t1 at *; generalize p10 22 = t2 at *; by_cases o1 : (FloatKind.f64.format.order G 4831355200913801216 == some .gt) = true
           · have HE : Hid (R = none) := Lib.hid (by rw [← HE0.out]; unfold exM; rw [if_pos o1])
             clear HE0; go_enter Tryz.func163, Tryz.ntmps163
             go_wp2_with fail; go_ret2; rw [HE.out]; exact ⟨⟨_, rfl⟩, rfl⟩
           · have o1' : (FloatKind.f64.format.order G 4831355200913801216 == some .gt) = false := by simpa using o1
             by_cases o2 : (FloatKind.f64.format.order G 14054727237768577024 == some .lt) = true
             · have HE : Hid (R = none) := Lib.hid (by rw [← HE0.out]; unfold exM; rw [if_neg o1, if_pos o2])
               clear HE0 o1; go_enter Tryz.func163, Tryz.ntmps163
               go_wp2_with fail; go_ret2; rw [HE.out]; exact ⟨⟨_, rfl⟩, rfl⟩
             · have o2' : (FloatKind.f64.format.order G 14054727237768577024 == some .lt) = false := by simpa using o2
               have HE : Hid (R = some (mulP G 22)) := Lib.hid (by rw [← HE0.out]; unfold exM; rw [if_neg o1, if_neg o2]); clear HE0 o1 o2; go_enter Tryz.func163, Tryz.ntmps163
               go_wp2_with fail; go_ret2; rw [HE.out]; exact ⟨rfl, rfl⟩
         · obtain ⟨k, hk⟩ : ∃ k : Nat, e = (k : Int) := ⟨e.toNat, by omega⟩
           subst hk; have HE0 : Hid (exM F k = R) := Lib.hid (by
            rw [← HS.out, if_neg he0, if_pos ⟨hpos, h37⟩, if_neg h22, Int.toNat_natCast])
           have c2 := q3 k (by omega); obtain ⟨z1, z2⟩ := mulP_is hFF (k := k) (by omega); have hmul2 : ∀ W, (binOp BinOp.mul 33 (.float .f64 F) (.float .f64 (p10 k))).run Tryz.prog W = .ok (.float .f64 (mulP F k)) W := fun W => run_float_arith W _ _ _ _ _ _ z1
           have hk2 : ¬ ((22 : Int) < (k : Int)) := by omega
           have hk3 : (k : Int) < 23 := by omega
           clear HS z1 z2 q3; generalize p10 k = t2 at *; by_cases o1 : (FloatKind.f64.format.order F 4831355200913801216 == some .gt) = true
           · have HE : Hid (R = none) := Lib.hid (by rw [← HE0.out]; unfold exM; rw [if_pos o1])
             clear HE0; go_enter Tryz.func163, Tryz.ntmps163
             go_wp2_with fail; go_ret2; rw [HE.out]; exact ⟨⟨_, rfl⟩, rfl⟩
           · have o1' : (FloatKind.f64.format.order F 4831355200913801216 == some .gt) = false := by simpa using o1
             by_cases o2 : (FloatKind.f64.format.order F 14054727237768577024 == some .lt) = true
             · have HE : Hid (R = none) := Lib.hid (by rw [← HE0.out]; unfold exM; rw [if_neg o1, if_pos o2])
               clear HE0 o1; go_enter Tryz.func163, Tryz.ntmps163
               go_wp2_with fail; go_ret2; rw [HE.out]; exact ⟨⟨_, rfl⟩, rfl⟩
             · have o2' : (FloatKind.f64.format.order F 14054727237768577024 == some .lt) = false := by simpa using o2
               have HE : Hid (R = some (mulP F k)) := Lib.hid (by rw [← HE0.out]; unfold exM; rw [if_neg o1, if_neg o2]); clear HE0 o1 o2; go_enter Tryz.func163, Tryz.ntmps163
               go_wp2_with fail; go_ret2; rw [HE.out]; exact ⟨rfl, rfl⟩
       · have HE : Hid (R = none) := Lib.hid (by rw [← HS.out, if_neg he0, if_neg (by omega), if_neg (by omega)])
         clear HS q3; go_enter Tryz.func163, Tryz.ntmps163
         go_wp2_with fail; go_ret2; rw [HE.out]; exact ⟨⟨_, rfl⟩, rfl⟩
     · by_cases h22 : -22 ≤ e
       · obtain ⟨k, hk⟩ : ∃ k : Nat, e = -(k : Int) := ⟨(-e).toNat, by omega⟩
         subst hk; have HE : Hid (R = some (divP F k)) := Lib.hid (by
          rw [← HS.out, if_neg he0, if_neg (by omega), if_pos ⟨by omega, h22⟩, show (-(-(k : Int))).toNat = k by omega])
         have c2 := q3 k (by omega); obtain ⟨z1, z2⟩ := divP_is hFF (k := k) (by omega); have hdiv : ∀ W, (binOp BinOp.quo 33 (.float .f64 F) (.float .f64 (p10 k))).run Tryz.prog W = .ok (.float .f64 (divP F k)) W := fun W => run_float_arith W _ _ _ _ _ _ z1
         have hk3 : (k : Int) < 23 := by omega
         have hk4 : (-(k : Int)) < 0 := by omega
         clear HS z1 z2 q3; generalize p10 k = t2 at *; go_enter Tryz.func163, Tryz.ntmps163
         go_wp2_with fail; go_ret2; rw [HE.out]; exact ⟨rfl, rfl⟩
       · have HE : Hid (R = none) := Lib.hid (by rw [← HS.out, if_neg he0, if_neg (by omega), if_neg (by omega)])
         have hng : e < 0 := by omega
         clear HS q3; go_enter Tryz.func163, Tryz.ntmps163
         go_wp2_with fail; go_ret2; rw [HE.out]; exact ⟨⟨_, rfl⟩, rfl⟩
structure Shp (t : ByteArray) (p q : Nat) : Prop where
 pos : 0 < p
 lt : p + 1 < q
 le : q ≤ t.size
 small : t.size ≤ 800
 pre : ∀ i, i < p → ∃ c, bt t i = some c ∧ 48 ≤ c ∧ c ≤ 57
 dot : bt t p = some 46
 post : ∀ i, p < i → i < q → ∃ c, bt t i = some c ∧ 48 ≤ c ∧ c ≤ 57
def DigE (t : ByteArray) (r : Nat) : Prop := r < t.size ∧ ∀ i, r ≤ i → i < t.size → ∃ c, bt t i = some c ∧ 48 ≤ c ∧ c ≤ 57
def Tl (t : ByteArray) (q : Nat) (r : Nat) (s : Int) : Prop :=
 (q = t.size ∧ r = q ∧ s = 0) ∨ (q < t.size ∧ (bt t q = some 101 ∨ bt t q = some 69) ∧
  ((r = q + 1 ∧ s = 1 ∧ DigE t r) ∨ (r = q + 2 ∧ s = 1 ∧ bt t (q + 1) = some 43 ∧ DigE t r) ∨ (r = q + 2 ∧ s = -1 ∧ bt t (q + 1) = some 45 ∧ DigE t r)))
structure Rf where
 m : Nat
 nd : Nat
 ndM : Nat
 dp : Int
 dot : Bool
 digs : Bool
 tr : Bool
def rfStep (s : Rf) (c : UInt8) : Rf :=
 if c = 46 then { s with dot := true, dp := s.nd }
 else if c = 48 ∧ s.nd = 0 then { s with digs := true, dp := s.dp - 1 }
 else if s.ndM < 19 then { s with digs := true, nd := s.nd + 1, m := s.m * 10 + (c.toNat - 48), ndM := s.ndM + 1 }
 else { s with digs := true, nd := s.nd + 1, tr := s.tr || !(c == 48) }
def rfAt (t : ByteArray) : Nat → Rf
 | 0 => ⟨0, 0, 0, 0, false, false, false⟩
 | i + 1 => rfStep (rfAt t i) ((bt t i).getD 0)
def rfE (t : ByteArray) (r : Nat) : Nat → Nat
 | 0 => 0
 | k + 1 => if rfE t r k < 10000 then rfE t r k * 10 + (((bt t (r + k)).getD 48).toNat - 48) else rfE t r k
def rfX (t : ByteArray) (q r : Nat) (s : Int) : Int :=
 if (rfAt t q).m = 0 then 0 else (rfAt t q).dp + (rfE t r (t.size - r) : Nat) * s - (rfAt t q).ndM
theorem rfE_le (t : ByteArray) (r : Nat) : ∀ k, (∀ i, r ≤ i → i < r + k → ∃ c, bt t i = some c ∧ 48 ≤ c ∧ c ≤ 57) → rfE t r k ≤ 100000
 | 0, _ => by simp [rfE]
 | k + 1, h => by
   have ih := rfE_le t r k (fun i h1 h2 => h i h1 (by omega)); obtain ⟨c, hc, h1, h2⟩ := h (r + k) (by omega) (by omega); unfold rfE; rw [hc]; have h3 : c.toNat ≤ 57 := UInt8.le_iff_toNat_le.1 h2; show (if rfE t r k < 10000 then rfE t r k * 10 + (c.toNat - 48) else rfE t r k) ≤ 100000; split <;> omega
structure RfOk (t : ByteArray) (p i : Nat) (s : Rf) : Prop where
 nd_le : s.nd ≤ i
 m_le : s.ndM ≤ 19
 m_nd : s.ndM ≤ s.nd
 dp_lo : -(i : Int) ≤ s.dp
 dp_hi : s.dp ≤ (i : Int)
 m_lt : s.m < 10 ^ s.ndM
 dotted : s.dot = decide (p < i)
 some' : s.digs = decide (0 < i)
theorem rfAt_ok {t : ByteArray} {p q : Nat} (h : Shp t p q) : ∀ i, i ≤ q → RfOk t p i (rfAt t i) := by
 intro i; induction i with
 | zero =>
   intro _; exact ⟨by simp [rfAt], by simp [rfAt], by simp [rfAt], by simp [rfAt], by simp [rfAt], by simp [rfAt], by simp [rfAt], by simp [rfAt]⟩
 | succ i ih =>
   intro hi; have s := ih (by omega); by_cases hp : i = p
   · have e : rfAt t (i + 1) = { rfAt t i with dot := true, dp := (rfAt t i).nd } := by
      rw [rfAt, hp, h.dot]; show rfStep (rfAt t p) 46 = _; unfold rfStep; rw [if_pos rfl]
     rw [e]; have hpos := h.pos; exact ⟨by have := s.nd_le; show (rfAt t i).nd ≤ _; omega, s.m_le, s.m_nd, by show _ ≤ ((rfAt t i).nd : Int); omega, by have := s.nd_le; show ((rfAt t i).nd : Int) ≤ _; omega, s.m_lt, by simp; omega, by rw [s.some']; simp; omega⟩
   · obtain ⟨c, hc, h1, h2⟩ : ∃ c, bt t i = some c ∧ 48 ≤ c ∧ c ≤ 57 := by
      rcases Nat.lt_or_ge i p with hlt | hge
      · exact h.pre i hlt
      · exact h.post i (by omega) (by omega)
     have h3 : 48 ≤ c.toNat := UInt8.le_iff_toNat_le.1 h1; have h4 : c.toNat ≤ 57 := UInt8.le_iff_toNat_le.1 h2; have hne : c ≠ 46 := by intro e; subst e; exact absurd h1 (by decide)
     have hb := s.nd_le; have h5 := s.dp_lo; have h6 := s.dp_hi; have h7 := s.m_lt; have h8 := s.m_le; have h9 := s.m_nd; have hd : decide (p < i + 1) = decide (p < i) := by simp only [decide_eq_decide]; omega
     have e : rfAt t (i + 1) = rfStep (rfAt t i) c := by rw [rfAt, hc]; rfl
     rw [e]; unfold rfStep; rw [if_neg hne]; split
     · exact ⟨by show (rfAt t i).nd ≤ _; omega, h8, h9, by show _ ≤ (rfAt t i).dp - 1; omega, by show (rfAt t i).dp - 1 ≤ _; omega, h7, by rw [hd]; exact s.dotted, by simp⟩
     · split
       · rename_i hm
         refine ⟨by show (rfAt t i).nd + 1 ≤ _; omega, by show (rfAt t i).ndM + 1 ≤ _; omega, by show (rfAt t i).ndM + 1 ≤ (rfAt t i).nd + 1; omega, by show _ ≤ (rfAt t i).dp; omega, by show (rfAt t i).dp ≤ _; omega, ?_, by rw [hd]; exact s.dotted, by simp⟩; show (rfAt t i).m * 10 + (c.toNat - 48) < 10 ^ ((rfAt t i).ndM + 1); rw [Nat.pow_succ]; omega
       · exact ⟨by show (rfAt t i).nd + 1 ≤ _; omega, h8, by show (rfAt t i).ndM ≤ (rfAt t i).nd + 1; omega, by show _ ≤ (rfAt t i).dp; omega, by show (rfAt t i).dp ≤ _; omega, h7, by rw [hd]; exact s.dotted, by simp⟩
theorem m_small {m k : Nat} (h : m < 10 ^ k) (hk : k ≤ 19) : m < 10000000000000000000 := by
 have := Nat.pow_le_pow_right (show 1 ≤ 10 by decide) hk; omega
theorem m_small18 {m k : Nat} (h : m < 10 ^ k) (hk : k < 19) : m < 1000000000000000000 := by
 have := Nat.pow_le_pow_right (show 1 ≤ 10 by decide) (show k ≤ 18 by omega); omega
def D0 : Dc := ⟨fun _ => 0, 0, 0, false, false⟩
def dsStep (D : Dc) (c : UInt8) : Dc :=
 if c = 46 then { D with dp := D.nd }
 else if c = 48 ∧ D.nd = 0 then { D with dp := D.dp - 1 }
 else { D with d := upd D.d D.nd c.toNat, nd := D.nd + 1 }
def dsAt (t : ByteArray) : Nat → Dc
 | 0 => D0
 | i + 1 => dsStep (dsAt t i) ((bt t i).getD 0)
def dsP (t : ByteArray) (q r : Nat) (s : Int) : Dc := { dsAt t q with dp := (dsAt t q).dp + (rfE t r (t.size - r) : Nat) * s }
structure DsOk (i : Nat) (D : Dc) : Prop where
 nd_le : D.nd ≤ i
 dp_lo : -(i : Int) ≤ D.dp
 dp_hi : D.dp ≤ (i : Int)
 dig : Dig D.d D.nd
 lead : 0 < D.nd → 49 ≤ D.d 0
 neg : D.neg = false
 tr : D.tr = false
theorem dsAt_ok {t : ByteArray} {p q : Nat} (h : Shp t p q) : ∀ i, i ≤ q → DsOk i (dsAt t i) := by
 intro i; induction i with
 | zero => exact fun _ => ⟨Nat.le_refl _, by simp [dsAt, D0], by simp [dsAt, D0], fun i hi => absurd hi (Nat.not_lt_zero i), fun hi => absurd hi (Nat.lt_irrefl _), rfl, rfl⟩
 | succ i ih =>
   intro hi; have s := ih (by omega); have h5 := s.dp_lo; have h6 := s.dp_hi; have h7 := s.nd_le; by_cases hp : i = p
   · have e : dsAt t (i + 1) = { dsAt t i with dp := (dsAt t i).nd } := by
      rw [dsAt, hp, h.dot]; show dsStep (dsAt t p) 46 = _; unfold dsStep; rw [if_pos rfl]
     rw [e]; exact ⟨by show (dsAt t i).nd ≤ _; omega, by show _ ≤ ((dsAt t i).nd : Int); omega, by show ((dsAt t i).nd : Int) ≤ _; omega, s.dig, s.lead, s.neg, s.tr⟩
   · obtain ⟨c, hc, h1, h2⟩ : ∃ c, bt t i = some c ∧ 48 ≤ c ∧ c ≤ 57 := by
      rcases Nat.lt_or_ge i p with hlt | hge
      · exact h.pre i hlt
      · exact h.post i (by omega) (by omega)
     have h3 : 48 ≤ c.toNat := UInt8.le_iff_toNat_le.1 h1; have h4 : c.toNat ≤ 57 := UInt8.le_iff_toNat_le.1 h2; have hne : c ≠ 46 := by intro e; subst e; exact absurd h1 (by decide)
     have e : dsAt t (i + 1) = dsStep (dsAt t i) c := by rw [dsAt, hc]; rfl
     rw [e]; unfold dsStep; rw [if_neg hne]; split
     · exact ⟨by show (dsAt t i).nd ≤ _; omega, by show _ ≤ (dsAt t i).dp - 1; omega, by show (dsAt t i).dp - 1 ≤ _; omega, s.dig, s.lead, s.neg, s.tr⟩
     · rename_i hz
       refine ⟨by show (dsAt t i).nd + 1 ≤ _; omega, by show _ ≤ (dsAt t i).dp; omega, by show (dsAt t i).dp ≤ _; omega, ?_, ?_, s.neg, s.tr⟩
       · intro j hj
         have hj' : j < (dsAt t i).nd + 1 := hj; show 48 ≤ upd (dsAt t i).d (dsAt t i).nd c.toNat j ∧ upd (dsAt t i).d (dsAt t i).nd c.toNat j ≤ 57; by_cases ej : j = (dsAt t i).nd
         · subst ej; rw [upd_same]; omega
         · rw [upd_ne ej]; exact s.dig j (by omega)
       · intro _
         show 49 ≤ upd (dsAt t i).d (dsAt t i).nd c.toNat 0; by_cases e0 : (dsAt t i).nd = 0
         · rw [e0, upd_same]
           have : c ≠ 48 := fun ec => hz ⟨ec, e0⟩
           have : c.toNat ≠ 48 := fun e => this (UInt8.toNat_inj.1 e)
           omega
         · rw [upd_ne (by omega)]; exact s.lead (by omega)
theorem dsP_ok {t : ByteArray} {p q r : Nat} {s : Int} (h : Shp t p q) (hr : Tl t q r s) : OkD (dsP t q r s) ∧ (dsP t q r s).neg = false ∧ -200000 ≤ (dsP t q r s).dp ∧ (dsP t q r s).dp ≤ 200000 := by
 have o := dsAt_ok h q (Nat.le_refl _); have hq := h.le; have hs := h.small; have h1 := o.nd_le; have h2 := o.dp_lo; have h3 := o.dp_hi; have hE : ∀ r', (r' = t.size ∨ DigE t r') → rfE t r' (t.size - r') ≤ 100000 := by
  intro r' hr'; refine rfE_le t r' _ fun i hi1 hi2 => ?_
  rcases hr' with e | e
  · omega
  · exact e.2 i hi1 (by have := e.1; omega)
 refine ⟨⟨by show (dsAt t q).nd ≤ 800; omega, o.dig, o.lead⟩, o.neg, ?_⟩; show -200000 ≤ (dsAt t q).dp + (rfE t r (t.size - r) : Nat) * s ∧ (dsAt t q).dp + (rfE t r (t.size - r) : Nat) * s ≤ 200000; rcases hr with ⟨e1, e2, e3⟩ | ⟨_, _, ⟨_, e2, e3⟩ | ⟨_, e2, _, e3⟩ | ⟨_, e2, _, e3⟩⟩
 · subst e3; omega
 · subst e2; have := hE r (Or.inr e3); omega
 · subst e2; have := hE r (Or.inr e3); omega
 · subst e2; have := hE r (Or.inr e3); omega
theorem bt_nat {t : ByteArray} {i : Nat} {c : UInt8} (h : bt t i = some c) : ∃ hi : i < t.size, t[i] = c := by
 rcases Nat.lt_or_ge i t.size with h' | h'
 · refine ⟨h', ?_⟩
   rw [bt_some h'] at h; exact Option.some.inj h
 · rw [bt_none h'] at h; cases h
theorem Shp.digit {t : ByteArray} {p q i : Nat} (h : Shp t p q) (hi : i < q) (hp : i ≠ p) : ∃ hi : i < t.size, 48 ≤ t[i].toNat ∧ t[i].toNat ≤ 57 := by
 obtain ⟨c, hc, h1, h2⟩ : ∃ c, bt t i = some c ∧ 48 ≤ c ∧ c ≤ 57 := by
  rcases Nat.lt_or_ge i p with hlt | hge
  · exact h.pre i hlt
  · exact h.post i (by omega) hi
 obtain ⟨hs, rfl⟩ := bt_nat hc; exact ⟨hs, UInt8.le_iff_toNat_le.1 h1, UInt8.le_iff_toNat_le.1 h2⟩
theorem Shp.point {t : ByteArray} {p q : Nat} (h : Shp t p q) : ∃ hi : p < t.size, t[p] = 46 := bt_nat h.dot
theorem DigE.digit {t : ByteArray} {r i : Nat} (h : DigE t r) (h1 : r ≤ i) (h2 : i < t.size) : 48 ≤ t[i].toNat ∧ t[i].toNat ≤ 57 := by
 obtain ⟨c, hc, g1, g2⟩ := h.2 i h1 h2; obtain ⟨hs, rfl⟩ := bt_nat hc; exact ⟨UInt8.le_iff_toNat_le.1 g1, UInt8.le_iff_toNat_le.1 g2⟩
theorem dsAt_succ {t : ByteArray} {i : Nat} (h : i < t.size) : dsAt t (i + 1) = dsStep (dsAt t i) t[i] := by
 rw [dsAt, bt_some h]; rfl
theorem rfAt_succ {t : ByteArray} {i : Nat} (h : i < t.size) : rfAt t (i + 1) = rfStep (rfAt t i) t[i] := by
 rw [rfAt, bt_some h]; rfl
theorem dsStep_zero {D : Dc} {c : UInt8} (h : c.toNat = 48) (hn : D.nd = 0) : dsStep D c = { D with dp := D.dp - 1 } := by
 have : c = 48 := UInt8.toNat_inj.1 h; subst this; unfold dsStep; rw [if_neg (by decide), if_pos ⟨rfl, hn⟩]
theorem dsStep_dig {D : Dc} {c : UInt8} (h1 : 48 ≤ c.toNat) (h : ¬ (c.toNat = 48 ∧ D.nd = 0)) : dsStep D c = { D with d := upd D.d D.nd c.toNat, nd := D.nd + 1 } := by
 unfold dsStep; rw [if_neg (by rintro rfl; exact absurd h1 (by decide)), if_neg (by rintro ⟨rfl, h'⟩; exact h ⟨rfl, h'⟩)]
theorem rfE_succ {t : ByteArray} {r k : Nat} (h : r + k < t.size) : rfE t r (k + 1) = if rfE t r k < 10000 then rfE t r k * 10 + (t[r + k].toNat - 48) else rfE t r k := by
 show (if rfE t r k < 10000 then rfE t r k * 10 + (((bt t (r + k)).getD 48).toNat - 48) else rfE t r k) = _; rw [bt_some h]; rfl
theorem lower_E {c : UInt8} (h : c = 101 ∨ c = 69) (w : World) : Calls Tryz.prog 120 #[.int .u8 c.toNat] w fun e w' => e = .returned (.int .u8 101) ∧ w = w' := by
 have hor : bits .or .u8 (c.toNat : Nat) 32 = 101 := by
  rcases h with rfl | rfl <;> decide
 clear h; generalize ((c.toNat : Nat) : Int) = x at *; go_enter Tryz.func120, Tryz.ntmps120
 go_wp2_with fail; go_ret; exact ⟨rfl, rfl⟩
end Go.Proofs.YtkoghgnjjfnamaaGreatDoor
