/- NameW: what is used of them. -/
import Derived.Test.YtkoghgnjjfnamaaGreatDoorKb
import Derived.Test.YtkoghgnjjfnamaaGreatDoorKc
import Derived.Test.YtkoghgnjjfnamaaGreatDoorKd
import Derived.Test.YtkoghgnjjfnamaaGreatDoorShelf
set_option linter.unusedSimpArgs false
set_option linter.unusedVariables false
namespace Go.Proofs.YtkoghgnjjfnamaaGreatDoor
set_option maxRecDepth 100000
set_option maxHeartbeats 4000000
open Go.RowKit Go.Shelf
theorem toL_ne {a b : ByteArray} (h : a ≠ b) : (a.toList == b.toList) = false := by
 rw [beq_eq_false_iff_ne]; intro e; apply h
 rw [ByteArray.toList_eq, ByteArray.toList_eq] at e; exact ByteArray.ext (Array.ext' e)
theorem results_tmp4 {fn : Func} {t u v x : Tmp} (h : fn.results = #[.tmp t, .tmp u, .tmp v, .tmp x]) (tmps : Array Value) (P : Program) (w : World) :
 (results fn tmps).run P w = .ok (.tuple #[tmps.getD t undef, tmps.getD u undef, tmps.getD v undef, tmps.getD x undef]) w := by
 simp [results, h]
theorem psign_any (s : ByteArray) (w : World) : Calls Tryz.prog 44 #[.string s] w fun e w' => e = .returned (.tuple #[.int .i64 ((sgRow s).1 : Nat), .int .i64 ((sgRow s).2.1 : Nat), .int .i64 ((sgRow s).2.2 : Nat), .bool (signF s)]) ∧ w' = w := by
 by_cases h0 : s = ⟨#[124, 124]⟩
 · subst h0
   go_enter Tryz.func44, Tryz.ntmps44
   go_wp2_with fail
   (try simp only [Exit.inBlock, Exit.then])
   refine bodyPost_ret (results_tmp4 rfl _ _ _) rfl ?_; exact ⟨by kernel_rfl, rfl⟩
 by_cases h1 : s = ⟨#[38, 38]⟩
 · subst h1
   go_enter Tryz.func44, Tryz.ntmps44
   go_wp2_with fail
   (try simp only [Exit.inBlock, Exit.then])
   refine bodyPost_ret (results_tmp4 rfl _ _ _) rfl ?_; exact ⟨by kernel_rfl, rfl⟩
 by_cases h2 : s = ⟨#[61, 61]⟩
 · subst h2
   go_enter Tryz.func44, Tryz.ntmps44
   go_wp2_with fail
   (try simp only [Exit.inBlock, Exit.then])
   refine bodyPost_ret (results_tmp4 rfl _ _ _) rfl ?_; exact ⟨by kernel_rfl, rfl⟩
 by_cases h3 : s = ⟨#[33, 61]⟩
 · subst h3
   go_enter Tryz.func44, Tryz.ntmps44
   go_wp2_with fail
   (try simp only [Exit.inBlock, Exit.then])
   refine bodyPost_ret (results_tmp4 rfl _ _ _) rfl ?_; exact ⟨by kernel_rfl, rfl⟩
 by_cases h4 : s = ⟨#[60]⟩
 · subst h4
   go_enter Tryz.func44, Tryz.ntmps44
   go_wp2_with fail
   (try simp only [Exit.inBlock, Exit.then])
   refine bodyPost_ret (results_tmp4 rfl _ _ _) rfl ?_; exact ⟨by kernel_rfl, rfl⟩
 by_cases h5 : s = ⟨#[60, 61]⟩
 · subst h5
   go_enter Tryz.func44, Tryz.ntmps44
   go_wp2_with fail
   (try simp only [Exit.inBlock, Exit.then])
   refine bodyPost_ret (results_tmp4 rfl _ _ _) rfl ?_; exact ⟨by kernel_rfl, rfl⟩
 by_cases h6 : s = ⟨#[62]⟩
 · subst h6
   go_enter Tryz.func44, Tryz.ntmps44
   go_wp2_with fail
   (try simp only [Exit.inBlock, Exit.then])
   refine bodyPost_ret (results_tmp4 rfl _ _ _) rfl ?_; exact ⟨by kernel_rfl, rfl⟩
 by_cases h7 : s = ⟨#[62, 61]⟩
 · subst h7
   go_enter Tryz.func44, Tryz.ntmps44
   go_wp2_with fail
   (try simp only [Exit.inBlock, Exit.then])
   refine bodyPost_ret (results_tmp4 rfl _ _ _) rfl ?_; exact ⟨by kernel_rfl, rfl⟩
 by_cases h8 : s = ⟨#[47, 47]⟩
 · subst h8
   go_enter Tryz.func44, Tryz.ntmps44
   go_wp2_with fail
   (try simp only [Exit.inBlock, Exit.then])
   refine bodyPost_ret (results_tmp4 rfl _ _ _) rfl ?_; exact ⟨by kernel_rfl, rfl⟩
 by_cases h9 : s = ⟨#[43]⟩
 · subst h9
   go_enter Tryz.func44, Tryz.ntmps44
   go_wp2_with fail
   (try simp only [Exit.inBlock, Exit.then])
   refine bodyPost_ret (results_tmp4 rfl _ _ _) rfl ?_; exact ⟨by kernel_rfl, rfl⟩
 by_cases h10 : s = ⟨#[45]⟩
 · subst h10
   go_enter Tryz.func44, Tryz.ntmps44
   go_wp2_with fail
   (try simp only [Exit.inBlock, Exit.then])
   refine bodyPost_ret (results_tmp4 rfl _ _ _) rfl ?_; exact ⟨by kernel_rfl, rfl⟩
 by_cases h11 : s = ⟨#[42]⟩
 · subst h11
   go_enter Tryz.func44, Tryz.ntmps44
   go_wp2_with fail
   (try simp only [Exit.inBlock, Exit.then])
   refine bodyPost_ret (results_tmp4 rfl _ _ _) rfl ?_; exact ⟨by kernel_rfl, rfl⟩
 by_cases h12 : s = ⟨#[47]⟩
 · subst h12
   go_enter Tryz.func44, Tryz.ntmps44
   go_wp2_with fail
   (try simp only [Exit.inBlock, Exit.then])
   refine bodyPost_ret (results_tmp4 rfl _ _ _) rfl ?_; exact ⟨by kernel_rfl, rfl⟩
 by_cases h13 : s = ⟨#[43, 43]⟩
 · subst h13
   go_enter Tryz.func44, Tryz.ntmps44
   go_wp2_with fail
   (try simp only [Exit.inBlock, Exit.then])
   refine bodyPost_ret (results_tmp4 rfl _ _ _) rfl ?_; exact ⟨by kernel_rfl, rfl⟩
 have e1 : sgRow s = (0, 0, 0) := by
  unfold sgRow; simp only [toL_ne h0, toL_ne h1, toL_ne h2, toL_ne h3, toL_ne h4, toL_ne h5, toL_ne h6, toL_ne h7, toL_ne h8, toL_ne h9, toL_ne h10, toL_ne h11, toL_ne h12, toL_ne h13, Bool.false_eq_true, Bool.or_self, if_false]
 have e2 : signF s = false := by
  unfold signF sgAll; simp only [List.any_cons, List.any_nil, toL_ne h0, toL_ne h1, toL_ne h2, toL_ne h3, toL_ne h4, toL_ne h5, toL_ne h6, toL_ne h7, toL_ne h8, toL_ne h9, toL_ne h10, toL_ne h11, toL_ne h12, toL_ne h13, Bool.or_self]
 have q0 : (s.toList == [124, 124]) = false := by have := toL_ne h0; rwa [show (⟨#[124, 124]⟩ : ByteArray).toList = [124, 124] by kernel_rfl] at this
 have q1 : (s.toList == [38, 38]) = false := by have := toL_ne h1; rwa [show (⟨#[38, 38]⟩ : ByteArray).toList = [38, 38] by kernel_rfl] at this
 have q2 : (s.toList == [61, 61]) = false := by have := toL_ne h2; rwa [show (⟨#[61, 61]⟩ : ByteArray).toList = [61, 61] by kernel_rfl] at this
 have q3 : (s.toList == [33, 61]) = false := by have := toL_ne h3; rwa [show (⟨#[33, 61]⟩ : ByteArray).toList = [33, 61] by kernel_rfl] at this
 have q4 : (s.toList == [60]) = false := by have := toL_ne h4; rwa [show (⟨#[60]⟩ : ByteArray).toList = [60] by kernel_rfl] at this
 have q5 : (s.toList == [60, 61]) = false := by have := toL_ne h5; rwa [show (⟨#[60, 61]⟩ : ByteArray).toList = [60, 61] by kernel_rfl] at this
 have q6 : (s.toList == [62]) = false := by have := toL_ne h6; rwa [show (⟨#[62]⟩ : ByteArray).toList = [62] by kernel_rfl] at this
 have q7 : (s.toList == [62, 61]) = false := by have := toL_ne h7; rwa [show (⟨#[62, 61]⟩ : ByteArray).toList = [62, 61] by kernel_rfl] at this
 have q8 : (s.toList == [47, 47]) = false := by have := toL_ne h8; rwa [show (⟨#[47, 47]⟩ : ByteArray).toList = [47, 47] by kernel_rfl] at this
 have q9 : (s.toList == [43]) = false := by have := toL_ne h9; rwa [show (⟨#[43]⟩ : ByteArray).toList = [43] by kernel_rfl] at this
 have q10 : (s.toList == [45]) = false := by have := toL_ne h10; rwa [show (⟨#[45]⟩ : ByteArray).toList = [45] by kernel_rfl] at this
 have q11 : (s.toList == [42]) = false := by have := toL_ne h11; rwa [show (⟨#[42]⟩ : ByteArray).toList = [42] by kernel_rfl] at this
 have q12 : (s.toList == [47]) = false := by have := toL_ne h12; rwa [show (⟨#[47]⟩ : ByteArray).toList = [47] by kernel_rfl] at this
 have q13 : (s.toList == [43, 43]) = false := by have := toL_ne h13; rwa [show (⟨#[43, 43]⟩ : ByteArray).toList = [43, 43] by kernel_rfl] at this
 clear h0 h1 h2 h3 h4 h5 h6 h7 h8 h9 h10 h11 h12 h13; rw [e1, e2]; clear e1 e2; go_enter Tryz.func44, Tryz.ntmps44
 go_wp2_with fail
 (try simp only [Exit.inBlock, Exit.then])
 refine bodyPost_ret (results_tmp4 rfl _ _ _) rfl ?_; exact ⟨rfl, rfl⟩
def kP (k : Int) : Prop := k = 1 ∨ k = 4 ∨ k = 6 ∨ k = 8 ∨ k = 9 ∨ k = 18
theorem prow_any {k : Int} (hk : kP k) (tx : ByteArray) (n : Int) (x : Nat) (v1 v2 : Value) (p : Int) (w : World) :
 Calls Tryz.prog 65 #[.agg #[.int .i64 k, .string tx, .int .i64 n, .float .f64 x, v1, v2, .int .i64 p]] w fun e w' => e = .returned (.int .i64 ((rowN k tx : Nat) : Int)) ∧ Below w.heap.size w w' := by
 rcases hk with rfl | rfl | rfl | rfl | rfl | rfl
 · go_enter Tryz.func65, Tryz.ntmps65
   go_wp2_with fail; go_ret; exact ⟨rfl, by (repeat' first | (with_reducible first | exact Below.refl _ _ | assumption | refine below_drewN ?_ _ | refine Below.drew ?_ | refine Below.alloc ?_ ?_ _ | refine Below.setCell ?_ ?_ _) | omega | (simp; done) | (simp; omega))⟩
 · go_enter Tryz.func65, Tryz.ntmps65
   go_wp2_with fail; go_ret; exact ⟨rfl, by (repeat' first | (with_reducible first | exact Below.refl _ _ | assumption | refine below_drewN ?_ _ | refine Below.drew ?_ | refine Below.alloc ?_ ?_ _ | refine Below.setCell ?_ ?_ _) | omega | (simp; done) | (simp; omega))⟩
 · go_enter Tryz.func65, Tryz.ntmps65
   go_wp2_with fail; go_ret; exact ⟨rfl, by (repeat' first | (with_reducible first | exact Below.refl _ _ | assumption | refine below_drewN ?_ _ | refine Below.drew ?_ | refine Below.alloc ?_ ?_ _ | refine Below.setCell ?_ ?_ _) | omega | (simp; done) | (simp; omega))⟩
 · go_enter Tryz.func65, Tryz.ntmps65
   go_wp2_with fail; go_ret; exact ⟨rfl, by (repeat' first | (with_reducible first | exact Below.refl _ _ | assumption | refine below_drewN ?_ _ | refine Below.drew ?_ | refine Below.alloc ?_ ?_ _ | refine Below.setCell ?_ ?_ _) | omega | (simp; done) | (simp; omega))⟩
 · go_enter Tryz.func65, Tryz.ntmps65
   go_wp2_with fail; go_ret; exact ⟨rfl, by (repeat' first | (with_reducible first | exact Below.refl _ _ | assumption | refine below_drewN ?_ _ | refine Below.drew ?_ | refine Below.alloc ?_ ?_ _ | refine Below.setCell ?_ ?_ _) | omega | (simp; done) | (simp; omega))⟩
 · go_enter Tryz.func65, Tryz.ntmps65
   go_wp2_with fail; refine (psign_any tx _).mono ?_; rintro e w1 ⟨rfl, rfl⟩
   go_wp2_with fail; go_ret; exact ⟨rfl, by (repeat' first | (with_reducible first | exact Below.refl _ _ | assumption | refine below_drewN ?_ _ | refine Below.drew ?_ | refine Below.alloc ?_ ?_ _ | refine Below.setCell ?_ ?_ _) | omega | (simp; done) | (simp; omega))⟩
def kdR : Except Er (List Nd) → Bool
 | .ok (n :: _) => decide (n.kind = 4)
 | _ => false
def nmR (s : ByteArray) (RL : Except (Nat × Int) (List Tok)) (RP : Except Er (List Nd)) : Bool :=
 match RL with
 | .ok [t0, _] => if t0.kind = 1 ∧ t0.text = s then kdR RP else false
 | _ => false
def isNm (s : ByteArray) : Bool := nmR s (lexP pfA s) (parseP pfA s)
theorem isNm_of {b : ByteArray} (h : nmQ b) : isNm b = true := by
 obtain ⟨h1, h2⟩ := one_name pfA h; unfold isNm nmR; rw [h1, h2]; simp [kdR]
theorem own_tokP {w : World} {base m c : Nat} {v : Value} {a : Option Addr} {ts : List Tok} {i : Nat} {t : Tok} (h : w.ownsRow base 54 5 v ts.length (flatT ts)) (hv : v = .slice a m c) (ht : ts[i]? = some t) :
 ∃ g, a = some ⟨g, 0, none⟩ ∧ base ≤ g ∧ m = ts.length ∧ w.cell? ⟨g, i * 5, none⟩ = some (.int .i64 t.kind) ∧ w.cell? ⟨g, i * 5 + 1, none⟩ = some (.string t.text) ∧ w.cell? ⟨g, i * 5 + 2, none⟩ = some (.int .i64 t.num) ∧
   w.cell? ⟨g, i * 5 + 3, none⟩ = some (.float .f64 t.bits) ∧ w.cell? ⟨g, i * 5 + 4, none⟩ = some (.int .i64 t.place) := by
 obtain ⟨g, e0, h1, h2, c0⟩ := own_cell h hv (j := i * 5 + 0) (flatT_at ht 0 (by decide)); obtain ⟨g1, e1, _, _, c1⟩ := own_cell h hv (j := i * 5 + 1) (flatT_at ht 1 (by decide)); obtain ⟨g2, e2, _, _, c2⟩ := own_cell h hv (j := i * 5 + 2) (flatT_at ht 2 (by decide)); obtain ⟨g3, e3, _, _, c3⟩ := own_cell h hv (j := i * 5 + 3) (flatT_at ht 3 (by decide)); obtain ⟨g4, e4, _, _, c4⟩ := own_cell h hv (j := i * 5 + 4) (flatT_at ht 4 (by decide)); rw [e0] at e1 e2 e3 e4; cases e1; cases e2; cases e3; cases e4; exact ⟨g, e0, h1, h2, c0, c1, c2, c3, c4⟩
theorem parse_ne {pf : ByteArray → Nat} {s : ByteArray} (h : parseP pf s = .ok []) : False := by
 unfold parseP at h; split at h
 · cases h
 · split at h
   · cases h
   · split at h
     · split at h
       · split at h
         · cases h
         · rename_i t us _ _ _ _ _
           rw [flat0] at h; cases t with
           | mk k tx n x ns p ks =>
             rw [nodes_mk] at h; simp at h
       · cases h
     · cases h
theorem retB {a b : Bool} (h : a = b) : Ending.returned (Value.bool a) = Ending.returned (Value.bool b) := by rw [h]
theorem pplain1_any (x : Nat) (w : World) : Calls Tryz.prog 50 #[.int .i32 (x : Int)] w fun e w' => e = .returned (.bool (ctlR x)) ∧ ∃ q, w' = w.drewN q := by
 have h1 : decide ((x : Int) < 32) = decide (x < 32) := by simp; omega
 have h2 : ((x : Int) == 9) = decide (x = 9) := by rw [Bool.eq_iff_iff]; simp; omega
 have h3 : ((x : Int) == 10) = decide (x = 10) := by rw [Bool.eq_iff_iff]; simp; omega
 have h4 : ((x : Int) == 127) = decide (x = 127) := by rw [Bool.eq_iff_iff]; simp; omega
 go_enter Tryz.func50, Tryz.ntmps50
 go_wp2_with fail
 all_goals
  go_ret; refine ⟨retB ?_, 0, rfl⟩; unfold ctlR; rw [Bool.eq_iff_iff]; simp
  omega
theorem pplain_any (s : ByteArray) (w : World) : Calls Tryz.prog 22 #[.string s] w fun e w' => e = .returned (.bool (plainF s)) ∧ Below w.heap.size w w' := by
 have HC := fun W => Lib.hid (Tryz.strings_ContainsFunc 50 #[] (enters_of Tryz.func50 (by kernel_rfl) rfl) ctlR s W (fun W' x _ => pplain1_any x W'))
 have HP := Lib.hid (plain_is s); by_cases hz : s.size ≤ 1024
 · have hzI : (s.size : Int) ≤ 1024 := by omega
   rw [decide_eq_true hz, Bool.true_and] at HP; go_enter Tryz.func22, Tryz.ntmps22
   go_wp2_with fail; refine (HC w).out.mono ?_; rintro e w1 ⟨rfl, hb⟩
   go_wp2_with fail; go_ret; exact ⟨retB HP.out.symm, hb⟩
 · have hzI : ¬ ((s.size : Int) ≤ 1024) := by omega
   rw [decide_eq_false hz, Bool.false_and] at HP; go_enter Tryz.func22, Tryz.ntmps22
   go_wp2_with fail; go_ret; exact ⟨retB HP.out.symm, Below.refl _ _⟩
theorem pname_any {NG : Nat} {w : World} (hG : GP NG w) (s : ByteArray) : Calls Tryz.prog 45 #[.string s] w fun e w' => e = .returned (.bool (isNm s)) ∧ Below w.heap.size w w' := by
 have HL := Lib.hid (All_pf hG.1 (s := s)); have HGW := Lib.hid (fun (w' : World) (hb : Below w.heap.size w w') => Parse_any (hG.below hb) s); obtain ⟨RL, hRL⟩ : ∃ R, lexP pfA s = R := ⟨_, rfl⟩; obtain ⟨RP, hRP⟩ : ∃ R, parseP pfA s = R := ⟨_, rfl⟩; have HNE := Lib.hid (fun h => parse_ne (pf := pfA) (s := s) h); have hnm : isNm s = nmR s RL RP := by
  unfold isNm; rw [hRL, hRP]
 rw [hRL] at HL; have HNM := Lib.hid hnm; rw [hRP] at HNE; have HRP := Lib.hid hRP; clear hnm hRL hRP hG; cases RL with
 | error er =>
   obtain ⟨p, er⟩ := er; go_enter Tryz.func45, Tryz.ntmps45
   go_wp2_with fail; refine HL.out.mono ?_; rintro e w1 ⟨⟨v, rfl, hft⟩, hb⟩; clear hft
   go_wp2_with fail; go_ret; exact ⟨retB HNM.out.symm, hb⟩
 | ok ts =>
   go_enter Tryz.func45, Tryz.ntmps45
   go_wp2_with fail; refine HL.out.mono ?_; rintro e w1 ⟨⟨out, rfl, hown⟩, hb⟩; obtain ⟨a, cap, rfl⟩ := own_shape hown; rcases ts with _ | ⟨t0, _ | ⟨t1, _ | ⟨t2, r⟩⟩⟩
   · clear hown
     go_wp2_with fail; go_ret; exact ⟨retB HNM.out.symm, hb⟩
   · clear hown
     go_wp2_with fail; go_ret; exact ⟨retB HNM.out.symm, hb⟩
   · obtain ⟨g, rfl, _, _, c0, c1, _⟩ := own_tokP hown rfl (i := 0) (t := t0) rfl
     simp only [Nat.zero_mul, Nat.zero_add] at c0 c1; have HB := Lib.hid hb; clear hown hb; by_cases hk : t0.kind = 1
     · rw [hk] at c0
       by_cases ht : t0.text = s
       · rw [ht] at c1
         have HNM2 : Hid (isNm s = kdR RP) := by
          unfold Hid; rw [HNM.out]; unfold nmR; simp [hk, ht]
         have HP := HGW.out w1 HB.out; rw [HRP.out] at HP; have HP := Lib.hid HP; clear hk ht
         go_wp2_with fail; refine HP.out.mono ?_; cases RP with
         | error er =>
           obtain ⟨p, er⟩ := er; rintro e w2 ⟨⟨v, rfl, hft⟩, hb2⟩; clear hft
           go_wp2_with fail; go_ret; exact ⟨retB HNM2.out.symm, HB.out.next hb2⟩
         | ok l =>
           rintro e w2 ⟨⟨out, ls, A, B, rfl, hnd, hmap, hA, hAB⟩, hb2⟩; cases l with
           | nil => exact (HNE.out rfl).elim
           | cons n l =>
             cases ls with
             | nil => cases hmap
             | cons x ls =>
               obtain ⟨a2, cap2, rfl⟩ := own_shape hnd.own; obtain ⟨g2, rfl, _, _, cc⟩ := hnd.node rfl (i := 0) (x := x) rfl; have k0 : w2.cell? ⟨g2, 0, none⟩ = some (.int .i64 n.kind) := by
                have h1 := cc 0 _ rfl; have h2 : x.nd = n := (List.cons.inj hmap).1; rw [← h2]; simpa using h1
               have HB2 := Lib.hid (HB.out.next hb2); clear hnd hmap cc hb2 hA hAB
               go_wp2_with fail; go_ret; exact ⟨retB (by rw [HNM2.out]; show (n.kind == 4) = decide (n.kind = 4); rw [Bool.eq_iff_iff]; simp), HB2.out⟩
       · have hne : (t0.text.toList == s.toList) = false := toL_ne ht
         have hne2 : (t0.text.toList != s.toList) = true := by simp [bne, hne]
         have HNM2 : Hid (isNm s = false) := by
          unfold Hid; rw [HNM.out]; unfold nmR; simp [ht]
         clear hk ht
         go_wp2_with fail; go_ret; exact ⟨retB HNM2.out.symm, HB.out⟩
     · have hk2 : (t0.kind != 1) = true := by simpa using hk
       have HNM2 : Hid (isNm s = false) := by
        unfold Hid; rw [HNM.out]; unfold nmR; simp [hk]
       clear hk
       go_wp2_with fail; go_ret; exact ⟨retB HNM2.out.symm, HB.out⟩
   · have hl : (((t0 :: t1 :: t2 :: r).length : Nat) : Int) ≠ 2 := by simp; omega
     obtain ⟨m, hm⟩ : ∃ m, (t0 :: t1 :: t2 :: r).length = m := ⟨_, rfl⟩; have hm2 : ((m : Int) != 2) = true := by rw [← hm]; simpa using hl
     rw [hm]; clear hown hl hm
     go_wp2_with fail; go_ret; exact ⟨retB HNM.out.symm, hb⟩
theorem pattr_any {NG : Nat} {w : World} (hG : GP NG w) (s : ByteArray) (hs : isNm s = true) : Calls Tryz.prog 43 #[.string s] w fun e w' => e = .returned (.string s) ∧ Below w.heap.size w w' := by
 have HN := Lib.hid (pname_any hG s); rw [hs] at HN; clear hG hs; go_enter Tryz.func43, Tryz.ntmps43
 go_wp2_with fail; refine HN.out.mono ?_; rintro e w1 ⟨rfl, hb⟩
 go_wp2_with fail; go_ret; exact ⟨rfl, hb⟩
end Go.Proofs.YtkoghgnjjfnamaaGreatDoor
