/- NamesW: what is used of them. -/
import Derived.Test.YtkoghgnjjfnamaaGreatDoorKi
set_option linter.unusedSimpArgs false
set_option linter.unusedVariables false
namespace Go.Proofs.YtkoghgnjjfnamaaGreatDoor
set_option maxRecDepth 100000
set_option maxHeartbeats 8000000
open Go.RowKit Go.Shelf
def intN : T := .mk 1 ⟨#[]⟩ 1 0 [] 0 []
def setT (s : ByteArray) : T := .mk 6 ⟨#[]⟩ 0 0 [s] 0 [intN]
def oneT (k : Int) (s : ByteArray) : T := .mk k s 0 0 [] 0 [setT s]
theorem oneT_nodes (k : Int) (s : ByteArray) : nodes (oneT k s) 0 = [⟨1, ⟨#[]⟩, 1, 0, [], [], 0⟩, ⟨6, ⟨#[]⟩, 0, 0, [s], [0], 0⟩, ⟨k, s, 0, 0, [], [1], 0⟩] := by
 simp [oneT, setT, intN, nodes_mk, nodesK_cons, nodesK_nil]
def plainK (s : ByteArray) (k : Nat) : Bool := decide (s.size ≤ 1024) && (s.data.toList.take k).all fun c => !ctlB c
theorem plainK_zero (s : ByteArray) : plainK s 0 = decide (s.size ≤ 1024) := by simp [plainK]
theorem plainK_full (s : ByteArray) : plainK s s.size = plainF s := by
 have h : s.data.toList.length = s.size := Array.length_toList; unfold plainK plainF; rw [List.take_of_length_le (by omega)]
theorem plainK_no {s : ByteArray} {k : Nat} (h : plainK s k = false) : plainF s = false := by
 cases hf : plainF s with
 | false => rfl
 | true =>
   unfold plainF at hf; unfold plainK at h; rw [Bool.and_eq_true] at hf; rw [hf.1, Bool.true_and] at h
   have := List.all_eq_true.1 hf.2; rw [List.all_eq_true.2 (fun c hc => this c (List.mem_of_mem_take hc))] at h; cases h
theorem plainK_succ {s : ByteArray} {k : Nat} (h : k < s.size) (hp : plainK s k = true) : plainK s (k + 1) = !ctlB s[k] := by
 unfold plainK at hp ⊢; rw [Bool.and_eq_true] at hp; have hl : s.data.toList.length = s.size := Array.length_toList; rw [hp.1, Bool.true_and, List.take_succ_eq_append_getElem (by omega), List.all_append, hp.2, Bool.true_and, List.all_cons, List.all_nil, Bool.and_true]; rfl
theorem plF_pl {s : ByteArray} (h : plainF s = true) : plQ s := by
 unfold plainF at h; rw [Bool.and_eq_true] at h; exact ⟨of_decide_eq_true h.1, fun c hc => by simpa using List.all_eq_true.1 h.2 c hc⟩
theorem ctl_nat (c : UInt8) : (!ctlB c) = ((decide (32 ≤ c.toNat) && !(c.toNat == 127)) || c.toNat == 9 || c.toNat == 10) := by
 have h := all256 (p := fun c => (!ctlB c) == ((decide (32 ≤ c.toNat) && !(c.toNat == 127)) || c.toNat == 9 || c.toNat == 10)) (by decide +kernel) c; simpa using h
def nv3 (k : Int) (s : ByteArray) (nb kb kc : Nat) : List NV := [⟨⟨1, ⟨#[]⟩, 1, 0, [], [], 0⟩, .slice none 0 0, .slice none 0 0⟩, ⟨⟨6, ⟨#[]⟩, 0, 0, [s], [0], 0⟩, .slice (some ⟨nb, 0, none⟩) 1 1, .slice (some ⟨kb, 0, none⟩) 1 1⟩, ⟨⟨k, s, 0, 0, [], [1], 0⟩, .slice none 0 0, .slice (some ⟨kc, 0, none⟩) 1 1⟩]
def cells3 (k : Int) (s : ByteArray) (nb kb kc : Nat) : Array Value := ((nv3 k s nb kb kc).flatMap NV.cells).toArray
theorem nrd3 {w : World} {k : Int} {s : ByteArray} {fb nb kb kc : Nat} {e : TypeId} (h0 : w.heap[fb]? = some (.cells (cells3 k s nb kb kc) e (0, 0))) (h1 : w.heap[nb]? = some (.cells #[.string s] 9 (0, 0))) (h2 : w.heap[kb]? = some (.cells #[.int .i64 0] 3 (0, 0))) (h3 : w.heap[kc]? = some (.cells #[.int .i64 1] 3 (0, 0))) :
 NRd (fun _ => True) (fun _ _ => True) w fb 0 (nv3 k s nb kb kc) := by
 refine ⟨⟨_, e, h0, fun i x hx j u hu => ?_⟩, fun i x hx => ?_, fun i x hx => ?_⟩
 · have hj := cells_lt hu
   match i, hx with
   | 0, hx => cases hx; rcases (by omega : j = 0 ∨ j = 1 ∨ j = 2 ∨ j = 3 ∨ j = 4 ∨ j = 5 ∨ j = 6) with rfl | rfl | rfl | rfl | rfl | rfl | rfl <;> exact hu
   | 1, hx => cases hx; rcases (by omega : j = 0 ∨ j = 1 ∨ j = 2 ∨ j = 3 ∨ j = 4 ∨ j = 5 ∨ j = 6) with rfl | rfl | rfl | rfl | rfl | rfl | rfl <;> exact hu
   | 2, hx => cases hx; rcases (by omega : j = 0 ∨ j = 1 ∨ j = 2 ∨ j = 3 ∨ j = 4 ∨ j = 5 ∨ j = 6) with rfl | rfl | rfl | rfl | rfl | rfl | rfl <;> exact hu
   | i + 3, hx => simp [nv3] at hx
 · match i, hx with
   | 0, hx => cases hx; exact Or.inl ⟨rfl, rfl⟩
   | 1, hx =>
     cases hx; refine Or.inr ⟨nb, 1, _, _, rfl, trivial, h1, fun j u hu => ?_⟩; match j, hu with
     | 0, hu => exact hu
     | j + 1, hu => simp at hu
   | 2, hx => cases hx; exact Or.inl ⟨rfl, rfl⟩
   | i + 3, hx => simp [nv3] at hx
 · match i, hx with
   | 0, hx => cases hx; exact Or.inl ⟨rfl, rfl⟩
   | 1, hx =>
     cases hx; refine Or.inr ⟨kb, 1, _, _, rfl, trivial, h2, fun j u hu => ?_⟩; match j, hu with
     | 0, hu => exact hu
     | j + 1, hu => simp at hu
   | 2, hx =>
     cases hx; refine Or.inr ⟨kc, 1, _, _, rfl, trivial, h3, fun j u hu => ?_⟩; match j, hu with
     | 0, hu => exact hu
     | j + 1, hu => simp at hu
   | i + 3, hx => simp [nv3] at hx
theorem oneT_ex {k : Int} (hk : k = 8 ∨ k = 9) {s : ByteArray} (h : plQ s) : EXr (QR fun _ => False) (oneT k s) := by
 have hset : RTr (QR fun _ => False) (setT s) := by
  unfold setT; rw [rt_mk]; refine ⟨.set rfl, ⟨by simp, fun b hb => ?_⟩, fun i t ht h19 => ?_, ?_⟩
  · have := List.mem_singleton.1 hb
    subst this; exact h
  · match i, ht with
    | 0, ht => cases ht; cases h19
    | i + 1, ht => simp at ht
  · rw [rtK_all]
    intro t ht
    have := List.mem_singleton.1 ht; subst this; unfold intN; rw [rt_mk]; exact ⟨.int (by decide), ⟨by simp, fun b hb => by cases hb⟩, fun i t ht _ => by simp at ht, by rw [rtK_all]; intro t ht; cases ht⟩
 refine ⟨?_, by rcases hk with rfl | rfl
                · show ¬ ((8 : Int) = 19); decide
                · show ¬ ((9 : Int) = 19); decide⟩
 unfold oneT; rw [rt_mk]; refine ⟨?_, ⟨by simp, fun b hb => by cases hb⟩, fun i t ht h19 => ?_, ?_⟩
 · rcases hk with rfl | rfl
   · exact .sel h (Or.inl rfl)
   · exact .has h
 · match i, ht with
   | 0, ht => cases ht; cases h19
   | i + 1, ht => simp at ht
 · rw [rtK_all]
   intro t ht
   have := List.mem_singleton.1 ht; subst this; exact hset
theorem oneT_good {k : Int} (hk : k = 8 ∨ k = 9) {s : ByteArray} (h : plQ s) : ∀ (i : Nat) (x : Nd), (nodes (oneT k s) 0)[i]? = some x → GoodM x i := by
 intro i x hx; rw [oneT_nodes] at hx; match i, hx with
 | 0, hx => cases hx; exact ⟨.int (by decide), Or.inl rfl, by simp, (fun s hs => by cases hs), by simp, by simp, (fun k hk => by cases hk)⟩
 | 1, hx =>
   cases hx; refine ⟨.set rfl, Or.inr (Or.inr (Or.inl rfl)), by simp, fun s hs => ?_, by simp, by simp, fun k hk => ?_⟩
   · have := List.mem_singleton.1 hs
     subst this; exact h.1
   · have := List.mem_singleton.1 hk
     omega
 | 2, hx =>
   cases hx; refine ⟨?_, ?_, by simp, (fun s hs => by cases hs), by simp, by simp, fun k hk => ?_⟩
   · rcases hk with rfl | rfl
     · exact .sel h (Or.inl rfl)
     · exact .has h
   · rcases hk with rfl | rfl
     · exact Or.inr (Or.inr (Or.inr (Or.inl rfl)))
     · exact Or.inr (Or.inr (Or.inr (Or.inr (Or.inl rfl))))
   · have := List.mem_singleton.1 hk
     omega
 | i + 3, hx => simp at hx
theorem Right3_any {NG : Nat} {w : World} (hG : GP NG w) {k : Int} (hk : k = 8 ∨ k = 9) {s : ByteArray} (hs : s.size ≤ maxLen) {fb nb kb kc c : Nat} (HN : NRd (fun _ => True) (fun _ _ => True) w fb 0 (nv3 k s nb kb kc)) :
 Calls Tryz.prog 11 #[.slice (some ⟨fb, 0, none⟩) 3 c] w fun e w' => e = .returned (.bool (plainF s)) ∧ Below w.heap.size w w' := by
 cases hp : plainF s with
 | true =>
   have hl : (nv3 k s nb kb kc).length = 3 := rfl; have hm : (nv3 k s nb kb kc).map NV.nd = nodes (oneT k s) 0 := by rw [oneT_nodes]; rfl
   have hex := oneT_ex hk (plF_pl hp); have key := Right_exN (c := c) hG HN hm hex (by rw [hl]; omega) (oneT_good hk (plF_pl hp)); rw [hl] at key; exact key
 | false =>
   have h3 : ∀ (i : Nat) (x : NV), (nv3 k s nb kb kc)[i]? = some x → i ≤ 1 → (i = 0 ∧ x.nd = ⟨1, ⟨#[]⟩, 1, 0, [], [], 0⟩) ∨ (i = 1 ∧ x.nd = ⟨6, ⟨#[]⟩, 0, 0, [s], [0], 0⟩) := fun i x hx hi => by
    match i, hx, hi with
    | 0, hx, _ => cases hx; exact Or.inl ⟨rfl, rfl⟩
    | 1, hx, _ => cases hx; exact Or.inr ⟨rfl, rfl⟩
   have key := Right_full (c := c) HN (by show 0 < 3; decide) (by show 3 ≤ 1000; omega) (B := 1) (by show 1 ≤ 3; decide) (begs := [0, 0, 0]) rfl (fun i x hx hi a1 a2 c1 c2 w' hb => ?_) (fun i x hx => ?_) (fun i x hx hi => ?_) (fun x hx => ?_) (fun i x hx hi => ?_) (fun h => absurd h (by show ¬ (1 = 3); decide)) (fun h => absurd h (by show ¬ (1 = 3); decide))
   · exact key
   · rcases h3 i x hx hi with ⟨_, e⟩ | ⟨_, e⟩
     · rw [e]
       exact shape_any (hG.below hb) (k := 1) (tx := ⟨#[]⟩) (n := 1) (ns := []) (m := 0) (Or.inl rfl) (.int (by decide)) a1 a2 c1 c2 0
     · rw [e]
       exact shape_any (hG.below hb) (k := 6) (tx := ⟨#[]⟩) (n := 0) (ns := [s]) (m := 1) (Or.inr (Or.inr (Or.inl rfl))) (.set rfl) a1 a2 c1 c2 0
   · match i, hx with
     | 0, hx => cases hx; exact ⟨by simp, fun b hb => by cases hb⟩
     | 1, hx => cases hx; exact ⟨by simp, fun b hb => by have := List.mem_singleton.1 hb; subst this; exact hs⟩
     | 2, hx => cases hx; exact ⟨by simp, fun b hb => by cases hb⟩
     | i + 3, hx => simp [nv3] at hx
   · rcases h3 i x hx (by omega) with ⟨_, e⟩ | ⟨h1, e⟩
     · rw [e]; rfl
     · omega
   · rcases h3 1 x hx (by omega) with ⟨h0, _⟩ | ⟨_, e⟩
     · cases h0
     · rw [e]
       simp [namesF, hp]
   · rcases h3 i x hx (by omega) with ⟨h0, e⟩ | ⟨h1, e⟩
     · subst h0
       rw [e]; exact ⟨rfl, by simp, by simp, fun j hj => by cases hj⟩
     · omega
theorem oneT_pr8 (s : ByteArray) : prX (oneT 8 s) = (selB s).data.toList := by
 have h1 : Lib.itoa 1 = [49] := by kernel_rfl
 have h2 : rowN 6 (⟨#[]⟩ : ByteArray) = 14 := by decide
 simp [oneT, setT, intN, prX, prT, prK, asmP, bindsW, partP, selB, setB, T.kind, T.text, T.kids, h1, h2]
theorem oneT_pr9 (s : ByteArray) : prX (oneT 9 s) = (hasB s).data.toList := by
 have h1 : Lib.itoa 1 = [49] := by kernel_rfl
 have h2 : rowN 6 (⟨#[]⟩ : ByteArray) = 14 := by decide
 simp [oneT, setT, intN, prX, prT, prK, asmP, bindsW, partP, hasB, setB, T.kind, T.text, T.kids, h1, h2]
theorem kid3 {NG : Nat} {w0 : World} {k : Int} {s : ByteArray} (hpl : plQ s) {fb nb kb kc g c : Nat} (hG : GP NG w0) (HN : NRd (fun _ => True) (fun _ _ => True) w0 fb 0 (nv3 k s nb kb kc)) (hg : w0.heap.size ≤ g) : KidI g w0 fb c (nv3 k s nb kb kc) (setT s) 1 := by
 have hl : (nv3 k s nb kb kc).length ≤ 1000 := by show 3 ≤ 1000; decide
 have h0 : KidI g w0 fb c (nv3 k s nb kb kc) intN 0 := ⟨Or.inl rfl, ⟨_, rfl, rfl, rfl⟩, node_int HN hg hl (n := 1) (p := 0) rfl rfl (by decide)⟩; refine ⟨Or.inr (Or.inr (Or.inl rfl)), ⟨_, rfl, rfl, rfl⟩, node_set hG HN hg hl rfl rfl rfl rfl (by decide) (fun j t i ht hi => ?_) (fun t ht => ?_) (fun b hb => ?_)⟩
 · match j, ht, hi with
   | 0, ht, hi => cases ht; cases hi; exact h0
   | j + 1, ht, _ => simp at ht
 · have := List.mem_singleton.1 ht
   subst this; show ¬ ((1 : Int) = 19); decide
 · have := List.mem_singleton.1 hb
   subst this; exact hpl
theorem Print3_any {NG : Nat} {w : World} (hG : GP NG w) {k : Int} (hk : k = 8 ∨ k = 9) {s : ByteArray} (hs : s.size ≤ maxLen) {fb nb kb kc c : Nat} (HN : NRd (fun _ => True) (fun _ _ => True) w fb 0 (nv3 k s nb kb kc)) (hp : plainF s = true) :
 Calls Tryz.prog 9 #[.slice (some ⟨fb, 0, none⟩) 3 c] w fun e w' => e = .returned (.string (printR (oneT k s))) ∧ Below w.heap.size w w' := by
 have hpl := plF_pl hp; have hR := Right3_any (c := c) hG hk hs HN; rw [hp] at hR; have hz : (prX (oneT k s)).length ≤ 8 * 1024 ∧ prX (oneT k s) ≠ [] := by
  have h1 := aB_len s; have h2 := hpl.1; rcases hk with rfl | rfl
  · rw [oneT_pr8]
    have h3 := selB_size s; have h4 : (selB s).data.toList.length = (selB s).size := Array.length_toList; exact ⟨by omega, fun e => by rw [e] at h4; simp at h4; omega⟩
  · rw [oneT_pr9]
    have h3 := hasB_size s; have h4 : (hasB s).data.toList.length = (hasB s).size := Array.length_toList; exact ⟨by omega, fun e => by rw [e] at h4; simp at h4; omega⟩
 refine Print_gen (m := 2) hG hR (fun w' hb g hg => ?_) (by decide) (by omega) hz.2; have hK := kid3 (c := c) hpl (hG.below hb) (HN.below hb) hg; have hl : (nv3 k s nb kb kc).length ≤ 1000 := by show 3 ≤ 1000; decide
 rcases hk with rfl | rfl
 · exact node_selA (hG.below hb) (HN.below hb) hg hl (i := 2) rfl rfl hpl (by show ¬ ((6 : Int) = 8); decide) hK
 · exact node_has (hG.below hb) (HN.below hb) hg hl (i := 2) rfl rfl hpl hK
theorem names_pr8 {s : ByteArray} (hpl : plQ s) : ((selB s).size ≤ 4096 → printR (oneT 8 s) = selB s ∧ ∃ l, parseP pfA (printR (oneT 8 s)) = .ok l ∧ is3 s 8 l) ∧ (4096 < (selB s).size → printR (oneT 8 s) = ⟨#[]⟩) := by
 have e : (⟨(prX (oneT 8 s)).toArray⟩ : ByteArray) = selB s := by rw [oneT_pr8]
 refine ⟨fun h => ?_, fun h => ?_⟩
 · obtain ⟨l, h1, h2⟩ := sel_read hpl h
   have e2 : printR (oneT 8 s) = selB s := by
    unfold printR; rw [e, h1]
   exact ⟨e2, l, by rw [e2]; exact h1, h2⟩
 · obtain ⟨er, h1⟩ := long_read h
   unfold printR; rw [e, h1]
theorem names_pr9 {s : ByteArray} (hpl : plQ s) : ((hasB s).size ≤ 4096 → printR (oneT 9 s) = hasB s ∧ ∃ l, parseP pfA (printR (oneT 9 s)) = .ok l ∧ is3 s 9 l) ∧ (4096 < (hasB s).size → printR (oneT 9 s) = ⟨#[]⟩) := by
 have e : (⟨(prX (oneT 9 s)).toArray⟩ : ByteArray) = hasB s := by rw [oneT_pr9]
 refine ⟨fun h => ?_, fun h => ?_⟩
 · obtain ⟨l, h1, h2⟩ := has_read hpl h
   have e2 : printR (oneT 9 s) = hasB s := by
    unfold printR; rw [e, h1]
   exact ⟨e2, l, by rw [e2]; exact h1, h2⟩
 · obtain ⟨er, h1⟩ := long_read h
   unfold printR; rw [e, h1]
theorem names_law {NG : Nat} {w : World} (hG : GP NG w) (s : ByteArray) (hs : s.size ≤ maxLen) :
 Calls Tryz.prog 5 #[.string s] w fun e w' => e = .returned (.bool true) ∧ Below w.heap.size w w' := by
 have HSH := Lib.hid (shown13N hG); have HGB := Lib.hid (fun (w' : World) (hb : Below w.heap.size w w') => hG.below hb); have HS := Lib.hid hs; unfold maxLen at hs; clear hG; go_enter Tryz.func5, Tryz.ntmps5
 go_wp2_with fail; refine HSH.out.mono ?_; rintro e w2 ⟨rfl, hb2⟩; have HB2 := Lib.hid hb2; have hz2 := hb2.size; clear hb2; have hsz : decide ((s.size : Int) ≤ 1024) = plainK s 0 := by rw [plainK_zero]; exact decide_eq_decide.2 (by omega)
 go_upto_block 0 with fail
 clear hsz; go_cut [4] from 17 to 47 (fun m wx => m = .bool (plainF s) ∧ wx = w2)
 case first =>
  go_wp2_with fail; go_loopw [4, 5] (fun m iv wr => ∃ k : Nat, k ≤ s.size ∧ iv = .int .i64 (k : Int) ∧ m = .bool (plainK s k) ∧ wr = w2) (fun _ iv _ => s.size - (intOf iv).toNat)
  case atStart => exact ⟨0, Nat.zero_le _, rfl, rfl, rfl⟩
  case round =>
   obtain ⟨k, hk, rfl, rfl, rfl⟩ := hrel; cases hp : plainK s k with
   | false =>
     have HPF := Lib.hid (plainK_no hp); clear hp
     go_wp2_with fail
     all_goals
      go_meet; exact ⟨by rw [HPF.out], rfl⟩
   | true =>
     by_cases hlt : k < s.size
     · have hsu := plainK_succ hlt hp
       clear hp; rw [ctl_nat] at hsu; have HSU := Lib.hid hsu; have hw1 : IntKind.i64.wrap ((k : Int) + 1) = (k : Int) + 1 := IntWalk.i64_in _ (by omega); have hkI : (k : Int) < (s.size : Int) := by omega
       obtain ⟨b, hb⟩ : ∃ b, s[k].toNat = b := ⟨_, rfl⟩; have hbl : b < 256 := by rw [← hb]; exact s[k].toNat_lt
       have hrd : s[(k : Nat)].toNat = b := hb; rw [hb] at HSU; clear hsu; by_cases h9 : b = 9
       · subst h9
         go_wp2_with fail; go_roundw
         case rel => exact ⟨k + 1, by omega, by go_num, by rw [HSU.out]; rfl, trivial⟩
         case measure => simp [intOf]; omega
       · by_cases h10 : b = 10
         · subst h10
           go_wp2_with fail; go_roundw
           case rel => exact ⟨k + 1, by omega, by go_num, by rw [HSU.out]; rfl, trivial⟩
           case measure => simp [intOf]; omega
         · have i9 : ((b : Int) == 9) = false := beq_eq_false_iff_ne.2 (by omega)
           have i10 : ((b : Int) == 10) = false := beq_eq_false_iff_ne.2 (by omega); have n9 : (b == 9) = false := beq_eq_false_iff_ne.2 h9; have n10 : (b == 10) = false := beq_eq_false_iff_ne.2 h10; rw [n9, n10, Bool.or_false, Bool.or_false] at HSU; clear h9 h10 n9 n10; by_cases h32 : b < 32
           · have i32 : decide ((32 : Int) ≤ (b : Int)) = false := decide_eq_false (by omega)
             have e32 : decide (32 ≤ b) = false := decide_eq_false (by omega); rw [e32, Bool.false_and] at HSU; clear e32 h32
             go_wp2_with fail; go_roundw
             case rel => exact ⟨k + 1, by omega, by go_num, by rw [HSU.out], trivial⟩
             case measure => simp [intOf]; omega
           · have i32 : decide ((32 : Int) ≤ (b : Int)) = true := decide_eq_true (by omega)
             have e32 : decide (32 ≤ b) = true := decide_eq_true (by omega); rw [e32, Bool.true_and] at HSU; clear e32 h32; by_cases h127 : b = 127
             · subst h127
               go_wp2_with fail; go_roundw
               case rel => exact ⟨k + 1, by omega, by go_num, by rw [HSU.out]; rfl, trivial⟩
               case measure => simp [intOf]; omega
             · have i127 : ((b : Int) == 127) = false := beq_eq_false_iff_ne.2 (by omega)
               have j127 : ((b : Int) != 127) = true := by rw [bne, i127]; rfl
               have n127 : (b == 127) = false := beq_eq_false_iff_ne.2 h127; rw [n127] at HSU; clear n127 h127
               go_wp2_with fail; go_roundw
               case rel => exact ⟨k + 1, by omega, by go_num, by rw [HSU.out]; rfl, trivial⟩
               case measure => simp [intOf]; omega
     · obtain rfl : k = s.size := by omega
       rw [plainK_full] at hp; have HPF := Lib.hid hp; clear hp hlt
       go_wp2_with fail; go_meet; exact ⟨by rw [HPF.out], rfl⟩
 case rest =>
  obtain ⟨rfl, rfl⟩ := hcut; have hsf := store_f64; go_upto_region 10 with fail
  obtain ⟨Z, hZ⟩ : ∃ Z, wc.heap.size = Z := ⟨_, rfl⟩; rw [hZ]; refine with_world' fun w3 hw3 => ?_
  have hnf : NRd (fun _ => True) (fun _ _ => True) w3 (Z + 1 + 1 + 1 + 1) 0 (nv3 8 s (Z + 1) (Z + 1 + 1) (Z + 1 + 1 + 1)) := by
   rw [hw3]; refine nrd3 (e := 36) ?_ ?_ ?_ ?_
   · repeat' (first | (refine block_new _ _ ?_; simp [hZ]; done) | refine block_alloc ?_ _)
   · repeat' (first | (refine block_new _ _ ?_; simp [hZ]; done) | refine block_alloc ?_ _)
   · repeat' (first | (refine block_new _ _ ?_; simp [hZ]; done) | refine block_alloc ?_ _)
   · repeat' (first | (refine block_new _ _ ?_; simp [hZ]; done) | refine block_alloc ?_ _)
  have hng : NRd (fun _ => True) (fun _ _ => True) w3 (Z + 1 + 1 + 1 + 1 + 1 + 1 + 1 + 1) 0 (nv3 9 s (Z + 1 + 1 + 1 + 1 + 1) (Z + 1 + 1 + 1 + 1 + 1 + 1) (Z + 1 + 1 + 1 + 1 + 1 + 1 + 1)) := by
   rw [hw3]; refine nrd3 (e := 36) ?_ ?_ ?_ ?_
   · repeat' (first | (refine block_new _ _ ?_; simp [hZ]; done) | refine block_alloc ?_ _)
   · repeat' (first | (refine block_new _ _ ?_; simp [hZ]; done) | refine block_alloc ?_ _)
   · repeat' (first | (refine block_new _ _ ?_; simp [hZ]; done) | refine block_alloc ?_ _)
   · repeat' (first | (refine block_new _ _ ?_; simp [hZ]; done) | refine block_alloc ?_ _)
  have hb3 : Below wc.heap.size wc w3 := by rw [hw3]; (repeat' first | (with_reducible first | exact Below.refl _ _ | assumption | refine below_drewN ?_ _ | refine Below.drew ?_ | refine Below.alloc ?_ ?_ _ | refine Below.setCell ?_ ?_ _) | omega | (simp; done) | (simp; omega))
  have HB3 := Lib.hid (HB2.out.next hb3); have HG3 := Lib.hid (HGB.out w3 HB3.out); have HR8 := Lib.hid (fun (w' : World) (hb : Below w3.heap.size w3 w') => Right3_any (c := 3) (HG3.out.below hb) (Or.inl rfl) HS.out (hnf.below hb)); have HR9 := Lib.hid (fun (w' : World) (hb : Below w3.heap.size w3 w') => Right3_any (c := 3) (HG3.out.below hb) (Or.inr rfl) HS.out (hng.below hb)); have HP8 := Lib.hid (fun (hp : plainF s = true) (w' : World) (hb : Below w3.heap.size w3 w') => Print3_any (c := 3) (HG3.out.below hb) (Or.inl rfl) HS.out (hnf.below hb) hp); have HP9 := Lib.hid (fun (hp : plainF s = true) (w' : World) (hb : Below w3.heap.size w3 w') => Print3_any (c := 3) (HG3.out.below hb) (Or.inr rfl) HS.out (hng.below hb) hp); have HPA := Lib.hid (fun (w' : World) (hb : Below w3.heap.size w3 w') t => Parse_any (HG3.out.below hb) t); clear hnf hng hb3 hw3 HSH HB2 hsf; generalize Z + 1 + 1 + 1 + 1 + 1 + 1 + 1 + 1 = g9 at *; generalize Z + 1 + 1 + 1 + 1 = g8 at *; clear hZ; obtain ⟨pl, hpl⟩ : ∃ pl, plainF s = pl := ⟨_, rfl⟩; rw [hpl] at HR8 HR9 ⊢; have HPL := Lib.hid hpl; clear hpl
  go_wp2_with fail; refine (HR8.out _ (Below.refl _ _)).mono ?_; rintro e w4 ⟨rfl, hb4⟩; have HB4 := Lib.hid hb4; clear hb4
  go_wp2_with fail; refine (HR9.out _ HB4.out).mono ?_; rintro e w5 ⟨rfl, hb5⟩; have HB5 := Lib.hid (HB4.out.next hb5); clear hb5 HB4; cases pl with
  | false =>
    have HN8 := Lib.hid (fun (w' : World) (hb : Below w3.heap.size w3 w') => Print_no (HR8.out w' hb)); have HN9 := Lib.hid (fun (w' : World) (hb : Below w3.heap.size w3 w') => Print_no (HR9.out w' hb))
    go_wp2_with fail; refine (HN8.out _ HB5.out).mono ?_; rintro e w6 ⟨rfl, hb6⟩; have HB6 := Lib.hid (HB5.out.next hb6); clear hb6
    go_wp2_with fail; refine (HN9.out _ HB6.out).mono ?_; rintro e w7 ⟨rfl, hb7⟩; have HB7 := Lib.hid (HB6.out.next hb7); clear hb7
    go_wp2_with fail; go_ret; exact ⟨rfl, HB3.out.next HB7.out⟩
  | true =>
    have HQ8 := Lib.hid (HP8.out HPL.out); have HQ9 := Lib.hid (HP9.out HPL.out); clear HP8 HP9 HR8 HR9; obtain ⟨P8, hP8⟩ : ∃ P, printR (oneT 8 s) = P := ⟨_, rfl⟩; obtain ⟨P9, hP9⟩ : ∃ P, printR (oneT 9 s) = P := ⟨_, rfl⟩; rw [hP8] at HQ8; rw [hP9] at HQ9; have hr8 := names_pr8 (plF_pl HPL.out); have hr9 := names_pr9 (plF_pl HPL.out); rw [hP8] at hr8; rw [hP9] at hr9; clear hP8 hP9; have hl9 : 4096 < (hasB s).size → 900 < s.size := fun h => by
     have h1 := aB_len s; have h2 := hasB_size s; omega
    have hl8 : 4096 < (selB s).size → 900 < s.size := fun h => by
     have h1 := aB_len s; have h2 := selB_size s; omega
    by_cases hs8 : 4096 < (selB s).size
    · have h900 : (900 : Int) < (s.size : Int) := by have := hl8 hs8; omega
      have e8 : P8 = ⟨#[]⟩ := hr8.2 hs8; subst e8; clear hr8 hr9 hl8 hl9
      go_wp2_with fail; refine (HQ8.out _ HB5.out).mono ?_; rintro e w6 ⟨rfl, hb6⟩; have HB6 := Lib.hid (HB5.out.next hb6); clear hb6
      go_wp2_with fail; go_ret; exact ⟨rfl, HB3.out.next HB6.out⟩
    · obtain ⟨e8, l8, hp8, hi8⟩ := hr8.1 (by omega)
      have n8 : P8.toList.isEmpty = false := by
       rw [e8, ByteArray.toList_eq]; rfl
      have HE8 := Lib.hid hp8; have HI8 := Lib.hid hi8; clear e8 hp8 hi8 hr8 hl8
      go_wp2_with fail; refine (HQ8.out _ HB5.out).mono ?_; rintro e w6 ⟨rfl, hb6⟩; have HB6 := Lib.hid (HB5.out.next hb6); clear hb6; by_cases hs9 : 4096 < (hasB s).size
      · have h900 : (900 : Int) < (s.size : Int) := by have := hl9 hs9; omega
        have e9 : P9 = ⟨#[]⟩ := hr9.2 hs9; subst e9; clear hr9 hl9
        go_wp2_with fail; refine (HQ9.out _ HB6.out).mono ?_; rintro e w7 ⟨rfl, hb7⟩; have HB7 := Lib.hid (HB6.out.next hb7); clear hb7
        go_wp2_with fail; go_ret; exact ⟨rfl, HB3.out.next HB7.out⟩
      · obtain ⟨e9, l9, hp9, hi9⟩ := hr9.1 (by omega)
        have n9 : P9.toList.isEmpty = false := by
         rw [e9, ByteArray.toList_eq]; rfl
        have HE9 := Lib.hid hp9; have HI9 := Lib.hid hi9; clear e9 hp9 hi9 hr9 hl9
        go_wp2_with fail; refine (HQ9.out _ HB6.out).mono ?_; rintro e w7 ⟨rfl, hb7⟩; have HB7 := Lib.hid (HB6.out.next hb7); clear hb7
        go_wp2_with fail; refine (HQ8.out _ HB7.out).mono ?_; rintro e w8 ⟨rfl, hb8⟩; have HB8 := Lib.hid (HB7.out.next hb8); clear hb8; have HX8 := HPA.out w8 HB8.out P8; rw [HE8.out] at HX8; have HX8 := Lib.hid HX8
        go_wp2_with fail; refine HX8.out.mono ?_; rintro e w9 ⟨⟨v8, ls8, A8, B8, rfl, hd8, hm8, _, _⟩, hb9⟩; have HB9 := Lib.hid (HB8.out.next hb9); clear hb9 HX8; obtain ⟨x8, y8, p8, hl8, hn8⟩ := HI8.out; have hlen8 : ls8.length = 3 := by rw [← List.length_map (f := NV.nd), hm8, hl8]; rfl
        obtain ⟨y1, hy1⟩ : ∃ y, ls8[1]? = some y := ⟨ls8[1]'(by omega), List.getElem?_eq_getElem _⟩; obtain ⟨y2, hy2⟩ : ∃ y, ls8[2]? = some y := ⟨ls8[2]'(by omega), List.getElem?_eq_getElem _⟩; have hq1 : y1.nd = y8 := by
         have h : (ls8.map NV.nd)[1]? = some y1.nd := by rw [List.getElem?_map, hy1]; rfl
         rw [hm8, hl8] at h; exact (Option.some.inj h).symm
        have hq2 : y2.nd = ⟨8, s, 0, 0, [], [1], p8⟩ := by
         have h : (ls8.map NV.nd)[2]? = some y2.nd := by rw [List.getElem?_map, hy2]; rfl
         rw [hm8, hl8] at h; exact (Option.some.inj h).symm
        obtain ⟨f8, n8', c8, ev8, en8, _⟩ := hd8.at_ne hy1; subst ev8; rw [hlen8] at en8; subst en8; have hrd8 := hd8.rd; obtain ⟨_, _, _, _, _, _, _, _, _, _, a4, _, _, _, hnm8⟩ := hrd8.seven hy1; obtain ⟨_, _, _, _, _, _, _, b1, _, _, _, _, _, _, _⟩ := hrd8.seven hy2; rw [hq1, hn8] at a4 hnm8; rw [hq2] at b1; obtain ⟨nb8, ea8, cn8⟩ := hnm8 0 s rfl; subst ea8; simp only [Nat.zero_add, List.length_cons, List.length_nil, Nat.reduceMul, Nat.reduceAdd] at a4 b1; clear hrd8 hnm8 hy1 hy2 hq1 hq2 hd8 hm8 hlen8
        go_wp2_with fail; refine (HQ9.out _ HB9.out).mono ?_; rintro e w10 ⟨rfl, hb10⟩; have HB10 := Lib.hid (HB9.out.next hb10); have a4 := cell_keeps hb10 a4; have b1 := cell_keeps hb10 b1; have cn8 := cell_keeps hb10 cn8; clear hb10; have HX9 := HPA.out w10 HB10.out P9; rw [HE9.out] at HX9; have HX9 := Lib.hid HX9
        go_wp2_with fail; refine HX9.out.mono ?_; rintro e w11 ⟨⟨v9, ls9, A9, B9, rfl, hd9, hm9, _, _⟩, hb11⟩; have HB11 := Lib.hid (HB10.out.next hb11); have a4 := cell_keeps hb11 a4; have b1 := cell_keeps hb11 b1; have cn8 := cell_keeps hb11 cn8; clear hb11 HX9; obtain ⟨x9, y9, p9, hl9, hn9⟩ := HI9.out; have hlen9 : ls9.length = 3 := by rw [← List.length_map (f := NV.nd), hm9, hl9]; rfl
        obtain ⟨y2, hy2⟩ : ∃ y, ls9[2]? = some y := ⟨ls9[2]'(by omega), List.getElem?_eq_getElem _⟩; have hq2 : y2.nd = ⟨9, s, 0, 0, [], [1], p9⟩ := by
         have h : (ls9.map NV.nd)[2]? = some y2.nd := by rw [List.getElem?_map, hy2]; rfl
         rw [hm9, hl9] at h; exact (Option.some.inj h).symm
        obtain ⟨f9, n9', c9, ev9, en9, _⟩ := hd9.at_ne hy2; subst ev9; rw [hlen9] at en9; subst en9; have hrd9 := hd9.rd; obtain ⟨_, _, _, _, _, _, d0, d1, _, _, _, _, _, _, _⟩ := hrd9.seven hy2; rw [hq2] at d0 d1; simp only [Nat.zero_add, Nat.reduceMul, Nat.reduceAdd] at d0 d1; clear hrd9 hy2 hq2 hd9 hm9 hlen9
        go_wp2_with fail; go_ret; exact ⟨rfl, HB3.out.next HB11.out⟩
end Go.Proofs.YtkoghgnjjfnamaaGreatDoor
