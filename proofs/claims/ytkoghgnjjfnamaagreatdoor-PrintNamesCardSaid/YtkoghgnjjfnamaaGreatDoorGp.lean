/- Gp: what is used of them. -/
import Derived.StillTailTactics
import Derived.Test.YtkoghgnjjfnamaaGreatDoorGb
import Derived.Deep.RegionHeld3
namespace Go.Proofs.YtkoghgnjjfnamaaGreatDoor
set_option maxRecDepth 100000
set_option maxHeartbeats 8000000
open Go
section
variable {P : Program} {md : Region.Mode}
def waitsB (md : Region.Mode) (ops : Array Oper) (n : Nat) : Bool :=
 (List.range n).all (fun i => (List.range (n + 1)).any fun j => decide (i < j) && Region.waitsFor md ops j i) &&
 (List.range ops.size).all (fun t => decide (t ≤ n) || (List.range t).any fun j => decide (n ≤ j) && Region.waitsFor md ops t j)
def plainB (ops : List Oper) : Bool := ops.all fun o => o.guard.isNone
def backAll (md : Region.Mode) (ops : Array Oper) (n : Nat) : Bool := (List.range n).all fun i => match ops[i]? with | some o => o.after.all fun e => !(Region.binds md e) || decide (e.on < i) | none => true
theorem late_waits {ops : Array Oper} {n : Nat} {listed : Array Bool} (hw : waitsB md ops n = true) (hn : n < ops.size) (inv : HeadInv md ops n listed) :
 ∀ (d i : Nat), n - i = d → i < n → listed.getD i true = false → ∀ t, n ≤ t → t ∉ Region.ready md ops listed := by
 simp only [waitsB, Bool.and_eq_true] at hw; obtain ⟨hw1, hw2⟩ := hw; rw [List.all_eq_true] at hw1 hw2; intro d; induction d using Nat.strongRecOn with
 | ind d ih =>
   intro i hd hi hun t ht hr; obtain ⟨_, ot, hot, hall⟩ := mem_ready.1 hr; have htlt : t < ops.size := (Array.getElem?_eq_some_iff.1 hot).1; by_cases htn : t = n
   · subst htn
     have h1 := hw1 i (List.mem_range.2 hi); rw [List.any_eq_true] at h1; obtain ⟨j, hj, h1⟩ := h1; rw [Bool.and_eq_true, decide_eq_true_eq] at h1; obtain ⟨hij, h1⟩ := h1; have hjt : j < t + 1 := List.mem_range.1 hj; obtain ⟨oj, hoj, e, he, hb, hon⟩ := Region.waitsFor_spec h1; by_cases hjeq : j = t
     · subst hjeq
       have : oj = ot := Option.some.inj (hoj.symm.trans hot); subst this
       have := hall e he hb; rw [hon, getD_both hun] at this; cases this
     · have hju : listed.getD j true = false := by
        have hjs : j < listed.size := by rw [inv.size]; omega
        cases hlj : listed.getD j false with
        | false => exact getD_in hjs hlj
        | true =>
          have := inv.closed j oj hoj hlj e he hb; rw [hon, getD_both hun] at this; cases this
       exact ih (t - j) (by omega) j rfl (by omega) hju t (Nat.le_refl _) hr
   · have h2 := hw2 t (List.mem_range.2 htlt)
     rw [Bool.or_eq_true] at h2; rcases h2 with h2 | h2
     · simp at h2; omega
     · rw [List.any_eq_true] at h2
       obtain ⟨j, hj, h2⟩ := h2; rw [Bool.and_eq_true, decide_eq_true_eq] at h2; obtain ⟨oj, hoj, e, he, hb, hon⟩ := Region.waitsFor_spec h2.2; have : oj = ot := Option.some.inj (hoj.symm.trans hot); subst this; have hjt := List.mem_range.1 hj
       have := hall e he hb; rw [hon, getD_both (inv.tail j h2.1 (by omega))] at this; cases this
theorem all_listed {ops : Array Oper} {n : Nat} {listed : Array Bool} (hb : backAll md ops n = true) (hn : n ≤ ops.size) (hs : listed.size = ops.size) (hr : ∀ i, i < n → i ∉ Region.ready md ops listed) : ∀ i, i < n → listed.getD i false = true := by
 intro i; induction i using Nat.strongRecOn with
 | ind i ih =>
   intro hi; cases hl : listed.getD i false with
   | true => rfl
   | false =>
     have ho : ops[i]? = some ops[i] := Array.getElem?_eq_getElem (by omega); refine absurd (mem_ready.2 ⟨getD_in (by omega) hl, _, ho, fun e he hbd => ?_⟩) (hr i hi); unfold backAll at hb; rw [List.all_eq_true] at hb; have h1 := hb i (List.mem_range.2 hi); rw [ho] at h1; simp only [Array.all_eq_true_iff_forall_mem] at h1; have h2 : e.on < i := by simpa [hbd] using h1 e he
     exact ih e.on h2 (by omega)
theorem heads_any {ops opsH : Array Oper} {n g : Nat} {w : World} {Q' : Exit → Act → World → Prop} {Lq : Act → Prop} (hw : waitsB md ops n = true) (hb : backAll md ops n = true) (hn : n < ops.size)
 (hH : ∀ i, i < n → opsH[i]? = ops[i]?) (hHs : ∀ i, n ≤ i → opsH[i]? = none) (hpl : ∀ i o, i < n → ops[i]? = some o → o.guard = none)
 (hL : ∀ listed a, (∀ i, i < n → listed.getD i false = true) → (∀ i, n ≤ i → i < ops.size → listed.getD i true = false) → listed.size = ops.size → Lq a → wpAny P md ops Q' g listed a w) :
 ∀ (f : Nat) (listed : Array Bool) (a : Act), HeadInv md ops n listed → f = ((List.range n).filter fun i => !(listed.getD i false)).length → wpAnyS P md opsH w Lq f listed a → wpAny P md ops Q' (f + g) listed a w := by
 have sub : ∀ listed i, i ∈ Region.ready md opsH listed → i < n ∧ i ∈ Region.ready md ops listed := by
  intro listed i hi; obtain ⟨h0, o, ho, hall⟩ := mem_ready.1 hi; have hin : i < n := by
   rcases Nat.lt_or_ge i n with h | h
   · exact h
   · rw [hHs i h] at ho; cases ho
  exact ⟨hin, mem_ready.2 ⟨h0, o, by rw [← hH i hin]; exact ho, hall⟩⟩
 have sup : ∀ listed i, i < n → i ∈ Region.ready md ops listed → i ∈ Region.ready md opsH listed := by
  intro listed i hin hi; obtain ⟨h0, o, ho, hall⟩ := mem_ready.1 hi; exact mem_ready.2 ⟨h0, o, by rw [hH i hin]; exact ho, hall⟩
 intro f; induction f with
 | zero =>
   intro listed a inv hf h; rw [Nat.zero_add]; have hr : Region.ready md opsH listed = [] := h.1; refine hL listed a (all_listed (md := md) hb (by omega) inv.size fun i hi hm => ?_) inv.tail inv.size h.2
   have := sup listed i hi hm; rw [hr] at this; cases this
 | succ f ih =>
   intro listed a inv hf h; rw [show f + 1 + g = (f + g) + 1 by omega]; have hun : ∃ i, i < n ∧ listed.getD i true = false := by
    have : 0 < ((List.range n).filter fun i => !(listed.getD i false)).length := by omega
    obtain ⟨i, hi⟩ := List.exists_mem_of_length_pos this; rw [List.mem_filter, List.mem_range] at hi; exact ⟨i, hi.1, getD_in (by rw [inv.size]; omega) (by simpa using hi.2)⟩
   obtain ⟨i0, hi0, hu0⟩ := hun; have hnone := late_waits hw hn inv _ i0 rfl hi0 hu0; refine ⟨fun h0 => ?_, fun i hi => ?_⟩
   · exfalso
     have := all_listed (md := md) hb (Nat.le_of_lt hn) inv.size (fun i _ hm => by rw [h0] at hm; cases hm) i0 hi0; rw [getD_both hu0] at this; cases this
   · have hin : i < n := by
      rcases Nat.lt_or_ge i n with h1 | h1
      · exact h1
      · exact absurd hi (hnone i h1)
     obtain ⟨hiu, oi, hoi, _⟩ := mem_ready.1 hi; have h1 := h.2 i (sup listed i hin hi); have hg := hpl i oi hin hoi; have hst : stOp P ops w i (wpAnyS P md opsH w Lq f (listed.setIfInBounds i true)) a := by
      unfold stOp at h1 ⊢; rw [hH i hin] at h1; rw [hoi] at h1 ⊢; simp only [Region.wanted, hg] at h1 ⊢; exact h1
     refine wpOp_of_stOp (fun a' h' => ih _ a' (inv.set hi hin) ?_ h') hst; have his : i < listed.size := by rw [inv.size]; omega
     have key : (List.range n).filter (fun j => !((listed.setIfInBounds i true).getD j false)) = ((List.range n).filter fun j => !(listed.getD j false)).filter (fun j => !(j == i)) := by
      rw [List.filter_filter]; apply List.filter_congr
      intro j _; by_cases hj : i = j
      · subst hj; simp [his]
      · rw [getD_set_ne false hj]
        have : (j == i) = false := by simp; omega
        simp [this]
     rw [key]; have hmem : i ∈ (List.range n).filter fun j => !(listed.getD j false) := by
      rw [List.mem_filter, List.mem_range]; exact ⟨hin, by rw [getD_both hiu]; rfl⟩
     have hnd : ((List.range n).filter fun j => !(listed.getD j false)).Nodup := List.Pairwise.filter _ List.nodup_range; have he : ((List.range n).filter fun j => !(listed.getD j false)).filter (fun j => !(j == i)) = ((List.range n).filter fun j => !(listed.getD j false)).erase i := by
      rw [hnd.erase_eq_filter]; rfl
     rw [he, List.length_erase_of_mem hmem]; omega
def midB (l : List Oper) (n : Nat) : Bool :=
 Region.noSelect l.toArray && Region.noSelect (l.take n).toArray && decide (n < l.length) && waitsB .any l.toArray n && backAll .any l.toArray n && plainB (l.take n) &&
 Region.lexFrom .any (l.take n).toArray n 0 (Array.replicate l.length false) &&
 decide (Region.ready .any l.toArray (Array.replicate n true ++ Array.replicate (l.length - n) false) = [n]) &&
 Region.lexFrom .any l.toArray (l.length - (n + 1)) (n + 1) (Array.replicate (n + 1) true ++ Array.replicate (l.length - (n + 1)) false)
theorem getD_app_lt {j i k : Nat} (h : j < i) : (Array.replicate i true ++ Array.replicate k false).getD j false = true := by
 rw [Array.getD_eq_getD_getElem?, Array.getElem?_append_left (by simpa using h)]; simp [h]
theorem getD_app_ge {j i k : Nat} (h : i ≤ j) (h2 : j < i + k) : (Array.replicate i true ++ Array.replicate k false).getD j true = false := by
 rw [Array.getD_eq_getD_getElem?, Array.getElem?_append_right (by simpa using h)]; simp [show j - i < k by omega]
theorem listed_eq {listed : Array Bool} {n m : Nat} (hn : n ≤ m) (hs : listed.size = m) (h1 : ∀ i, i < n → listed.getD i false = true) (h2 : ∀ i, n ≤ i → i < m → listed.getD i true = false) : listed = Array.replicate n true ++ Array.replicate (m - n) false := by
 apply Array.ext
 · simp; omega
 · intro i hi hi'
   by_cases h : i < n
   · have := h1 i h
     simp [hi] at this
     rw [this, Array.getElem_append_left (by simpa using h)]; simp
   · have := h2 i (by omega) (by omega)
     simp [hi] at this
     rw [this, Array.getElem_append_right (by simp; omega)]; simp
theorem wp_region_mid {id : Nat} {Q : Exit → Act → World → Prop} {a : Act} {w : World} {l : List Oper} {o : Oper} (n : Nat) (hm : P.follows .mixedOrders = true) (hB : midB l n = true) (ho : l[n]? = some o) (hg : o.guard = none)
 (h : wpStill P (l.take n).toArray { w with drawn := w.drawn + 1 } (fun a' => o.wp P a' { w with drawn := w.drawn + 1 } (fun a2 w2 => wpStill P l.toArray w2 (fun a3 => Q .normal a3 w2) (l.drop (n + 1)) a2) Q) (l.take n) a) :
 (Code.region id l.toArray true).wp P Q a w := by
 simp only [midB, Bool.and_eq_true, decide_eq_true_eq] at hB; obtain ⟨⟨⟨⟨⟨⟨⟨⟨hsel, hselH⟩, hn⟩, hw⟩, hb⟩, hpl⟩, hlex⟩, hrd⟩, hlex2⟩ := hB; refine wp_region_any hm ?_; have hsz : l.toArray.size = l.length := by simp
 have htl : (l.take n).length = n := by simp; omega
 have inv0 : HeadInv .any l.toArray n (Array.replicate l.length false) :=
  ⟨by simp, fun j oj _ hl => (by rw [getD_replicate_false] at hl; cases hl), fun t _ ht => getD_in (by simpa using ht) (getD_replicate_false _ _)⟩
 have hlexH := wpAnyS_lex (P := P) (md := .any) (ops := (l.take n).toArray) hselH (l.take n) 0 (Array.replicate l.length false) a (fun j => by simp) (by rw [htl]; exact hlex) h; rw [htl] at hlexH
 have := heads_any (P := P) (md := .any) (ops := l.toArray) (opsH := (l.take n).toArray) (n := n) (g := l.length - n) (w := { w with drawn := w.drawn + 1 }) (Q' := Q) hw hb (by simpa using hn)
  (fun i hi => by simp [hi]) (fun i hi => by simp; omega)
  (fun i oi hi hoi => by
   unfold plainB at hpl; rw [List.all_eq_true] at hpl
   have := hpl oi (List.mem_of_getElem? (i := i) (by rw [List.getElem?_take, if_pos hi]; simpa using hoi)); simpa using this)
  (fun listed a' h1 h2 h3 hLq => by
   have hle := listed_eq (Nat.le_of_lt hn) (by rw [h3, hsz]) h1 (fun i hi hi' => h2 i hi (by rw [hsz]; exact hi')); subst hle; obtain ⟨k, hk⟩ : ∃ k, l.length - n = k + 1 := ⟨l.length - n - 1, by omega⟩; rw [hk]; refine ⟨fun h0 => (by rw [← hk, hrd] at h0; cases h0), fun i hi => ?_⟩; rw [← hk, hrd] at hi; have hin : i = n := by simpa using hi
   subst hin; unfold wpOp; have hoi : l.toArray[i]? = some o := by simpa using ho
   rw [hoi]; simp only [Region.wanted, hg, if_true]; refine Or.inl (Oper.wp_mono (fun a2 w2 h2' => ?_) hLq); have hset : (Array.replicate i true ++ Array.replicate (k + 1) false).setIfInBounds i true = Array.replicate (i + 1) true ++ Array.replicate (l.length - (i + 1)) false := by
    apply listed_eq (by omega)
    · simp; omega
    · intro j hj
      by_cases e : i = j
      · subst e; simp
      · rw [getD_set_ne false e]
        exact getD_app_lt (by omega)
    · intro j hj hj'
      rw [getD_set_ne true (by omega)]; exact getD_app_ge (by omega) (by omega)
   rw [hset]; have hk2 : k = (l.drop (i + 1)).length := by simp; omega
   rw [hk2]; refine wpAny_of_still (Q := fun a3 => Q .normal a3 w2) (fun _ h => h) _ _ _ ?_; refine wpAnyS_lex (md := .any) hsel (l.drop (i + 1)) (i + 1) _ a2 (fun j => by simp [List.getElem?_drop]) ?_ h2'; simpa using hlex2)
  n (Array.replicate l.length false) a inv0 (by
    have : (List.range n).filter (fun i => !((Array.replicate l.length false).getD i false)) = List.range n := by
     rw [List.filter_eq_self]; intro i hi; rw [getD_replicate_false]; rfl
    rw [this]; simp) hlexH
 rw [show n + (l.length - n) = l.length by omega] at this; simpa using this
end
open Go.RowKit
theorem number_any {NG : Nat} {G : World → Prop} {D : ByteArray → Prop} {pf : ByteArray → Nat} (E : Env NG G D pf) {g a0 : Nat} {s : ByteArray} {out : Value} {ts : List Tok} {w : World} (hG : G w) (hNG : NG ≤ g)
 (hr : RD w g s a0 out) (hown : w.ownsRow (g + 1) 54 5 out ts.length (flatT ts)) (ha : a0 < s.size) (hs : s.size ≤ 4096) (hn : ts.length ≤ 5000)
 (hD : dotB s (runTo digitB s a0) = true → D (s.extract a0 (expEnd s (runTo digitB s (runTo digitB s a0 + 1))))) :
 Calls Tryz.prog 31 #[.pointer (some ⟨g, 0, none⟩)] w fun e w' => TokPost g s ts w (numP pf s a0) e w' := by
 have hlt := hr.lt; have c0 := hr.c0; have c1 := hr.c1; have he0 := runTo_ge digitB s a0; have he0' := runTo_le digitB s (Nat.le_of_lt ha); have HRUN := Lib.hid (run_any enters_digit hr hs (Nat.le_of_lt ha) digit_any); have HRES := Lib.hid (show numP pf s a0 = _ from rfl); unfold numP at HRES; have HRES : Hid (numP pf s a0 = _) := HRES; generalize numP pf s a0 = res at *; generalize hE0 : runTo digitB s a0 = e0 at *; have HE0 := Lib.hid hE0; clear hE0; have HRD := Lib.hid hr; have HOWN := Lib.hid hown; have HD := Lib.hid hD; clear hr hown hD; obtain ⟨c, hc⟩ : ∃ c, s[a0] = c := ⟨_, rfl⟩; have hbt := bt_some ha; rw [hc] at hbt; have HBT := Lib.hid hbt; clear hbt; by_cases hz : 1 < e0 - a0 ∧ c = 48
 · have HR : Hid (res = .error (a0, 4)) := by
    have := HRES.out; rw [HBT.out, hz.2] at this; simp [hz.1] at this
    exact this
   obtain ⟨hz1, rfl⟩ := hz; have hd1 : decide ((1 : Int) < (e0 : Int) - (a0 : Int)) = true := by simp; omega
   go_enter Tryz.func31, Tryz.ntmps31
   go_wp2_with fail; refine HRUN.out.mono ?_; rintro e w1 ⟨rfl, rfl⟩
   go_wp2_with fail; go_quiet (fail)
   go_wp2_with fail; refine (fault_any _ _ _).mono ?_; rintro e w2 ⟨v, rfl, hft, hb2⟩
   go_wp2_with fail; go_ret; rw [HR.out]; exact ⟨⟨_, rfl, hft⟩, (below_drewN (Below.refl _ _) _).trans (hb2.mono (Nat.le_of_lt hlt))⟩
 · have HR : Hid (res = if dotB s e0 = true then
    if 800 < expEnd s (runTo digitB s (e0 + 1)) - a0 then .error (a0, 4) else if infB (pf (s.extract a0 (expEnd s (runTo digitB s (e0 + 1))))) = true then .error (a0, 4) else .ok (⟨3, s.extract a0 (expEnd s (runTo digitB s (e0 + 1))), 0, pf (s.extract a0 (expEnd s (runTo digitB s (e0 + 1)))), a0⟩, expEnd s (runTo digitB s (e0 + 1))) else match Lib.parseIntB 64 (s.extract a0 e0).data.toList with
    | .ok v => .ok (⟨2, s.extract a0 e0, v, 0, a0⟩, e0)
    | _ => .error (a0, 4)) := by
    have h := HRES.out; rw [HBT.out] at h; have hf : (decide (1 < e0 - a0) && (some c == some 48)) = false := by
     rw [Bool.and_eq_false_iff]; by_cases h1 : 1 < e0 - a0
     · right; simpa using fun h2 => hz ⟨h1, h2⟩
     · left; simpa using h1
    rw [hf, if_neg (by simp)] at h; exact h
   clear HRES; go_enter Tryz.func31, Tryz.ntmps31
   go_wp2_with fail; refine HRUN.out.mono ?_; rintro e w1 ⟨rfl, rfl⟩; go_upto_region 2 with fail
   go_cut [35] (fun b wx => b = .bool false ∧ ∃ nq, wx = w.drewN nq)
   case first =>
    as_aux_lemma =>
     by_cases hz1 : 1 < e0 - a0
     · have hd1 : decide ((1 : Int) < (e0 : Int) - (a0 : Int)) = true := by simp; omega
       have hc48 : ((c.toNat : Int) == 48) = false := ne_nat (n := 48) (fun e => hz ⟨hz1, e⟩) (by decide)
       go_wp2_with fail; go_quiet (fail)
       go_wp2_with fail; go_meet; exact ⟨rfl, _, rfl⟩
     · have hd1 : decide ((1 : Int) < (e0 : Int) - (a0 : Int)) = false := by simp; omega
       go_wp2_with fail; go_quiet (fail)
       go_wp2_with fail; go_meet; exact ⟨rfl, _, rfl⟩
   case rest =>
    clear hz; obtain ⟨rfl, nq0, rfl⟩ := hcut; have hle0 : (e0 : Int) ≤ (s.size : Int) := by omega
    have hle1 : (0 : Int) ≤ (e0 : Int) := by omega
    go_upto_region 5 with fail
    go_cut [4, 60] (fun s4 b wx => s4 = .string (s.extract e0 s.size) ∧ b = .bool (!dotB s e0) ∧ wx = w.drewN nq0)
    case first =>
     as_aux_lemma =>
      obtain ⟨R, hR⟩ : ∃ R, s.extract e0 s.size = R := ⟨_, rfl⟩; have hRl : R.data.toList = s.data.toList.drop e0 := by rw [← hR]; exact extract_drop s e0
      have hRs : R.size = s.size - e0 := by
       have h1 : R.data.toList.length = R.size := Array.length_toList; have h2 : s.data.toList.length = s.size := Array.length_toList; rw [← h1, hRl, List.length_drop, h2]
      have hbt : ∀ j, R.data.toList[j]? = bt s (e0 + j) := fun j => by rw [hRl, List.getElem?_drop]; rfl
      have HBT2 := Lib.hid hbt; have HRS := Lib.hid hRs; clear hbt hRl hRs; by_cases hA : R.size < 2
      · have hdot : dotB s e0 = false := by
         unfold dotB; rw [bt_none (i := e0 + 1) (by have := HRS.out; omega)]; split
         · rename_i h; cases h
         · rfl
        have HDOT := Lib.hid hdot; have hd2 : decide ((R.size : Int) < 2) = true := by simp; omega
        clear hA hdot
        go_wp2_with fail; go_meet; exact ⟨by rw [hR], by rw [HDOT.out]; rfl, rfl⟩
      · have hA0 : 0 < R.size := by omega
        have hA1 : 1 < R.size := by omega
        obtain ⟨x, hx⟩ : ∃ x, R[0] = x := ⟨_, rfl⟩; obtain ⟨y, hy⟩ : ∃ y, R[1] = y := ⟨_, rfl⟩; have bx : bt s e0 = some x := by rw [← hx, ← byte_at hA0]; exact (HBT2.out 0).symm
        have bY : bt s (e0 + 1) = some y := by rw [← hy, ← byte_at hA1]; exact (HBT2.out 1).symm
        have hdot : dotB s e0 = (x == 46 && digitB y) := by unfold dotB; rw [bx, bY]
        have hd2 : decide ((R.size : Int) < 2) = false := by simp; omega
        have hcd := digit_any y; generalize digitB y = dy at *; have HDOT := Lib.hid hdot; have HCD := Lib.hid hcd; clear bx bY hdot hA hcd; by_cases hx46 : x = 46
        · subst hx46
          cases dy
          · go_wp2_with fail
            refine (HCD.out _).mono ?_; rintro e w1 ⟨rfl, rfl⟩
            go_wp2_with fail; go_meet; exact ⟨by rw [hR], by rw [HDOT.out]; rfl, rfl⟩
          · go_wp2_with fail
            refine (HCD.out _).mono ?_; rintro e w1 ⟨rfl, rfl⟩
            go_wp2_with fail; go_meet; exact ⟨by rw [hR], by rw [HDOT.out]; rfl, rfl⟩
        · have n46 := ne_nat' (n := 46) hx46 (by decide)
          have hx46' : (x == 46) = false := by simpa using hx46
          have HX46 := Lib.hid hx46'; clear hx46 hx46'
          go_wp2_with fail; go_meet; exact ⟨by rw [hR], by rw [HDOT.out, HX46.out]; rfl, rfl⟩
    case rest =>
     obtain ⟨rfl, rfl, rfl⟩ := hcut; cases hdot : dotB s e0
     ·
      as_aux_lemma =>
       have HR2 : Hid (res = (match Lib.parseIntB 64 (s.extract a0 e0).data.toList with
        | .ok v => .ok (⟨2, s.extract a0 e0, v, 0, a0⟩, e0)
        | _ => .error (a0, 4))) := by
        have h := HR.out; rw [hdot, if_neg (by simp)] at h; exact h
       have hle2 : (a0 : Int) ≤ (e0 : Int) := by omega
       have hle3 : (0 : Int) ≤ (a0 : Int) := by omega
       have hts : (s.extract a0 e0).size ≤ 4096 := by
        have h1 : (s.extract a0 e0).data.toList.length = (s.extract a0 e0).size := Array.length_toList; rw [← h1, Lib.extract_data, List.length_take]; omega
       have HTS := Lib.hid hts; clear HR hdot hts
       go_wp2_with fail; refine with_world fun W hW => ?_
       have hrdW : RD W g s a0 out := by rw [hW]; exact HRD.out
       have hownW : W.ownsRow (g + 1) 54 5 out ts.length (flatT ts) := by rw [hW]; exact HOWN.out
       have hbW : Below w.heap.size w W := by rw [hW]; exact below_drewN (Below.refl _ _) _
       clear hW; have d0 := hrdW.c0; have d1 := hrdW.c1; have hGW : G W := E.keeps _ _ _ hNG (hbW.mono (Nat.le_of_lt hlt)) hG; have hgW := hrdW.lt; rcases hp : Lib.parseIntB 64 (s.extract a0 e0).data.toList with v | _ | _
       ·
        have hcall : ∀ W', G W' → Calls Tryz.prog 52 #[.string (s.extract a0 e0), .int .i64 10, .int .i64 64] W' fun e w' => e = .returned (.tuple #[.int .i64 v, .nilIface]) ∧ Below W'.heap.size W' w' := fun W' hG' => by
         have := parseInt_any E hG' _ HTS.out; unfold IntPost at this; rw [hp] at this; exact this
        rw [hp] at HR2; have HCALL := Lib.hid hcall; clear hcall hp; refine wp_region_mid 10 (by kernel_rfl) (by kernel_rfl) rfl rfl ?_; simp only [List.take_succ_cons, List.take_zero, List.drop_succ_cons, List.drop_zero]
        repeat still_step
        refine wpStill_nil ?_; change Oper.wp _ _ _ W.drew _ _; go_simp
        refine (HCALL.out _ (E.keeps _ _ _ (Nat.le_trans hNG (Nat.le_of_lt hgW)) (Below.refl W.heap.size W).drew hGW)).mono ?_; rintro e w2 ⟨rfl, hb2⟩
        repeat still_step
        refine wpStill_nil ?_
        go_wp2_with fail; have hrd2 := (show RD W.drew g s a0 out from hrdW).below hb2; have hown2 := own_below (show W.drew.ownsRow (g + 1) 54 5 out ts.length (flatT ts) from hownW) hb2; have hbw2 : Below g w w2 := (hbW.mono (Nat.le_of_lt hlt)).trans ((show Below W.heap.size W w2 from (Below.refl W.heap.size W).drew.trans hb2).mono (Nat.le_of_lt hgW)); have d0 := hrd2.c0; have d1 := hrd2.c1; go_still_tail 14, (by kernel_rfl)
        change wpList _ _ _ _ _ w2.drew
        go_wp2_with fail; refine (put_at (z := e0) (⟨2, s.extract a0 e0, v, 0, a0⟩ : Tok) _ (w := w2.drew) hrd2 hown2 (by omega) rfl rfl).mono ?_; rintro e w3 ⟨rfl, out3, hrd3, hown3, hb3⟩
        go_wp2_with fail; go_ret; rw [HR2.out]; exact ⟨rfl, ⟨_, hrd3, hown3⟩, hbw2.drew.trans hb3⟩
       ·
        have hcall : ∀ W', G W' → Calls Tryz.prog 52 #[.string (s.extract a0 e0), .int .i64 10, .int .i64 64] W' fun e w' => (∃ n N, e = .returned (.tuple #[.int .i64 n, .iface 146 (.pointer (some ⟨N, 0, none⟩))])) ∧ Below W'.heap.size W' w' := fun W' hG' => by
         have := parseInt_any E hG' _ HTS.out; unfold IntPost at this; rw [hp] at this; exact this
        rw [hp] at HR2; have HCALL := Lib.hid hcall; clear hcall hp; refine wp_region_mid 10 (by kernel_rfl) (by kernel_rfl) rfl rfl ?_; simp only [List.take_succ_cons, List.take_zero, List.drop_succ_cons, List.drop_zero]
        repeat still_step
        refine wpStill_nil ?_; change Oper.wp _ _ _ W.drew _ _; go_simp
        refine (HCALL.out _ (E.keeps _ _ _ (Nat.le_trans hNG (Nat.le_of_lt hgW)) (Below.refl W.heap.size W).drew hGW)).mono ?_; rintro e w2 ⟨⟨n1, N1, rfl⟩, hb2⟩
        repeat still_step
        refine wpStill_nil ?_; have hrd2 := (show RD W.drew g s a0 out from hrdW).below hb2; have hown2 := own_below (show W.drew.ownsRow (g + 1) 54 5 out ts.length (flatT ts) from hownW) hb2; have hbw2 : Below g w w2 := (hbW.mono (Nat.le_of_lt hlt)).trans ((show Below W.heap.size W w2 from (Below.refl W.heap.size W).drew.trans hb2).mono (Nat.le_of_lt hgW)); have d0 := hrd2.c0; have d1 := hrd2.c1
        go_wp2_with fail; refine (fault_any _ _ _).mono ?_; rintro e w3 ⟨v, rfl, hft, hb3⟩
        go_wp2_with fail; go_ret; rw [HR2.out]; exact ⟨⟨_, rfl, hft⟩, hbw2.trans (hb3.mono (Nat.le_of_lt hrd2.lt))⟩
       ·
        have hcall : ∀ W', G W' → Calls Tryz.prog 52 #[.string (s.extract a0 e0), .int .i64 10, .int .i64 64] W' fun e w' => (∃ n N, e = .returned (.tuple #[.int .i64 n, .iface 146 (.pointer (some ⟨N, 0, none⟩))])) ∧ Below W'.heap.size W' w' := fun W' hG' => by
         have := parseInt_any E hG' _ HTS.out; unfold IntPost at this; rw [hp] at this; exact this
        rw [hp] at HR2; have HCALL := Lib.hid hcall; clear hcall hp; refine wp_region_mid 10 (by kernel_rfl) (by kernel_rfl) rfl rfl ?_; simp only [List.take_succ_cons, List.take_zero, List.drop_succ_cons, List.drop_zero]
        repeat still_step
        refine wpStill_nil ?_; change Oper.wp _ _ _ W.drew _ _; go_simp
        refine (HCALL.out _ (E.keeps _ _ _ (Nat.le_trans hNG (Nat.le_of_lt hgW)) (Below.refl W.heap.size W).drew hGW)).mono ?_; rintro e w2 ⟨⟨n1, N1, rfl⟩, hb2⟩
        repeat still_step
        refine wpStill_nil ?_; have hrd2 := (show RD W.drew g s a0 out from hrdW).below hb2; have hown2 := own_below (show W.drew.ownsRow (g + 1) 54 5 out ts.length (flatT ts) from hownW) hb2; have hbw2 : Below g w w2 := (hbW.mono (Nat.le_of_lt hlt)).trans ((show Below W.heap.size W w2 from (Below.refl W.heap.size W).drew.trans hb2).mono (Nat.le_of_lt hgW)); have d0 := hrd2.c0; have d1 := hrd2.c1
        go_wp2_with fail; refine (fault_any _ _ _).mono ?_; rintro e w3 ⟨v, rfl, hft, hb3⟩
        go_wp2_with fail; go_ret; rw [HR2.out]; exact ⟨⟨_, rfl, hft⟩, hbw2.trans (hb3.mono (Nat.le_of_lt hrd2.lt))⟩
     ·
      have hlt1 := dotB_lt hdot; have HR2 : Hid (res = (if 800 < expEnd s (runTo digitB s (e0 + 1)) - a0 then .error (a0, 4) else if infB (pf (s.extract a0 (expEnd s (runTo digitB s (e0 + 1))))) = true then .error (a0, 4) else .ok (⟨3, s.extract a0 (expEnd s (runTo digitB s (e0 + 1))), 0, pf (s.extract a0 (expEnd s (runTo digitB s (e0 + 1)))), a0⟩, expEnd s (runTo digitB s (e0 + 1))))) := by
       have h := HR.out; rw [hdot, if_pos rfl] at h; exact h
      have HDD := Lib.hid (HD.out hdot); have HRUN1 := Lib.hid (run_at enters_digit (HRD.out.drewN nq0) hs (n := e0 + 1) (by omega) digit_any (show ((e0 + 1 : Nat) : Int) = (e0 : Int) + 1 by omega)); have hge1 := runTo_ge digitB s (e0 + 1); have hle4 := runTo_le digitB s (n := e0 + 1) (by omega); generalize hE1 : runTo digitB s (e0 + 1) = e1 at *; have HE1 := Lib.hid hE1; clear hE1 HR hdot
      go_wp2_with fail; refine HRUN1.out.mono ?_; rintro e w1 ⟨rfl, rfl⟩; go_upto_region 13 with fail
      go_cut [118] (fun b wx => b = .bool (expB s e1) ∧ wx = w.drewN nq0)
      case first =>
       as_aux_lemma =>
        by_cases he : e1 < s.size
        · obtain ⟨x, hx⟩ : ∃ x, s[e1] = x := ⟨_, rfl⟩
          have HX := Lib.hid (show expB s e1 = isE x by unfold expB; rw [bt_some he, hx]); have hor : bits .or .u8 (x.toNat : Int) 32 = ((x.toNat ||| 32 : Nat) : Int) := u8_or_nat x.toNat 32 x.toNat_lt (by omega); have hle5 : (e1 : Int) < (s.size : Int) := by omega
          cases hisE : isE x
          · have hq : (((x.toNat ||| 32 : Nat) : Int) == 101) = false := by
             unfold isE at hisE; rw [beq_eq_false_iff_ne] at hisE ⊢; omega
            have HIE := Lib.hid hisE; generalize (x.toNat ||| 32) = m at *; clear hisE
            go_wp2_with fail; go_meet; exact ⟨by rw [HX.out, HIE.out], rfl⟩
          · have hq : (((x.toNat ||| 32 : Nat) : Int) == 101) = true := by
             unfold isE at hisE; rw [beq_iff_eq] at hisE ⊢; omega
            have HIE := Lib.hid hisE; generalize (x.toNat ||| 32) = m at *; clear hisE
            go_wp2_with fail; go_meet; exact ⟨by rw [HX.out, HIE.out], rfl⟩
        · have HX := Lib.hid (show expB s e1 = false by unfold expB; rw [bt_none (by omega)])
          have hd5 : decide ((e1 : Int) < (s.size : Int)) = false := by simp; omega
          go_wp2_with fail; go_meet; exact ⟨by rw [HX.out], rfl⟩
      case rest =>
       obtain ⟨rfl, rfl⟩ := hcut; go_upto_if 118 with fail
       go_cut [3] (fun b wx => b = .int .i64 (expEnd s e1) ∧ wx = w.drewN nq0)
       case first =>
        as_aux_lemma =>
         cases hE : expB s e1
         · have HX := Lib.hid (expEnd_no hE)
           clear hE
           go_wp2_with fail; go_meet; exact ⟨by rw [HX.out], rfl⟩
         · have hlt2 := expB_lt hE
           have HX := Lib.hid (expEnd_yes hE); clear hE; go_upto_region 15 with fail
           go_cut [145] (fun b wx => b = .bool (decide (signEnd s (e1 + 1) = e1 + 2)) ∧ wx = w.drewN nq0)
           case first =>
            as_aux_lemma =>
             by_cases h2 : e1 + 1 < s.size
             · obtain ⟨x, hx⟩ : ∃ x, s[e1 + 1] = x := ⟨_, rfl⟩
               have hbt2 := bt_some h2; rw [hx] at hbt2; have hle6 : (e1 : Int) + 1 < (s.size : Int) := by omega
               by_cases h43 : x = 43
               · subst h43
                 have HS := Lib.hid (show signEnd s (e1 + 1) = e1 + 2 by unfold signEnd; rw [hbt2]; rfl); clear hbt2
                 go_wp2_with fail; go_meet; exact ⟨by rw [HS.out]; simp, rfl⟩
               · by_cases h45 : x = 45
                 · subst h45
                   have HS := Lib.hid (show signEnd s (e1 + 1) = e1 + 2 by unfold signEnd; rw [hbt2]; rfl); clear hbt2
                   go_wp2_with fail; go_meet; exact ⟨by rw [HS.out]; simp, rfl⟩
                 · have HS := Lib.hid (show signEnd s (e1 + 1) = e1 + 1 by unfold signEnd; rw [hbt2]; simp [h43, h45])
                   have n43 := ne_nat (n := 43) h43 (by decide); have n45 := ne_nat (n := 45) h45 (by decide); clear hbt2 h43 h45
                   go_wp2_with fail; go_meet; exact ⟨by rw [HS.out]; simp, rfl⟩
             · have HS := Lib.hid (show signEnd s (e1 + 1) = e1 + 1 by unfold signEnd; rw [bt_none (by omega)])
               have hd6 : decide ((e1 : Int) + 1 < (s.size : Int)) = false := by simp; omega
               go_wp2_with fail; go_meet; exact ⟨by rw [HS.out]; simp, rfl⟩
           case rest =>
            as_aux_lemma =>
             obtain ⟨rfl, rfl⟩ := hcut; have hse := signEnd_le (s := s) (i := e1 + 1) (by omega); have hse2 := signEnd_two s (e1 + 1); go_upto_if 145 with fail
             go_cut [7] (fun b wx => b = .int .i64 (signEnd s (e1 + 1)) ∧ wx = w.drewN nq0)
             case first =>
              as_aux_lemma =>
               cases hse3 : decide (signEnd s (e1 + 1) = e1 + 2)
               · have HS := Lib.hid (show signEnd s (e1 + 1) = e1 + 1 by rw [decide_eq_false_iff_not] at hse3; omega)
                 clear hse3 hse2
                 go_wp2_with fail; go_meet; exact ⟨by rw [HS.out]; go_num, rfl⟩
               · have HS := Lib.hid (show signEnd s (e1 + 1) = e1 + 2 by rw [decide_eq_true_eq] at hse3; exact hse3)
                 clear hse3 hse2
                 go_wp2_with fail; go_meet; exact ⟨by rw [HS.out]; go_num, rfl⟩
             case rest =>
              obtain ⟨rfl, rfl⟩ := hcut; clear hse2; have HRUN2 := Lib.hid (run_any enters_digit (HRD.out.drewN nq0) hs hse.2 digit_any); generalize signEnd s (e1 + 1) = e2 at *; have hge3 := runTo_ge digitB s e2; have hle7 := runTo_le digitB s hse.2; generalize runTo digitB s e2 = e3 at *; by_cases hgt : e2 < e3
              · have HX2 : Hid (expEnd s e1 = e3) := by rw [HX.out, if_pos hgt]; rfl
                have hd7 : decide ((e2 : Int) < (e3 : Int)) = true := by simp; omega
                clear HX
                go_wp2_with fail; refine HRUN2.out.mono ?_; rintro e w1 ⟨rfl, rfl⟩
                go_wp2_with fail; go_meet; exact ⟨by rw [HX2.out], rfl⟩
              · have HX2 : Hid (expEnd s e1 = e1) := by rw [HX.out, if_neg hgt]; rfl
                have hd7 : decide (e2 < e3) = false := by simp; omega
                clear HX
                go_wp2_with fail; refine HRUN2.out.mono ?_; rintro e w1 ⟨rfl, rfl⟩
                go_wp2_with fail; go_meet; exact ⟨by rw [HX2.out], rfl⟩
       case rest =>
        as_aux_lemma =>
         obtain ⟨rfl, rfl⟩ := hcut; have hee := expEnd_le hle4; generalize expEnd s e1 = en at *; have hle8 : (a0 : Int) ≤ (en : Int) := by omega
         have hle9 : (en : Int) ≤ (s.size : Int) := by omega
         have hle10 : (0 : Int) ≤ (a0 : Int) := by omega
         by_cases hbig : 800 < en - a0
         · have HR3 : Hid (res = .error (a0, 4)) := by have h := HR2.out; rw [if_pos hbig] at h; exact h
           have hd8 : decide ((800 : Int) < (en : Int) - (a0 : Int)) = true := by simp; omega
           clear HR2
           go_wp2_with fail; refine (fault_any _ _ _).mono ?_; rintro e w2 ⟨v, rfl, hft, hb2⟩
           go_wp2_with fail; go_ret; rw [HR3.out]; exact ⟨⟨_, rfl, hft⟩, (below_drewN (Below.refl _ _) _).trans (hb2.mono (Nat.le_of_lt hlt))⟩
         · have HR3 : Hid (res = (if infB (pf (s.extract a0 en)) = true then .error (a0, 4) else .ok (⟨3, s.extract a0 en, 0, pf (s.extract a0 en), a0⟩, en))) := by have h := HR2.out; rw [if_neg hbig] at h; exact h
           have hd8 : decide ((800 : Int) < (en : Int) - (a0 : Int)) = false := by simp; omega
           have HSZ : Hid ((s.extract a0 en).size ≤ 800) := Lib.hid (by simp; omega); clear HR2 hbig
           go_wp2_with fail; refine with_world fun W hW => ?_
           have hrdW : RD W g s a0 out := by rw [hW]; exact HRD.out
           have hownW : W.ownsRow (g + 1) 54 5 out ts.length (flatT ts) := by rw [hW]; exact HOWN.out
           have hbW : Below w.heap.size w W := by rw [hW]; exact below_drewN (Below.refl _ _) _
           clear hW; have d0 := hrdW.c0; have d1 := hrdW.c1; have hGW : G W := E.keeps _ _ _ hNG (hbW.mono (Nat.le_of_lt hlt)) hG; have hgW := hrdW.lt; have HCALL : Hid (∀ W', G W' → Calls Tryz.prog 53 #[.string (s.extract a0 en), .int .i64 64] W' fun e w' => (∃ er, e = .returned (.tuple #[.float .f64 (pf (s.extract a0 en)), er])) ∧ Below W'.heap.size W' w') := fun W' hG' => E.float _ _ HSZ.out HDD.out hG'
           generalize hpf : pf (s.extract a0 en) = px at *; have hinf := inf_any px; refine wp_region_mid 10 (by kernel_rfl) (by kernel_rfl) rfl rfl ?_; simp only [List.take_succ_cons, List.take_zero, List.drop_succ_cons, List.drop_zero]
           repeat still_step
           refine wpStill_nil ?_; change Oper.wp _ _ _ W.drew _ _; go_simp
           refine (HCALL.out _ (E.keeps _ _ _ (Nat.le_trans hNG (Nat.le_of_lt hgW)) (Below.refl W.heap.size W).drew hGW)).mono ?_; rintro e w2 ⟨⟨er, rfl⟩, hb2⟩
           repeat still_step
           refine wpStill_nil ?_; have hrd2 := (show RD W.drew g s a0 out from hrdW).below hb2; have hown2 := own_below (show W.drew.ownsRow (g + 1) 54 5 out ts.length (flatT ts) from hownW) hb2; have hbw2 : Below g w w2 := (hbW.mono (Nat.le_of_lt hlt)).trans ((show Below W.heap.size W w2 from (Below.refl W.heap.size W).drew.trans hb2).mono (Nat.le_of_lt hgW)); clear d0 d1; have d0 := hrd2.c0; have d1 := hrd2.c1; cases hi : infB px
           · rw [hi] at hinf
             have HINF := Lib.hid hinf; have HR4 : Hid (res = .ok (⟨3, s.extract a0 en, 0, px, a0⟩, en)) := by have h := HR3.out; rw [hi] at h; exact h
             clear hinf hi HR3
             go_wp2_with fail; refine (HINF.out _).mono ?_; rintro e w3 ⟨rfl, rfl⟩
             go_wp2_with fail; go_still_tail 14, (by kernel_rfl)
             change wpList _ _ _ _ _ w2.drew
             go_wp2_with fail; refine (put_at (z := en) (⟨3, s.extract a0 en, 0, px, a0⟩ : Tok) _ (w := w2.drew) hrd2 hown2 (by omega) rfl rfl).mono ?_; rintro e w3 ⟨rfl, out3, hrd3, hown3, hb3⟩
             go_wp2_with fail; go_ret; rw [HR4.out]; exact ⟨rfl, ⟨_, hrd3, hown3⟩, hbw2.drew.trans hb3⟩
           · rw [hi] at hinf
             have HINF := Lib.hid hinf; have HR4 : Hid (res = .error (a0, 4)) := by have h := HR3.out; rw [hi] at h; exact h
             clear hinf hi HR3
             go_wp2_with fail; refine (HINF.out _).mono ?_; rintro e w3 ⟨rfl, rfl⟩
             go_wp2_with fail; refine (fault_any _ _ _).mono ?_; rintro e w3 ⟨v, rfl, hft, hb3⟩
             go_wp2_with fail; go_ret; rw [HR4.out]; exact ⟨⟨_, rfl, hft⟩, hbw2.trans (hb3.mono (Nat.le_of_lt hrd2.lt))⟩
end Go.Proofs.YtkoghgnjjfnamaaGreatDoor
