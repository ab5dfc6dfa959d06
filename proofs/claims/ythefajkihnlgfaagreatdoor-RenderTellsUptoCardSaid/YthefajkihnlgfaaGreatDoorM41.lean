/- bootjackref12.Quote: the walk. -/
import Derived.Test.YthefajkihnlgfaaGreatDoorM17
import Derived.Test.YthefajkihnlgfaaGreatDoorFlR
import Derived.Test.YthefajkihnlgfaaGreatDoorM11
import Derived.Test.YthefajkihnlgfaaGreatDoorFmtD
import Derived.Test.YthefajkihnlgfaaGreatDoorFmtE
import Derived.Test.YthefajkihnlgfaaGreatDoorVBase
import Derived.Test.YthefajkihnlgfaaGreatDoorM22
import Derived.Test.YthefajkihnlgfaaGreatDoorTxW
namespace Go.Proofs.YthefajkihnlgfaaGreatDoor
open Go.RowKit Go.Shelf
set_option linter.unusedSimpArgs false
set_option linter.unusedVariables false
/-- A row of bytes of the call's own. -/
structure OB (base : Nat) (w0 w : World) (v : Value) (L : List UInt8) : Prop where
  bel : Below base w0 w
  own : w.ownsRow base 5 1 v L.length (Lib.byteCells L)
  ba : base ≤ w.heap.size
theorem OB.below {base : Nat} {w0 w w' : World} {v : Value} {L : List UInt8} (h : OB base w0 w v L) (hb : Below w.heap.size w w') : OB base w0 w' v L :=
  ⟨h.bel.trans (hb.mono h.ba), own_below h.own hb, Nat.le_trans h.ba hb.size⟩
theorem OB.shape {base : Nat} {w0 w : World} {v : Value} {L : List UInt8} (h : OB base w0 w v L) : ∃ a c, v = .slice a L.length c := own_shape h.own
theorem append_ob {w0 w : World} {ops : Array Oper} {rest : List Oper} {o : Oper} {a : Act} {Q : Exit → Act → World → Prop} (hgd : o.guard = none) (s x : Operand)
    (ho : o.op = .call { callee := .builtin .append, args := #[s, x], argTypes := #[40, 40] })
    {base : Nat} {L N : List UInt8} {v : Value} (hs : a.eval s = v) (hd : OB base w0 w v L) (q off c : Nat) (hx : a.eval x = .slice (some ⟨q, off, none⟩) N.length c)
    (hN : ∀ (j : Nat) (b : UInt8), N[j]? = some b → w.cell? ⟨q, off + j, none⟩ = some (.int .u8 b.toNat)) (hsz : L.length + N.length ≤ 100000000)
    (h : ∀ v' w', OB base w0 w' v' (L ++ N) → w.grownBy w' v.ownBlock → wpList Tryz.prog ops Q rest (a.put o.dst v') w') : wpList Tryz.prog ops Q (o :: rest) a w := by
  obtain ⟨i0, hi, hz0, hz1, hz2⟩ := info_parts infoB1
  refine wpList_append_own_at w hgd s x 40 ho base 5 i0 _ 1 1 Tryz.underlying40 hi hz0 hz1 hz2 rfl (by decide) v L.length (Lib.byteCells L) hs hd.own ⟨q, off, none⟩ N.length c (Lib.byteCells N) hx (by simp [Lib.byteCells]) ?_ ?_ (by unfold maxLen; omega) (by omega) hd.ba (fun v' w' h2 h3 _ h5 => ?_)
  · intro j u hu
    rw [Lib.byteCells, List.getElem?_map] at hu
    obtain ⟨b, hb, rfl⟩ := Option.map_eq_some_iff.1 hu
    have hadd : (⟨q, off, none⟩ : Addr).add j = ⟨q, off + j, none⟩ := by unfold Addr.add; split <;> simp_all
    rw [hadd]
    exact hN j b hb
  · intro u hu
    rw [Lib.byteCells] at hu
    obtain ⟨b, _, rfl⟩ := List.mem_map.1 hu
    rfl
  · have hbw : Below base w w' := (Below.refl base w).grown h3 hd.ba (fun k hk => (hd.own.lt k hk).1)
    refine h v' w' ⟨hd.bel.trans hbw, ?_, Nat.le_trans hd.ba h3.size⟩ h3
    rw [List.length_append, Lib.byteCells_append]
    exact h2
theorem ob_one (w : World) (x : UInt8) : OB w.heap.size w (w.alloc (.cells #[.int .u8 x.toNat] 5 (0, 0))) (.slice (some ⟨w.heap.size, 0, none⟩) 1 1) [x] :=
  ⟨(Below.refl _ _).alloc (Nat.le_refl _) _, ⟨rfl, Or.inr ⟨w.heap.size, 1, _, rfl, Nat.le_refl _, block_new _ _ rfl, Nat.le_refl _, by unfold maxLen; omega, rfl, rfl⟩⟩, by simp⟩
def oneB (w : World) (q : Nat) (x : UInt8) : Prop := w.cell? ⟨q, 0, none⟩ = some (.int .u8 x.toNat)
set_option maxHeartbeats 4000000 in
set_option maxRecDepth 100000 in
theorem quoteR_any (s : ByteArray) (hs : s.size ≤ 10000000) (w : World) : Calls Tryz.prog 31 #[.string s] w fun e w' => e = .returned (.string ⟨(qB s).toArray⟩) ∧ Below w.heap.size w w' := by
  have hl : (strU s).length = s.size := Array.length_toList
  have HQ : Hid (qB s = 34 :: (qeL (strU s) ++ [34])) := Lib.hid rfl
  have hO := Lib.hid (fun n => ob_one (w.drewN n) 34)
  go_enter Tryz.func31, Tryz.ntmps31
  go_wp2_with fail
  go_loopw [3, 4] (fun o i wr => ∃ k : Nat, k ≤ s.size ∧ i = .int .i64 (k : Int) ∧ OB w.heap.size w wr o (34 :: qeL ((strU s).take k))) (fun _ i _ => s.size - (intOf i).toNat)
  case atStart => exact ⟨0, Nat.zero_le _, rfl, hO.out 0⟩
  case round =>
    obtain ⟨k, hk, rfl, hob⟩ := hrel
    have hlen : (34 :: qeL ((strU s).take k)).length ≤ 2 * s.size + 1 := by
      have h1 := qeL_len ((strU s).take k)
      have h2 := qeN_le ((strU s).take k)
      have h3 : ((strU s).take k).length ≤ s.size := by rw [List.length_take]; omega
      rw [List.length_cons]
      omega
    by_cases hlt : k < s.size
    · have hltI : (k : Int) < (s.size : Int) := by omega
      have hx : (strU s)[k]? = some s[k] := by
        rw [List.getElem?_eq_getElem (by omega)]
        rfl
      have hst := qeL_succ hx
      obtain ⟨c, hc⟩ : ∃ c, s[k] = c := ⟨_, rfl⟩
      have HS : Hid (∀ v2 w2, OB w.heap.size w w2 v2 (34 :: qeL ((strU s).take k) ++ qeB c) → OB w.heap.size w w2 v2 (34 :: qeL ((strU s).take (k + 1)))) := Lib.hid (by
        intro v2 w2 h
        rw [hst, hc]
        exact h)
      by_cases c10 : s[k] = 10
      · have d10 := u8_eq (n := 10) c10 (by decide)
        rw [← hc, c10, show qeB 10 = [92, 110] from by decide] at HS
        clear hc c10
        clear hx hst
        go_wp2_with (at_builtin
                     go_loud (refine append_ob (N := [92, 110]) rfl _ _ rfl rfl (hob.below ((Below.refl _ _).alloc (Nat.le_refl _) _)) wr.heap.size 0 2 rfl (two_new ⟨rfl, rfl⟩) (by simp only [List.length_cons, List.length_nil]; simp only [List.length_cons] at hlen; omega) ?_)
                     intro v2 w2 hob2 _)
        go_roundw
        case rel => exact ⟨k + 1, by omega, by go_num, HS.out _ _ hob2⟩
        case measure => simp [intOf]; omega
      · have d10 := u8_ne (n := 10) (by decide) c10
        by_cases c9 : s[k] = 9
        · have d9 := u8_eq (n := 9) c9 (by decide)
          rw [← hc, c9, show qeB 9 = [92, 116] from by decide] at HS
          clear hc c9
          clear hx hst
          go_wp2_with (at_builtin
                       go_loud (refine append_ob (N := [92, 116]) rfl _ _ rfl rfl (hob.below ((Below.refl _ _).alloc (Nat.le_refl _) _)) wr.heap.size 0 2 rfl (two_new ⟨rfl, rfl⟩) (by simp only [List.length_cons, List.length_nil]; simp only [List.length_cons] at hlen; omega) ?_)
                       intro v2 w2 hob2 _)
          go_roundw
          case rel => exact ⟨k + 1, by omega, by go_num, HS.out _ _ hob2⟩
          case measure => simp [intOf]; omega
        · have d9 := u8_ne (n := 9) (by decide) c9
          by_cases c34 : s[k] = 34
          · have d34 := u8_eq (n := 34) c34 (by decide)
            rw [← hc, c34, show qeB 34 = [92, 34] from by decide] at HS
            clear hc c34
            clear hx hst
            go_wp2_with (at_builtin
                         go_loud (refine append_ob (N := [92, 34]) rfl _ _ rfl rfl (hob.below ((Below.refl _ _).alloc (Nat.le_refl _) _)) wr.heap.size 0 2 rfl (two_new (a := 92) (b := 34) ⟨rfl, rfl⟩) (by simp only [List.length_cons, List.length_nil]; simp only [List.length_cons] at hlen; omega) ?_)
                         intro v2 w2 hob2 _)
            go_roundw
            case rel => exact ⟨k + 1, by omega, by go_num, HS.out _ _ hob2⟩
            case measure => simp [intOf]; omega
          · have d34 := u8_ne (n := 34) (by decide) c34
            by_cases c92 : s[k] = 92
            · have d92 := u8_eq (n := 92) c92 (by decide)
              rw [← hc, c92, show qeB 92 = [92, 92] from by decide] at HS
              clear hc c92
              clear hx hst
              go_wp2_with (at_builtin
                           go_loud (refine append_ob (N := [92, 92]) rfl _ _ rfl rfl (hob.below ((Below.refl _ _).alloc (Nat.le_refl _) _)) wr.heap.size 0 2 rfl (two_new (a := 92) (b := 92) ⟨rfl, rfl⟩) (by simp only [List.length_cons, List.length_nil]; simp only [List.length_cons] at hlen; omega) ?_)
                           intro v2 w2 hob2 _)
              go_roundw
              case rel => exact ⟨k + 1, by omega, by go_num, HS.out _ _ hob2⟩
              case measure => simp [intOf]; omega
            · have d92 := u8_ne (n := 92) (by decide) c92
              have hq : qeB c = [c] := qeB_no (by
                rw [← hc]
                have e : ∀ n : UInt8, s[k] = n ↔ s[k].toNat = n.toNat := fun n => UInt8.toNat_inj.symm
                rw [e] at c10 c9 c34 c92
                simp only [qeC, List.mem_cons, List.not_mem_nil, or_false]
                rintro (h | h | h | h)
                · exact c92 h
                · exact c34 h
                · exact c9 h
                · exact c10 h)
              rw [hq, ← hc] at HS
              clear hc hq c10 c9 c34 c92
              clear hx hst
              go_wp2_with (at_builtin
                           go_loud (refine append_ob (N := [s[k]]) rfl _ _ rfl rfl (hob.below ((Below.refl _ _).alloc (Nat.le_refl _) _)) wr.heap.size 0 1 rfl (fun j b hj => by
                             match j, hj with
                             | 0, hj => cases hj; exact block_cell (block_new _ _ rfl) rfl
                             | j + 1, hj => simp at hj) (by simp only [List.length_cons, List.length_nil]; simp only [List.length_cons] at hlen; omega) ?_)
                           intro v2 w2 hob2 _)
              go_roundw
              case rel => exact ⟨k + 1, by omega, by go_num, HS.out _ _ hob2⟩
              case measure => simp [intOf]; omega
    · have hltI : ¬ ((k : Int) < (s.size : Int)) := by omega
      obtain rfl : k = s.size := by omega
      have hfull : (strU s).take s.size = strU s := List.take_of_length_le (by omega)
      rw [hfull] at hob hlen
      have HQ2 : Hid (qB s = 34 :: qeL (strU s) ++ [34]) := Lib.hid HQ.out
      obtain ⟨L, hL⟩ : ∃ L, 34 :: qeL (strU s) = L := ⟨_, rfl⟩
      rw [hL] at hob hlen HQ2
      have hL2 : L.length ≤ 20000001 := by omega
      clear HQ hL
      go_wp2_with (at_builtin
                   go_loud (refine append_ob (L := L) (N := [34]) rfl _ _ rfl rfl (hob.below ((Below.refl _ _).alloc (Nat.le_refl _) _)) wr.heap.size 0 1 rfl (fun j b hj => by
                     match j, hj with
                     | 0, hj => cases hj; exact block_cell (block_new _ _ rfl) rfl
                     | j + 1, hj => simp at hj) (by simp only [List.length_cons, List.length_nil]; omega) ?_)
                   intro v2 w2 hob2 _
                   have hpos : 0 < (L ++ [34]).length := by simp
                   obtain ⟨L2, hL3⟩ : ∃ L2, L ++ [34] = L2 := ⟨_, rfl⟩
                   rw [hL3] at hob2 hpos HQ2
                   clear hL3
                   have hcv := own_text hob2.own hpos
                   obtain ⟨a2, k2, rfl⟩ := hob2.shape)
      go_ret
      exact ⟨by rw [HQ2.out]; rfl, hob2.bel⟩
end Go.Proofs.YthefajkihnlgfaaGreatDoor

/- bootjackref12.show at a right value: the walk. -/
namespace Go.Proofs.YthefajkihnlgfaaGreatDoor
open Go.RowKit Go.Shelf
set_option linter.unusedSimpArgs false
set_option linter.unusedVariables false
attribute [local go_sem] store_flt
def RShowAt (d : Nat) : Prop := ∀ (B0 m : Nat) (v : V) (r f : Value) (w : World), RG B0 w → VI d w v r f → NumV d v → rightP d m v = true → (showP d v).length ≤ 100000000000 →
    Calls Tryz.prog 23 #[.agg #[.int .i64 v.kind, .int .i64 v.int, .float .f64 v.flt, .string v.text, r, f]] w fun e w' =>
      e = .returned (.string ⟨(showP d v).toArray⟩) ∧ Below w.heap.size w w'
set_option maxHeartbeats 4000000 in
set_option maxRecDepth 100000 in
theorem rshow_plain {d : Nat} (B0 m : Nat) (v : V) (r f : Value) (w : World) (hG : RG B0 w) (h : VI d w v r f) (hN : NumV d v) (hr : rightP d m v = true) (hk : v.kind = 0 ∨ v.kind = 1 ∨ v.kind = 2 ∨ v.kind = 3) :
    Calls Tryz.prog 23 #[.agg #[.int .i64 v.kind, .int .i64 v.int, .float .f64 v.flt, .string v.text, r, f]] w fun e w' => e = .returned (.string ⟨(textP v).toArray⟩) ∧ Below w.heap.size w w' := by
  rw [right_plain (k := 32) (by omega)] at hr
  have HT := Lib.hid (fun W (hW : Below w.heap.size w W) => rtext_any (hG.below hW) (h.keeps hW) hN hr hk)
  obtain ⟨ra, rc, a, cap, rfl, rfl, hbd, hts⟩ := h.shape
  clear hG h hN hr
  generalize v.names.length = nn at *
  generalize v.items.length = ni at *
  generalize (⟨(textP v).toArray⟩ : ByteArray) = R at *
  rcases hk with hk | hk | hk | hk
  all_goals
    rw [hk] at HT ⊢
    go_enter Tryz.func23, Tryz.ntmps23
    go_wp2_with fail
    refine (HT.out _ ((Below.refl _ _).alloc (Nat.le_refl _) _)).mono ?_
    rintro e w1 ⟨rfl, hb1⟩
    go_wp2_with fail
    go_ret
    exact ⟨rfl, Below.next ((Below.refl _ _).alloc (Nat.le_refl _) _) hb1⟩
set_option maxHeartbeats 4000000 in
set_option maxRecDepth 100000 in
theorem rshow_text {d : Nat} (v : V) (r f : Value) (w : World) (h : VI d w v r f) (ht : v.text.size ≤ 1024) (hk : v.kind = 4) :
    Calls Tryz.prog 23 #[.agg #[.int .i64 v.kind, .int .i64 v.int, .float .f64 v.flt, .string v.text, r, f]] w fun e w' => e = .returned (.string ⟨(qB v.text).toArray⟩) ∧ Below w.heap.size w w' := by
  have HQ := Lib.hid (fun W => quoteR_any v.text (by omega) W)
  obtain ⟨ra, rc, a, cap, rfl, rfl, hbd, hts⟩ := h.shape
  clear h
  generalize v.names.length = nn at *
  generalize v.items.length = ni at *
  generalize (⟨(qB v.text).toArray⟩ : ByteArray) = R at *
  rw [hk]
  go_enter Tryz.func23, Tryz.ntmps23
  go_wp2_with fail
  refine (HQ.out _).mono ?_
  rintro e w1 ⟨rfl, hb1⟩
  go_wp2_with fail
  go_ret
  exact ⟨rfl, Below.next ((Below.refl _ _).alloc (Nat.le_refl _) _) hb1⟩
set_option maxHeartbeats 4000000 in
set_option maxRecDepth 100000 in
theorem rshow_fun {d : Nat} (v : V) (r f : Value) (w : World) (h : VI d w v r f) (hk : v.kind = 7) :
    Calls Tryz.prog 23 #[.agg #[.int .i64 v.kind, .int .i64 v.int, .float .f64 v.flt, .string v.text, r, f]] w fun e w' => e = .returned (.string ⟨#[102, 117, 110, 99, 116, 105, 111, 110]⟩) ∧ Below w.heap.size w w' := by
  obtain ⟨ra, rc, a, cap, rfl, rfl, hbd, hts⟩ := h.shape
  clear h
  generalize v.names.length = nn at *
  generalize v.items.length = ni at *
  rw [hk]
  go_enter Tryz.func23, Tryz.ntmps23
  go_wp2_with fail
  go_ret
  exact ⟨rfl, (Below.refl _ _).alloc (Nat.le_refl _) _⟩
set_option maxHeartbeats 4000000 in
set_option maxRecDepth 100000 in
theorem rshow_list {d : Nat} (ih : RShowAt d) (B0 m : Nat) (n : Int) (x : Nat) (t : ByteArray) (ns : List ByteArray) (is : List V) (r f : Value) (w : World) (hG : RG B0 w) (h : VI (d + 1) w (.mk 5 n x t ns is) r f)
    (hN : NumV (d + 1) (.mk 5 n x t ns is)) (hr : rightP (d + 1) m (.mk 5 n x t ns is) = true) (hlen : (showP (d + 1) (.mk 5 n x t ns is)).length ≤ 100000000000) :
    Calls Tryz.prog 23 #[.agg #[.int .i64 5, .int .i64 n, .float .f64 x, .string t, r, f]] w fun e w' =>
      e = .returned (.string ⟨(showP (d + 1) (.mk 5 n x t ns is)).toArray⟩) ∧ Below w.heap.size w w' := by
  have HS : Hid (showP (d + 1) (.mk 5 n x t ns is) = 91 :: (shI (showP d) is is.length ++ [32, 93])) := Lib.hid rfl
  rw [HS.out] at hlen
  have hlen2 : (shI (showP d) is is.length).length + 3 ≤ 100000000000 := by
    simp only [List.length_cons, List.length_append, List.length_nil] at hlen
    omega
  have HRI := Lib.hid (fun y (hy : y ∈ is) => right_items (v := .mk 5 n x t ns is) (Or.inl rfl) hr hy)
  have HNI := Lib.hid hN.2.2
  obtain ⟨ra, rc, a, cap, rfl, rfl, hbd, hts⟩ := h.shape
  have HI := Lib.hid (fun i y (hi : is[i]? = some y) => h.item (v := .mk 5 n x t ns is) hi)
  simp only [V.names, V.items, V.text] at hbd hts ⊢
  have HGG := Lib.hid hG
  have IH := Lib.hid ih
  have HL := Lib.hid hlen2
  generalize showP (d + 1) (.mk 5 n x t ns is) = R at *
  clear hG h hN hr hlen hlen2 ih
  generalize ns.length = nn at *
  obtain ⟨ni, hni⟩ : ∃ ni, is.length = ni := ⟨_, rfl⟩
  rw [hni] at HS HL hbd ⊢
  have HNN := Lib.hid hni
  clear hni
  go_enter Tryz.func23, Tryz.ntmps23
  go_wp2_with fail
  go_loopw [3, 4] (fun s i wr => ∃ (k : Nat) (S : ByteArray), k ≤ ni ∧ i = .int .i64 (k : Int) ∧ s = .string S ∧ Hid (S.data.toList = 91 :: shI (showP d) is k) ∧ wr.heap[w.heap.size]? = some (.cells #[.int .i64 5, .int .i64 n, .float .f64 x, .string t, .slice ra nn rc, .slice a ni cap] 47 (0, 0)) ∧ Below w.heap.size w wr) (fun _ i _ => ni - (intOf i).toNat)
  case atStart => exact ⟨0, _, Nat.zero_le _, rfl, rfl, Lib.hid rfl, block_new _ _ rfl, (Below.refl _ _).alloc (Nat.le_refl _) _⟩
  case round =>
    obtain ⟨k, S, hk, rfl, rfl, HSS, hbox, hb⟩ := hrel
    have c5 := block_cell (i := 5) hbox rfl
    have hmono := shI_mono (showP d) is hk
    have hSz : S.size = (shI (showP d) is k).length + 1 := by
      have e : S.data.toList.length = S.size := Array.length_toList
      rw [← e, HSS.out, List.length_cons]
    by_cases hlt : k < ni
    · have hltI : (k : Int) < (ni : Int) := by omega
      obtain ⟨y, hy⟩ := get_lt is (k := k) (by have := HNN.out; omega)
      obtain ⟨b', off, r', f', rfl, k1, k2, k3, k4, k5, k6, hv⟩ := HI.out k y hy
      have k1 := cell_keeps hb k1
      have k2 := cell_keeps hb k2
      have k3 := cell_keeps hb k3
      have k4 := cell_keeps hb k4
      have k5 := cell_keeps hb k5
      have k6 := cell_keeps hb k6
      have hym := List.mem_of_getElem? hy
      obtain ⟨m', hm', hry⟩ := HRI.out y hym
      have hle := shI_le (f := showP d) (n := ni) hy hlt
      have HST := Lib.hid (shI_succ (f := showP d) hy)
      have hLL := HL.out
      have HCY := Lib.hid (IH.out B0 m' y r' f' wr (HGG.out.below hb) (hv.keeps hb) (HNI.out y hym) hry (by omega))
      obtain ⟨Y, hY⟩ : ∃ Y : ByteArray, ⟨(showP d y).toArray⟩ = Y := ⟨_, rfl⟩
      have hYs : Y.size = (showP d y).length := by rw [← hY, ba_len]
      have HYD : Hid (Y.data.toList = showP d y) := Lib.hid (by rw [← hY])
      rw [hY] at HCY
      have hS1 : S.size ≤ 100000000000 := by omega
      have hY1 : Y.size ≤ 100000000000 := by omega
      obtain ⟨ra1, rc1, fa1, fc1, rfl, rfl, _, _⟩ := hv.shape
      clear hy hym hry hm' hle hLL hv hSz hYs hY hmono
      go_wp2_with fail
      refine HCY.out.mono ?_
      rintro e w2 ⟨rfl, hb2⟩
      go_wp2_with fail
      go_roundw
      case rel =>
        refine ⟨k + 1, _, by omega, by go_num, rfl, Lib.hid ?_, block_below hbox hb2, hb.next hb2⟩
        rw [nw_app, nw_app, HSS.out, HYD.out, HST.out]
        show 91 :: shI (showP d) is k ++ [32] ++ showP d y = _
        simp
      case measure => simp [intOf]; omega
    · have hltI : ¬ ((k : Int) < (ni : Int)) := by omega
      obtain rfl : k = ni := by omega
      have hLL := HL.out
      have hS1 : S.size ≤ 100000000000 := by omega
      have HE : Hid (S ++ ⟨#[32, 93]⟩ = ⟨R.toArray⟩) := Lib.hid (by
        apply ba_ext
        rw [nw_app, HSS.out, HS.out]
        show 91 :: shI (showP d) is k ++ [32, 93] = _
        simp)
      clear hSz hLL hmono
      go_wp2_with fail
      go_ret
      exact ⟨by rw [← HE.out]; rfl, hb⟩
end Go.Proofs.YthefajkihnlgfaaGreatDoor

