/- value.update: a set put over another. -/
import Derived.Test.YtdpnknlpkjablaaGreatDoorVUpdP
import Derived.Test.YtdpnknlpkjablaaGreatDoorVMap
import Derived.Test.YtdpnknlpkjablaaGreatDoorRows3
import Derived.StillTailTactics
import Derived.Deep.RegionLaw
namespace Go.Proofs.YtdpnknlpkjablaaGreatDoor
open Go.RowKit Go.Shelf
attribute [local go_sem] store_flt

/-- A map's values read as what the names stand for. -/
def FV (d : Nat) (w : World) (F : FMap) (G : NM) : Prop := ∀ s, (∀ v, G s = some v → ∃ val, F s = some val ∧ VV d w val v) ∧ (G s = none → F s = none)
theorem FV.nil (d : Nat) (w : World) : FV d w (fun _ => none) (fun _ => none) := fun s => ⟨fun v h => (by cases h), fun _ => rfl⟩
theorem FV.put {d : Nat} {w : World} {F : FMap} {G : NM} (h : FV d w F G) {s : ByteArray} {val : Value} {v : V} (hv : VV d w val v) : FV d w (updF F s (some val)) (updV G s v) := by
  intro x
  by_cases hx : x = s
  · subst hx
    rw [updF_same]
    simp only [updV, if_true]
    exact ⟨fun u hu => ⟨val, rfl, by cases hu; exact hv⟩, fun hu => by cases hu⟩
  · rw [updF_other _ hx]
    simp only [updV, if_neg hx]
    exact h x
theorem FV.isSome {d : Nat} {w : World} {F : FMap} {G : NM} (h : FV d w F G) (s : ByteArray) : (F s).isSome = (G s).isSome := by
  cases hg : G s with
  | none => rw [(h s).2 hg]; rfl
  | some v => obtain ⟨val, hf, _⟩ := (h s).1 v hg; rw [hf]; rfl
/-- What lies in the call's blocks while it puts values into its map. -/
structure Up (w0 w : World) (g k : Nat) (C : Array Value) (d : Nat) (G : NM) (W : World) : Prop where
  map : ∃ F n, MF W (w.heap.size + 3) n F ∧ n ≤ k ∧ FV d w0 F G
  row : W.heap[g]? = some (.cells C 27 (0, 0))
  out : W.heap[w.heap.size + 2]? = some (.cells #[.int .i64 0, .int .i64 0, .float .f64 0, .string ⟨#[]⟩, .slice none 0 0, .slice none 0 0] 27 (0, 0))
  low : Below w.heap.size w W
  big : w.heap.size + 5 ≤ W.heap.size
theorem Up.below {w0 w W W' : World} {g k d : Nat} {C : Array Value} {G : NM} (h : Up w0 w g k C d G W) (hb : Below W.heap.size W W') : Up w0 w g k C d G W' := by
  obtain ⟨⟨F, n, hM, hn, hF⟩, h1, h2, h3, h4⟩ := h
  exact ⟨⟨F, n, hM.below hb, hn, hF⟩, block_below h1 hb, block_below h2 hb, h3.next hb, Nat.le_trans h4 hb.size⟩
theorem Up.alloc {w0 w W : World} {g k d : Nat} {C : Array Value} {G : NM} (h : Up w0 w g k C d G W) (x : Obj) : Up w0 w g k C d G (W.alloc x) := h.below (by (repeat' (first | (with_reducible exact Below.refl _ _) | (with_reducible assumption) | (with_reducible refine below_drewN ?_ _) | (with_reducible refine Below.drew ?_) | (with_reducible refine Below.alloc ?_ ?_ _) | (with_reducible refine Below.setCell ?_ ?_ _) | omega | (simp; done) | (simp; omega))))
theorem Up.mono {w0 w W : World} {g k k' d : Nat} {C : Array Value} {G : NM} (h : Up w0 w g k C d G W) (hk : k ≤ k') : Up w0 w g k' C d G W := by
  obtain ⟨⟨F, n, hM, hn, hF⟩, h1, h2, h3, h4⟩ := h
  exact ⟨⟨F, n, hM, by omega, hF⟩, h1, h2, h3, h4⟩
/-- append(list of the call's own, one value), the value's cells lying in a block. -/
theorem append_val1 {w : World} {ops : Array Oper} {rest : List Oper} {o : Oper} {a : Act} {Q : Exit → Act → World → Prop} (hgd : o.guard = none) (s x : Operand)
    (ho : o.op = .call { callee := .builtin .append, args := #[s, x], argTypes := #[25, 25] })
    (base : Nat) (v : Value) (n : Nat) (cs : List Value) (hs : a.eval s = v) (hown : w.ownsRow base 27 6 v n cs)
    (d : Nat) (w0 : World) (y : V) (r f : Value) (hy : VI d w0 y r f) (b c : Nat) (hx : a.eval x = .slice (some ⟨b, 0, none⟩) 1 c)
    (hb : w.heap[b]? = some (.cells #[.int .i64 y.kind, .int .i64 y.int, .float .f64 y.flt, .string y.text, r, f] 27 (0, 0))) (hn : n + 1 ≤ 1599289640400) (hbase : base ≤ w.heap.size)
    (h : ∀ v' w', w'.ownsRow base 27 6 v' (n + 1) (cs ++ [.int .i64 y.kind, .int .i64 y.int, .float .f64 y.flt, .string y.text, r, f]) → VFlat d w0 [.int .i64 y.kind, .int .i64 y.int, .float .f64 y.flt, .string y.text, r, f] [y] → w.grownBy w' v.ownBlock → (v'.ownBlock = v.ownBlock ∨ v'.ownBlock = some w.heap.size) → wpList Tryz.prog ops Q rest (a.put o.dst v') w') : wpList Tryz.prog ops Q (o :: rest) a w := by
  obtain ⟨i0, hi, hz0, hz1, hz2⟩ := info_parts infoV
  have hfl : VFlat d w0 [.int .i64 y.kind, .int .i64 y.int, .float .f64 y.flt, .string y.text, r, f] [y] := ⟨rfl, fun i x hi => by
    match i, hi with
    | 0, hi => simp at hi; subst hi; exact ⟨r, f, rfl, rfl, rfl, rfl, rfl, rfl, hy⟩
    | i + 1, hi => simp at hi⟩
  refine wpList_append_own_at w hgd s x 25 ho base 27 i0 _ 6 88 Tryz.underlying25 hi hz0 hz1 hz2 rfl (by decide) v n cs hs hown ⟨b, 0, none⟩ 1 c [.int .i64 y.kind, .int .i64 y.int, .float .f64 y.flt, .string y.text, r, f] hx rfl (fun j u hj => ?_) hfl.one (by unfold maxLen; omega) (by omega) hbase (fun v' w' h2 h3 _ h5 => h v' w' h2 hfl h3 h5)
  rw [add_at, Nat.zero_add]
  exact block_cell hb (by simpa using hj)
theorem zV (w : World) : (zeroValue 27).run Tryz.prog w = .ok (.agg #[.int .i64 0, .int .i64 0, .float .f64 0, .string ⟨#[]⟩, .slice none 0 0, .slice none 0 0]) w := by kernel_rfl
set_option maxHeartbeats 4000000 in
set_option maxRecDepth 100000 in
theorem update_any {d : Nat} {a b : V} {r f r' f' : Value} {w0 w : World} (hb0 : Below w0.heap.size w0 w) (h1 : VI (d + 1) w0 a r f) (h2 : VI (d + 1) w0 b r' f') (na : a.names.length = a.items.length) (nb : b.names.length = b.items.length) (la : a.items.length ≤ 256) (lb : b.items.length ≤ 256) :
    Calls Tryz.prog 29 #[.agg #[.int .i64 a.kind, .int .i64 a.int, .float .f64 a.flt, .string a.text, r, f], .agg #[.int .i64 b.kind, .int .i64 b.int, .float .f64 b.flt, .string b.text, r', f']] w fun e w' =>
      ∃ L xs r3 f3, e = .returned (.agg #[.int .i64 6, .int .i64 0, .float .f64 0, .string ⟨#[]⟩, r3, f3]) ∧ SLP (fun b => w.heap.size ≤ b) w' r3 L ∧ (∃ cs, w'.ownsRow w.heap.size 27 6 f3 xs.length cs ∧ VFlat d w0 cs xs) ∧ xs.length ≤ 512 ∧ UpP (overP a b) L xs ∧ Below w.heap.size w w' := by
  obtain ⟨ra, rc, fa, fc, rfl, rfl, hbd1, _⟩ := h1.shape
  obtain ⟨ra', rc', fa', fc', rfl, rfl, hbd2, _⟩ := h2.shape
  rw [na] at h1 ⊢
  rw [nb] at h2 ⊢
  have HA := Lib.hid h1
  have HB := Lib.hid h2
  have HNA := Lib.hid na
  have HNB := Lib.hid nb
  clear h1 h2 na nb
  generalize hl1 : a.items.length = l1 at *
  generalize hl2 : b.items.length = l2 at *
  have HL1 := Lib.hid hl1
  have HL2 := Lib.hid hl2
  clear hl1 hl2
  have hmm := @run_makeMap Tryz.prog
  go_enter Tryz.func29, Tryz.ntmps29
  go_wp2_with fail
  go_loopw [19] (fun i W => ∃ (k : Nat) (G : NM), k ≤ 2 ∧ i = .int .i64 (k : Int) ∧ Up w0 w (w.heap.size + 4) (256 * k) #[.int .i64 a.kind, .int .i64 a.int, .float .f64 a.flt, .string a.text, .slice ra l1 rc, .slice fa l1 fc, .int .i64 b.kind, .int .i64 b.int, .float .f64 b.flt, .string b.text, .slice ra' l2 rc', .slice fa' l2 fc'] d G W ∧ Hid ((k = 0 → G = fun _ => none) ∧ (k = 1 → G = putsV (fun _ => none) a.names a.items) ∧ (k = 2 → G = overP a b))) (fun i _ => 2 - (intOf i).toNat)
  case atStart =>
    exact ⟨0, fun _ => none, by omega, rfl, ⟨⟨fun _ => none, 0, (MF.made _ (by simp)).kept (World.grownBy_alloc _ _ none) (by simp), by omega, FV.nil _ _⟩, block_new _ _ (by simp), block_alloc (block_alloc (block_new _ _ (by simp)) _) _, (by (repeat' (first | (with_reducible exact Below.refl _ _) | (with_reducible assumption) | (with_reducible refine below_drewN ?_ _) | (with_reducible refine Below.drew ?_) | (with_reducible refine Below.alloc ?_ ?_ _) | (with_reducible refine Below.setCell ?_ ?_ _) | omega | (simp; done) | (simp; omega)))), by simp⟩, ⟨fun _ => rfl, fun h => by omega, fun h => by omega⟩⟩
  case round =>
    obtain ⟨k, G, hk, rfl, hU, hG⟩ := hrel
    by_cases hlt : k < 2
    · obtain ⟨x, xr, xf, l, rx, rcx, fx, fcx, hx, rfl, rfl, hxn, hxi, hl, hcs, hGk⟩ : ∃ (x : V) (xr xf : Value) (l : Nat) (rx : Option Addr) (rcx : Nat) (fx : Option Addr) (fcx : Nat), VI (d + 1) w0 x xr xf ∧ xr = .slice rx l rcx ∧ xf = .slice fx l fcx ∧ x.names.length = l ∧ x.items.length = l ∧ l ≤ 256 ∧
          (∀ (W : World), Up w0 w (w.heap.size + 4) (256 * k) #[.int .i64 a.kind, .int .i64 a.int, .float .f64 a.flt, .string a.text, .slice ra l1 rc, .slice fa l1 fc, .int .i64 b.kind, .int .i64 b.int, .float .f64 b.flt, .string b.text, .slice ra' l2 rc', .slice fa' l2 fc'] d G W →
            W.cell? ⟨w.heap.size + 4, k * 6, none⟩ = some (.int .i64 x.kind) ∧ W.cell? ⟨w.heap.size + 4, k * 6 + 1, none⟩ = some (.int .i64 x.int) ∧ W.cell? ⟨w.heap.size + 4, k * 6 + 2, none⟩ = some (.float .f64 x.flt) ∧ W.cell? ⟨w.heap.size + 4, k * 6 + 3, none⟩ = some (.string x.text) ∧ W.cell? ⟨w.heap.size + 4, k * 6 + 4, none⟩ = some xr ∧ W.cell? ⟨w.heap.size + 4, k * 6 + 5, none⟩ = some xf) ∧
          Hid ((k = 0 → putsV G x.names x.items = putsV (fun _ => none) a.names a.items) ∧ (k = 1 → putsV G x.names x.items = overP a b)) := by
        rcases (by omega : k = 0 ∨ k = 1) with rfl | rfl
        · refine ⟨a, _, _, l1, ra, rc, fa, fc, HA.out, rfl, rfl, HNA.out, HL1.out, la, fun W hW => ⟨block_cell hW.row rfl, block_cell hW.row rfl, block_cell hW.row rfl, block_cell hW.row rfl, block_cell hW.row rfl, block_cell hW.row rfl⟩, ⟨fun _ => by rw [hG.out.1 rfl], fun h => by omega⟩⟩
        · refine ⟨b, _, _, l2, ra', rc', fa', fc', HB.out, rfl, rfl, HNB.out, HL2.out, lb, fun W hW => ⟨block_cell hW.row rfl, block_cell hW.row rfl, block_cell hW.row rfl, block_cell hW.row rfl, block_cell hW.row rfl, block_cell hW.row rfl⟩, ⟨fun h => by omega, fun _ => by rw [hG.out.2.1 rfl]; rfl⟩⟩
      obtain ⟨c0, c1, c2, c3, c4, c5⟩ := hcs _ hU
      have HX := Lib.hid hx
      have HXN := Lib.hid hxn
      have HXI := Lib.hid hxi
      have HU := Lib.hid hU
      have hgs : w.heap.size + 5 ≤ wr.heap.size := hU.big
      have hk2 : decide ((k : Int) < 2) = true := by simp; omega
      clear hx hxn hxi hcs hU hG
      go_wp2_with fail
      generalize hbs : wr.heap.size = bs at *
      have HBS := Lib.hid hbs
      clear hbs
      go_loopw [26] (fun i W => ∃ (j : Nat), j ≤ l ∧ i = .int .i64 (j : Int) ∧ Up w0 w (w.heap.size + 4) (256 * k + j) #[.int .i64 a.kind, .int .i64 a.int, .float .f64 a.flt, .string a.text, .slice ra l1 rc, .slice fa l1 fc, .int .i64 b.kind, .int .i64 b.int, .float .f64 b.flt, .string b.text, .slice ra' l2 rc', .slice fa' l2 fc'] d (putsV G (x.names.take j) (x.items.take j)) W ∧ W.heap[bs]? = some (.cells #[.int .i64 x.kind, .int .i64 x.int, .float .f64 x.flt, .string x.text, .slice rx l rcx, .slice fx l fcx] 27 (0, 0))) (fun i _ => l - (intOf i).toNat)
      case atStart =>
        subst_vars
        refine ⟨0, Nat.zero_le _, rfl, HU.out.alloc _, block_new _ _ rfl⟩
      case round =>
        obtain ⟨j, hj, rfl, hU, hbox⟩ := hrel
        clear c0 c1 c2 c3 c4 c5
        have f4 := block_cell hbox (i := 4) rfl
        have f5 := block_cell hbox (i := 5) rfl
        by_cases hjl : j < l
        · obtain ⟨s, hs⟩ := get_lt x.names (k := j) (by have := HXN.out; omega)
          obtain ⟨v, hv⟩ := get_lt x.items (k := j) (by have := HXI.out; omega)
          have hnames := HX.out.names
          rw [SL, SLP] at hnames
          obtain ⟨a', cap', he, hz1, hz2, hc⟩ := hnames
          obtain ⟨bn, offn, ha', hcell, hss, _⟩ := hc j s hs
          simp only [Value.slice.injEq] at he
          obtain ⟨he1, -, -⟩ := he
          rw [ha'] at he1
          subst he1
          clear hc
          obtain ⟨bi, offi, r2, f2, hfx, k1, k2, k3, k4, k5, k6, hvi⟩ := HX.out.item hv
          subst hfx
          have hcell := cell_keeps (hb0.next hU.low) hcell
          have k1 := cell_keeps (hb0.next hU.low) k1
          have k2 := cell_keeps (hb0.next hU.low) k2
          have k3 := cell_keeps (hb0.next hU.low) k3
          have k4 := cell_keeps (hb0.next hU.low) k4
          have k5 := cell_keeps (hb0.next hU.low) k5
          have k6 := cell_keeps (hb0.next hU.low) k6
          have HS := Lib.hid hs
          have HV := Lib.hid hv
          obtain ⟨F, n, hM, hn, hF⟩ := hU.map
          have HF := Lib.hid hF
          have HR := Lib.hid hU.row
          have HO := Lib.hid hU.out
          have HLW := Lib.hid hU.low
          have hbig := hU.big
          have HBX := Lib.hid hbox
          clear hs hv hF hU hbox ha' hz1 hz2
          have tok1 : True := trivial
          go_wp2_with (at_mapUpdate; have _t := tok1
                       refine at_store _ rfl _ _ _ _ _ rfl Tryz.underlying89 (w.heap.size + 3) n F rfl hM (by unfold maxLen; omega) s rfl hss (.agg #[.int .i64 v.kind, .int .i64 v.int, .float .f64 v.flt, .string v.text, r2, f2]) rfl ?_
                       intro w1 hM1 hg1 hz1
                       clear tok1)
          go_roundw
          case rel =>
            refine ⟨j + 1, by omega, by go_num, ⟨⟨_, n + 1, hM1, by omega, ?_⟩, block_grown HR.out hg1 (by simp), block_grown HO.out hg1 (by simp), HLW.out.grown hg1 (by omega) (by intro i hi; simp at hi; omega), by omega⟩, block_grown HBX.out hg1 (by simp; omega)⟩
            rw [putsV_step G HS.out HV.out]
            exact HF.out.put ⟨r2, f2, rfl, hvi⟩
          case measure => simp [intOf]; omega
        · obtain rfl : j = l := by omega
          go_wp2_with fail
          go_roundw
          case rel =>
            have e1 : x.names.take j = x.names := List.take_of_length_le (by rw [HXN.out]; exact Nat.le_refl _)
            have e2 : x.items.take j = x.items := List.take_of_length_le (by rw [HXI.out]; exact Nat.le_refl _)
            rw [e1, e2] at hU
            refine ⟨k + 1, _, by omega, by go_num, hU.mono (by omega), ⟨fun h => by omega, fun h => hGk.out.1 (by omega), fun h => hGk.out.2 (by omega)⟩⟩
          case measure => simp [intOf]; omega
    · obtain rfl : k = 2 := by omega
      rw [show ((2 : Nat) : Int) = 2 from rfl]
      obtain rfl : G = overP a b := hG.out.2.2 rfl
      obtain ⟨F, n, hM, hn, hF⟩ := hU.map
      have HF := Lib.hid hF
      have HLW := Lib.hid hU.low
      have HO := Lib.hid hU.out
      have hbig := hU.big
      have HOV := Lib.hid (fun s h => over_mem (a := a) (b := b) (s := s) h)
      generalize hGG : overP a b = GG at *
      have HLA := Lib.hid (show (a.names ++ b.names).length ≤ 512 by rw [List.length_append, HNA.out, HNB.out]; omega)
      generalize a.names ++ b.names = AB at *
      have HGG := Lib.hid hGG
      clear hF hU hG hGG
      have hsz : ∀ X, (wr.alloc X).heap.size = wr.heap.size + 1 := fun X => by simp
      have tok1 : True := trivial
      go_wp2_with (at_range; have _t := tok1
                   refine at_ranged _ rfl _ _ _ rfl Tryz.underlying89 (w.heap.size + 3) n F rfl (hM.below (by (repeat' (first | (with_reducible exact Below.refl _ _) | (with_reducible assumption) | (with_reducible refine below_drewN ?_ _) | (with_reducible refine Below.drew ?_) | (with_reducible refine Below.alloc ?_ ?_ _) | (with_reducible refine Below.setCell ?_ ?_ _) | omega | (simp; done) | (simp; omega))))) ?_
                   intro w1 cnt1 hR1 hg1 hz1
                   rw [hsz]
                   clear tok1)
      go_frame
      have hob : w1.heap[wr.heap.size]? = some (.cells #[.int .i64 6, .int .i64 0, .float .f64 0, .string ⟨#[]⟩, .slice none 0 0, .slice none 0 0] 27 (0, 0)) := block_grown (block_new _ _ rfl) hg1 (by simp)
      have hb1 : Below w.heap.size w w1 := (HLW.out.alloc (by omega) _).grown hg1 (by simp; omega) (by simp)
      have HO1 := Lib.hid (block_grown (block_alloc HO.out _) hg1 (by simp))
      have hR2 : MR w1 (w.heap.size + 3) (wr.heap.size + 1) n F (fun s => (F s).isSome) cnt1 := by simpa using hR1
      have hz2 : w1.heap.size = wr.heap.size + 2 := by simpa using hz1
      clear hR1 hg1 hz1 hM HLW HO hsz
      generalize hobs : wr.heap.size = ob at *
      clear hobs
      have hobz : w.heap.size + 5 ≤ ob := hbig
      go_loopw [11] (fun _ W => ∃ (ns : List ByteArray) (t : Value) (left : ByteArray → Bool) (cnt : Nat), OS (ob + 2) W t ns ∧ MR W (w.heap.size + 3) (ob + 1) n F left cnt ∧ W.heap[ob]? = some (.cells #[.int .i64 6, .int .i64 0, .float .f64 0, .string ⟨#[]⟩, t, .slice none 0 0] 27 (0, 0)) ∧
          W.heap[w.heap.size + 2]? = some (.cells #[.int .i64 0, .int .i64 0, .float .f64 0, .string ⟨#[]⟩, .slice none 0 0, .slice none 0 0] 27 (0, 0)) ∧ Below w.heap.size w W ∧ ob + 2 ≤ W.heap.size ∧ ns.Nodup ∧ (∀ s, left s = true ↔ (GG s).isSome = true ∧ s ∉ ns) ∧ (∀ s, s ∈ ns → (GG s).isSome = true ∧ s.size ≤ maxLen)) (fun _ W => W.rangeLeft (w.heap.size + 3) (ob + 1))
      case atStart => exact ⟨[], _, _, _, World.ownsRow_nil _ _ _ _, hR2, hob, HO1.out, hb1, by omega, List.nodup_nil, fun s => by rw [HF.out.isSome]; simp, fun s hs => by simp at hs⟩
      case round =>
        obtain ⟨ns, t, left, cnt, hns, hMR, hOB, hOZ, hb2, hz3, hnd, hleft, hin⟩ := hrel
        have hnl : ns.length ≤ 512 := Nat.le_trans (hnd.length_le_of_subset (l₂ := AB) (fun s hs => HOV.out s (hin s hs).1)) HLA.out
        have HOZ := Lib.hid hOZ
        have HOB := Lib.hid hOB
        have HNS := Lib.hid hnd
        have HLE := Lib.hid hleft
        have HIN := Lib.hid hin
        clear hOZ hnd hleft hin hob hR2 HO1 hb1
        go_wp2_with (at_next; refine at_nexted _ rfl _ rfl (w.heap.size + 3) (ob + 1) n F left cnt rfl hMR ?_ ?_)
        · intro hl0
          have hmem : ∀ s, s ∈ ns ↔ (GG s).isSome = true := fun s => ⟨fun h => (HIN.out s h).1, fun h => by
            by_cases hs : s ∈ ns
            · exact hs
            · have := (HLE.out s).2 ⟨h, hs⟩
              rw [hl0 s] at this
              cases this⟩
          have HSRT := Lib.hid (show ∃ ms : List ByteArray, ms.Nodup ∧ (∀ s, s ∈ ms ↔ (GG s).isSome = true) ∧ sortS ns = sortS ms from ⟨ns, HNS.out, hmem, rfl⟩)
          have HSZ : Hid (∀ s, s ∈ sortS ns → s.size ≤ maxLen) := fun s hs => (HIN.out s (mem_sortS.1 hs)).2
          have HSI : Hid (∀ s, s ∈ sortS ns → (GG s).isSome = true) := fun s hs => (HIN.out s (mem_sortS.1 hs)).1
          clear hl0 hmem HLE
          have o4 := block_cell HOB.out (i := 4) rfl
          go_wp2_with fail
          refine (sort_own hns (by omega)).mono ?_
          rintro e w3 ⟨rfl, hos, hg3⟩
          have hlow := OS.lows hns
          have hb3 : Below w.heap.size w w3 := hb2.grown hg3 (by omega) (fun j hj => by have := hlow j hj; omega)
          have hM3 := hMR.owns.kept hg3 (OS.low hns (by omega))
          have HOB3 := Lib.hid (block_grown HOB.out hg3 (OS.low hns (by omega)))
          have HOZ3 := Lib.hid (block_grown HOZ.out hg3 (OS.low hns (by omega)))
          have hz3' := hg3.size
          have hzz : ob + 2 ≤ w3.heap.size := by omega
          have HSL : Hid ((sortS ns).length ≤ 512) := by unfold Hid; rw [sortS_length]; exact hnl
          have HSP : Hid (SLP (fun b => ob + 2 ≤ b ∧ b < w3.heap.size) w3 t (sortS ns)) := (hos.slp (by rw [sortS_length]; omega) HSZ.out).there.mono fun b hb => ⟨hb.1.1, hb.2⟩
          obtain ⟨ta, tc, rfl⟩ := hos.shape
          generalize sortS ns = L at *
          clear hos hns hMR HOB HOZ HNS HIN hg3 hb2 hz3 hz3' hlow o4 hnl
          have o4 := block_cell HOB3.out (i := 4) rfl
          go_wp2_with fail
          obtain ⟨bs, hbs⟩ : ∃ bs, w3.heap.size = bs := ⟨_, rfl⟩
          rw [hbs] at hzz HSP
          have hLl : L.length ≤ 512 := HSL.out
          have HBS := Lib.hid hbs
          clear hbs
          go_loopw [59] (fun i W => ∃ (j : Nat) (xs : List V) (u : Value) (cs : List Value), j ≤ L.length ∧ i = .int .i64 (j : Int) ∧ Hid (xs.length = j) ∧ W.ownsRow bs 27 6 u j cs ∧ VFlat d w0 cs xs ∧ SLP (fun b => ob + 2 ≤ b ∧ b < bs) W (.slice ta L.length tc) L ∧
              W.heap[ob]? = some (.cells #[.int .i64 6, .int .i64 0, .float .f64 0, .string ⟨#[]⟩, .slice ta L.length tc, u] 27 (0, 0)) ∧ MF W (w.heap.size + 3) n F ∧
              W.heap[w.heap.size + 2]? = some (.cells #[.int .i64 0, .int .i64 0, .float .f64 0, .string ⟨#[]⟩, .slice none 0 0, .slice none 0 0] 27 (0, 0)) ∧ Below w.heap.size w W ∧ bs ≤ W.heap.size ∧ Hid (∀ (i : Nat) (s : ByteArray), i < j → L[i]? = some s → ∃ x, xs[i]? = some x ∧ GG s = some x)) (fun i _ => L.length - (intOf i).toNat)
          case atStart => exact ⟨0, [], _, [], Nat.zero_le _, rfl, rfl, World.ownsRow_nil _ _ _ _, VFlat.nil _ _, HSP.out, HOB3.out, hM3, HOZ3.out, hb3, by rw [HBS.out]; exact Nat.le_refl _, fun i s h => absurd h (Nat.not_lt_zero _)⟩
          case round =>
            obtain ⟨j, xs, u, cs, hj, rfl, hxl, hown, hfl, hsp, hOB, hM, hOZ, hb, hbz, hat⟩ := hrel
            clear HSP HOB3 HOZ3 hM3 hb3 o4 HBS
            have HFL := Lib.hid hfl
            have HSPL := Lib.hid hsp
            have HOBL := Lib.hid hOB
            have HOZL := Lib.hid hOZ
            by_cases hjl : j < L.length
            · obtain ⟨s, hs⟩ := get_lt L hjl
              obtain ⟨a', cap', he, hz1, hz2, hc⟩ := id hsp
              obtain ⟨bn, offn, ha', hcell, hss, hpb⟩ := hc j s hs
              simp only [Value.slice.injEq] at he
              obtain ⟨he1, -, -⟩ := he
              rw [ha'] at he1
              subst he1
              have hgs := HSI.out s (List.mem_of_getElem? hs)
              obtain ⟨v, hv⟩ := Option.isSome_iff_exists.1 hgs
              obtain ⟨val, hFs, r2, f2, rfl, hvi⟩ := (HF.out s).1 v hv
              have hlook := hM.look Tryz.underlying89 zV hss
              rw [hFs] at hlook
              simp only [Option.getD_some, aggV] at hlook
              have HS := Lib.hid hs
              have HV := Lib.hid hv
              have o5 := block_cell hOB (i := 5) rfl
              have q5 := block_free (i := 5) hOB
              have HMM := Lib.hid hM
              clear hc ha' hz1 hz2 hsp hfl hOB hOZ hgs hv hFs hs hM
              go_wp2_with (at_builtin
                           refine append_val1 rfl _ _ rfl bs u j cs rfl (World.ownsRow.alloc hown _) d w0 v r2 f2 hvi wr.heap.size _ rfl (block_new _ _ rfl) (by have := HSL.out; omega) (by simp; omega) ?_
                           intro v4 w4 hown4 hfl4 hg4 hl4
                           obtain ⟨a4, c4, rfl⟩ := own_shape hown4
                           have hne4 : some ob ≠ u.ownBlock := fun e => by have := (World.ownsRow.lt hown ob e.symm).1; omega
                           have hOB4 := block_grown (block_alloc HOBL.out (Obj.cells #[Value.int .i64 v.kind, .int .i64 v.int, .float .f64 v.flt, .string v.text, r2, f2] 27)) hg4 hne4
                           have o54 := block_cell hOB4 (i := 5) rfl
                           have q54 := block_free (i := 5) hOB4)
              go_roundw
              case rel =>
                have hnb : ∀ g, g < bs → some g ≠ u.ownBlock := fun g hg e => by have := (World.ownsRow.lt hown g e.symm).1; omega
                have hz4 := hg4.size
                have hb4 : Below w.heap.size w w4 := Below.grown (w := wr.alloc _) (hb.alloc (by omega) _) hg4 (by simp; omega) (fun i hi => by have := (World.ownsRow.lt hown i hi).1; omega)
                refine ⟨j + 1, xs ++ [v], _, _, by omega, by go_num, ?_, ownsRow_setCell_below hown4 (by simp; omega) _, HFL.out.append hfl4, HSPL.out.kept ?_, block_set hOB4 _, ((HMM.out.below (by (repeat' (first | (with_reducible exact Below.refl _ _) | (with_reducible assumption) | (with_reducible refine below_drewN ?_ _) | (with_reducible refine Below.drew ?_) | (with_reducible refine Below.alloc ?_ ?_ _) | (with_reducible refine Below.setCell ?_ ?_ _) | omega | (simp; done) | (simp; omega))))).kept hg4 (hnb _ (by omega))).kept (grown_setCell w4 ⟨ob, 5, none⟩ _) (by simp; omega), block_setCell (block_grown (block_alloc HOZL.out _) hg4 (hnb _ (by omega))) (by simp; omega) _, hb4.setCell (by simp; omega) _, by simp at hz4 ⊢; omega, ?_⟩
                · show (xs ++ [v]).length = j + 1
                  rw [List.length_append, hxl.out]; rfl
                · intro g hg hlt
                  obtain ⟨o, ho⟩ : ∃ o, wr.heap[g]? = some o := ⟨_, Array.getElem?_eq_getElem hlt⟩
                  rw [ho]
                  exact block_setCell (block_grown (block_alloc ho _) hg4 (hnb _ hg.2)) (by simp; omega) _
                · intro i t hi ht
                  by_cases h9 : i = j
                  · subst h9
                    rw [HS.out] at ht
                    cases ht
                    exact ⟨v, by rw [← hxl.out]; simp, HV.out⟩
                  · obtain ⟨x, hx, hgx⟩ := hat.out i t (by omega) ht
                    exact ⟨x, by rw [List.getElem?_append_left (List.getElem?_eq_some_iff.1 hx).1]; exact hx, hgx⟩
              case measure => simp [intOf]; omega
            · obtain rfl : j = L.length := by omega
              obtain ⟨fa3, fc3, rfl⟩ := own_shape hown
              have o0 := block_cell hOB (i := 0) rfl
              have o1 := block_cell hOB (i := 1) rfl
              have o2 := block_cell hOB (i := 2) rfl
              have o3 := block_cell hOB (i := 3) rfl
              have o4 := block_cell hOB (i := 4) rfl
              have o5 := block_cell hOB (i := 5) rfl
              have z0 := block_cell hOZ (i := 0) rfl
              have z1 := block_cell hOZ (i := 1) rfl
              have z2 := block_cell hOZ (i := 2) rfl
              have z3 := block_cell hOZ (i := 3) rfl
              have z4 := block_cell hOZ (i := 4) rfl
              have z5 := block_cell hOZ (i := 5) rfl
              have y0 := block_free (i := 0) hOZ
              have y1 := block_free (i := 1) hOZ
              have y2 := block_free (i := 2) hOZ
              have y3 := block_free (i := 3) hOZ
              have y4 := block_free (i := 4) hOZ
              have y5 := block_free (i := 5) hOZ
              have HOWN := Lib.hid hown
              clear hfl hsp hOB hOZ hown hM
              go_wp2_with fail
              refine bodyPost_ret (results_cell_row rfl _ _ (w.heap.size + 2) 27 _ (0, 0) _ rfl (row6 HOZL.out _ _ _ _ _ _) Tryz.underlying27 rfl (by kernel_rfl)) rfl ?_
              have hlow : ∀ (W : World) (i : Nat) (v : Value), W.ownsRow bs 27 6 (.slice fa3 L.length fc3) L.length cs → (W.setCell ⟨w.heap.size + 2, i, none⟩ v).ownsRow bs 27 6 (.slice fa3 L.length fc3) L.length cs := fun W i v h => ownsRow_setCell_below h (by simp; omega) v
              have hkp : ∀ (W : World) (i : Nat) (v : Value), SLP (fun b => ob + 2 ≤ b ∧ b < bs) W (.slice ta L.length tc) L → SLP (fun b => ob + 2 ≤ b ∧ b < bs) (W.setCell ⟨w.heap.size + 2, i, none⟩ v) (.slice ta L.length tc) L := fun W i v h => h.kept fun g hg hlt => by
                obtain ⟨o, ho⟩ : ∃ o, W.heap[g]? = some o := ⟨_, Array.getElem?_eq_getElem hlt⟩
                rw [ho]
                exact block_setCell ho (by simp; omega) _
              have hBF : ∀ (W : World) (i : Nat) (v : Value), Below w.heap.size w W → Below w.heap.size w (W.setCell ⟨w.heap.size + 2, i, none⟩ v) := fun W i v h => h.setCell (by simp) _
              have hbf := hBF _ 5 (.slice fa3 L.length fc3) (hBF _ 4 (.slice ta L.length tc) (hBF _ 3 (.string ⟨#[]⟩) (hBF _ 2 (.float .f64 0) (hBF _ 1 (.int .i64 0) (hBF _ 0 (.int .i64 6) hb)))))
              have hso := hlow _ 5 (.slice fa3 L.length fc3) (hlow _ 4 (.slice ta L.length tc) (hlow _ 3 (.string ⟨#[]⟩) (hlow _ 2 (.float .f64 0) (hlow _ 1 (.int .i64 0) (hlow _ 0 (.int .i64 6) HOWN.out)))))
              refine ⟨L, xs, _, _, rfl, (hkp _ 5 _ (hkp _ 4 _ (hkp _ 3 _ (hkp _ 2 _ (hkp _ 1 _ (hkp _ 0 _ HSPL.out)))))).mono fun g hg => by omega, ⟨cs, by rw [hxl.out]; exact own_mono hso (by omega), HFL.out⟩, by have := hxl.out; omega, ?_, hbf⟩
              rw [HGG.out]
              exact ⟨HSRT.out, hxl.out, fun i s hi => hat.out i s (List.getElem?_eq_some_iff.1 hi).1 hi⟩
        · intro s v w3 cnt3 hss hls hFs hMR3 hlt3 hg3 hz4 hen
          have hz3' : ob + 2 ≤ w3.heap.size := by omega
          have hOB3 := block_grown HOB.out hg3 (by simp)
          have o4 := block_cell hOB3 (i := 4) rfl
          have q4 := block_free (i := 4) hOB3
          have HOB3 := Lib.hid hOB3
          have HLS := Lib.hid hls
          have HZ4 := Lib.hid hz4
          have hns3 := hns.keptG hg3 (by intro j hj; cases hj; omega)
          clear hls hFs hz4 hOB3 hOB
          go_wp2_with (at_builtin
                       refine append_str rfl _ _ rfl (ob + 2) t ns.length _ rfl (World.ownsRow.alloc hns3 _) w3.heap.size _ s rfl (block_cell (block_new _ _ rfl) rfl) (by omega) (by simp; omega) ?_
                       intro v4 w4 hown4 hg4 hl4
                       obtain ⟨a4, c4, rfl⟩ := own_shape hown4
                       have hOB4 := block_grown (block_alloc HOB3.out (Obj.cells #[Value.string s] 9)) hg4 (OS.low hns3 (by omega))
                       have o44 := block_cell hOB4 (i := 4) rfl
                       have q44 := block_free (i := 4) hOB4)
          go_roundw
          case rel =>
            have hlow := OS.lows hns
            have hb4 : Below w.heap.size w w4 := Below.grown (w := w3.alloc _) ((hb2.grown hg3 (by omega) (by intro j hj; cases hj; omega)).alloc (by omega) _) hg4 (by simp; omega) (fun j hj => by have := OS.lows hns3 j hj; omega)
            have hne1 : some (w.heap.size + 3) ≠ t.ownBlock := OS.low hns (by omega)
            have hne2 : some (ob + 1) ≠ t.ownBlock := OS.low hns (by omega)
            have hne3 : some (w.heap.size + 2) ≠ t.ownBlock := OS.low hns (by omega)
            have hmem := (HLE.out s).1 HLS.out
            have hz5 := hg4.size
            refine ⟨ns ++ [s], _, _, cnt3, (OS.snoc hown4).set (a := ⟨ob, 4, none⟩) (by simp) _, ((hMR3.kept (World.grownBy_alloc _ (Obj.cells #[Value.string s] 9) none) (by simp) (by simp)).kept hg4 hne1 hne2).kept (grown_setCell w4 ⟨ob, 4, none⟩ _) (by simp; omega) (by simp), block_set hOB4 _, block_setCell (block_grown (block_alloc (block_grown HOZ.out hg3 (by simp; omega)) _) hg4 hne3) (by simp; omega) _, hb4.setCell (by simp; omega) _, by simp at hz5 ⊢; omega, ?_, ?_, ?_⟩
            · rw [List.nodup_append]
              exact ⟨HNS.out, by simp, fun a ha b hb' e => by simp at hb'; subst hb'; subst e; exact hmem.2 ha⟩
            · intro x
              have h9 := HLE.out x
              by_cases hx : x = s
              · subst hx; simp
              · simp [hx, h9]
            · intro x hx
              rcases List.mem_append.1 hx with hx | hx
              · exact HIN.out x hx
              · simp at hx
                subst hx
                exact ⟨hmem.1, hss⟩
          case measure =>
            have hne1 : some (w.heap.size + 3) ≠ t.ownBlock := OS.low hns (by omega)
            have hne2 : some (ob + 1) ≠ t.ownBlock := OS.low hns (by omega)
            rw [(((hMR3.kept (World.grownBy_alloc _ (Obj.cells #[Value.string s] 9) none) (by simp) (by simp)).kept hg4 hne1 hne2).kept (grown_setCell w4 ⟨ob, 4, none⟩ (.slice a4 (ns.length + 1) c4)) (by simp; omega) (by simp)).left_eq, hMR.left_eq]
            exact hlt3
end Go.Proofs.YtdpnknlpkjablaaGreatDoor
