/- The function values that Order makes: what they tell of a name. -/
import Derived.Test.YtlhlbckmifgeeaaFn
import Derived.Test.YtlhlbckmifgeeaaMap
import Derived.Test.YtlhlbckmifgeeaaOwn
namespace Go.Proofs.Ytlhlbckmifgeeaa
open Go.RowKit Go.Shelf

def zU : Value := .agg #[.string ⟨#[]⟩, .string ⟨#[]⟩, .slice none 0 0, .slice none 0 0]
theorem zeroU (w : World) : (zeroValue 32).run Try.prog w = .ok zU w := by kernel_rfl

theorem fieldReq (c0 c1 c2 c3 : Value) (w : World) : (Instr.field 32 (.agg #[c0, c1, c2, c3]) 2).run Try.prog w = .ok c2 w := by kernel_rfl
theorem fieldAft (c0 c1 c2 c3 : Value) (w : World) : (Instr.field 32 (.agg #[c0, c1, c2, c3]) 3).run Try.prog w = .ok c3 w := by kernel_rfl

/-- Units by their names. -/
def UMap : Type := ByteArray → Option U
/-- The values that the map holds read as the units that G tells. -/
def FU (p : Nat → Prop) (w : World) (F : FMap) (G : UMap) : Prop := ∀ s, match F s, G s with | some v, some u => UVP p w v u | none, none => True | _, _ => False
theorem FU.isSome {p : Nat → Prop} {w : World} {F : FMap} {G : UMap} (h : FU p w F G) (s : ByteArray) : (F s).isSome = (G s).isSome := by
  have := h s
  cases hF : F s <;> cases hG : G s <;> rw [hF, hG] at this <;> first | rfl | exact this.elim
theorem FU.some {p : Nat → Prop} {w : World} {F : FMap} {G : UMap} (h : FU p w F G) {s : ByteArray} {u : U} (hu : G s = some u) : ∃ v, F s = some v ∧ UVP p w v u := by
  have := h s
  rw [hu] at this
  cases hF : F s with
  | none => rw [hF] at this; exact this.elim
  | some v => rw [hF] at this; exact ⟨v, rfl, this⟩
theorem FU.none {p : Nat → Prop} {w : World} {F : FMap} {G : UMap} (h : FU p w F G) {s : ByteArray} (hu : G s = none) : F s = none := by
  have := h s
  rw [hu] at this
  cases hF : F s with
  | none => rfl
  | some v => rw [hF] at this; exact this.elim
theorem FU.keeps {p : Nat → Prop} {w w' : World} {F : FMap} {G : UMap} (hb : Below w.heap.size w w') (h : FU p w F G) : FU p w' F G := by
  intro s
  have := h s
  cases hF : F s <;> cases hG : G s <;> rw [hF, hG] at this <;> first | exact this | exact UVP.keeps hb this
theorem FU.kept {p : Nat → Prop} {w w' : World} {F : FMap} {G : UMap} (h : FU p w F G) (hb : Kept p w w') : FU p w' F G := by
  intro s
  have := h s
  cases hF : F s <;> cases hG : G s <;> rw [hF, hG] at this <;> first | exact this | exact UVP.kept this hb

theorem FU.ck {p : Nat → Prop} {w w' : World} {F : FMap} {G : UMap} (h : FU p w F G) (hb : CK w w') : FU p w' F G := by
  intro s
  have := h s
  cases hF : F s <;> cases hG : G s <;> rw [hF, hG] at this <;> first | exact this | exact UVP.ck this hb

theorem UVP.mono {p p' : Nat → Prop} {w : World} {v : Value} {u : U} (h : UVP p w v u) (hp : ∀ b, p b → p' b) : UVP p' w v u := by
  obtain ⟨r, f, hv, h1, h2, h3, h4⟩ := h
  exact ⟨r, f, hv, h1, h2, h3.mono hp, h4.mono hp⟩
theorem FU.mono {p p' : Nat → Prop} {w : World} {F : FMap} {G : UMap} (h : FU p w F G) (hp : ∀ b, p b → p' b) : FU p' w F G := by
  intro s
  have := h s
  cases hF : F s <;> cases hG : G s <;> rw [hF, hG] at this <;> first | exact this | exact UVP.mono this hp

/-- What the function values look at: the variable 'left' (block bl) and the map that it holds. -/
structure Env (W : World) (bl bm n : Nat) (F : FMap) (G : UMap) : Prop where
  cell : W.cell? ⟨bl, 0, none⟩ = some (.map (some bm))
  map : MF W bm n F
  units : FU (fun _ => True) W F G
theorem Env.keeps {W W' : World} {bl bm n : Nat} {F : FMap} {G : UMap} (hb : Below W.heap.size W W') (h : Env W bl bm n F G) : Env W' bl bm n F G :=
  ⟨cell_keeps hb h.cell, h.map.below hb, h.units.keeps hb⟩

theorem uv_shape {p : Nat → Prop} {w : World} {v : Value} {u : U} (h : UVP p w v u) : ∃ a c e d, v = .agg #[.string u.name, .string u.start, .slice a u.req.length c, .slice e u.aft.length d] ∧ SLP p w (.slice a u.req.length c) u.req ∧ SLP p w (.slice e u.aft.length d) u.aft := by
  obtain ⟨r, f, rfl, _, _, hr, hf⟩ := h
  have hr' := hr
  have hf' := hf
  obtain ⟨a, c, rfl, _⟩ := hr'
  obtain ⟨e, d, rfl, _⟩ := hf'
  exact ⟨a, c, e, d, rfl, hr, hf⟩

set_option maxHeartbeats 400000 in
theorem there_any {bl bm n : Nat} {F : FMap} {G : UMap} {W : World} (h : Env W bl bm n F G) {s : ByteArray} (hs : s.size ≤ maxLen) :
    Calls Try.prog 21 #[.string s, .pointer (some ⟨bl, 0, none⟩)] W fun e w' => e = .returned (.bool (G s).isSome) ∧ Below W.heap.size W w' := by
  have hcell := h.cell
  have HM := h.map
  cases hG : G s with
  | none =>
    have hF := Lib.hid (h.units.none hG)
    clear hG
    go_enter Try.func21, Try.ntmps21
    have hl1 := HM.look_ok Try.underlying42 zeroU hs
    rw [hF.out] at hl1
    simp only [Option.getD_none, Option.isSome_none, zU] at hl1
    go_wp2_with fail
    go_ret
    exact ⟨rfl, (by (repeat' (first | (with_reducible exact Below.refl _ _) | (with_reducible assumption) | (with_reducible refine below_drewN ?_ _) | (with_reducible refine Below.drew ?_) | (with_reducible refine Below.alloc ?_ ?_ _) | (with_reducible refine Below.setCell ?_ ?_ _) | omega | (simp; done) | (simp; omega))))⟩
  | some u =>
    obtain ⟨v, hv, huv⟩ := h.units.some hG
    have hF := Lib.hid hv
    obtain ⟨a, c, e, d, rfl, _, _⟩ := uv_shape huv
    clear hG hv
    go_enter Try.func21, Try.ntmps21
    have hl1 := HM.look_ok Try.underlying42 zeroU hs
    rw [hF.out] at hl1
    simp only [Option.getD_some, Option.isSome_some] at hl1
    go_wp2_with fail
    go_ret
    exact ⟨rfl, (by (repeat' (first | (with_reducible exact Below.refl _ _) | (with_reducible assumption) | (with_reducible refine below_drewN ?_ _) | (with_reducible refine Below.drew ?_) | (with_reducible refine Below.alloc ?_ ?_ _) | (with_reducible refine Below.setCell ?_ ?_ _) | omega | (simp; done) | (simp; omega))))⟩

/-- The variable 'there'. -/
structure Env2 (W : World) (bl bt bm n : Nat) (F : FMap) (G : UMap) : Prop where
  env : Env W bl bm n F G
  there : W.cell? ⟨bt, 0, none⟩ = some (.func (.func 21) #[] #[.pointer (some ⟨bl, 0, none⟩)])
theorem Env2.keeps {W W' : World} {bl bt bm n : Nat} {F : FMap} {G : UMap} (hb : Below W.heap.size W W') (h : Env2 W bl bt bm n F G) : Env2 W' bl bt bm n F G :=
  ⟨h.env.keeps hb, cell_keeps hb h.there⟩

set_option maxHeartbeats 400000 in
theorem notThere_any {bl bt bm n : Nat} {F : FMap} {G : UMap} {W : World} (h : Env2 W bl bt bm n F G) {s : ByteArray} (hs : s.size ≤ maxLen) :
    Calls Try.prog 23 #[.string s, .pointer (some ⟨bt, 0, none⟩)] W fun e w' => e = .returned (.bool (!(G s).isSome)) ∧ Below W.heap.size W w' := by
  have hthere := h.there
  have hc := Lib.hid (there_any h.env hs)
  generalize (G s).isSome = r at hc ⊢
  go_enter Try.func23, Try.ntmps23
  go_wp2_with fail
  refine hc.out.mono ?_
  rintro e w1 ⟨rfl, hb1⟩
  go_wp2_with fail
  go_ret
  exact ⟨rfl, hb1⟩

theorem enters1 : Enters Try.prog 21 := enters_of Try.func21 (by kernel_rfl) rfl
theorem enters2 : Enters Try.prog 23 := enters_of Try.func23 (by kernel_rfl) rfl
theorem enters3 : Enters Try.prog 25 := enters_of Try.func25 (by kernel_rfl) rfl

theorem there_pred {bl bm n : Nat} {F : FMap} {G : UMap} {W : World} (h : Env W bl bm n F G) {ss : List ByteArray} (hs : ∀ s ∈ ss, s.size ≤ maxLen) :
    PredS 21 #[.pointer (some ⟨bl, 0, none⟩)] W ss (fun s => (G s).isSome) := fun s hm _ hb => there_any (h.keeps hb) (hs s hm)
theorem notThere_pred {bl bt bm n : Nat} {F : FMap} {G : UMap} {W : World} (h : Env2 W bl bt bm n F G) {ss : List ByteArray} (hs : ∀ s ∈ ss, s.size ≤ maxLen) :
    PredS 23 #[.pointer (some ⟨bt, 0, none⟩)] W ss (fun s => !(G s).isSome) := fun s hm _ hb => notThere_any (h.keeps hb) (hs s hm)

theorem SLP.len {p : Nat → Prop} {w : World} {v : Value} {ss : List ByteArray} (h : SLP p w v ss) : ss.length ≤ 8796093021952 := by
  obtain ⟨_, _, _, _, hl, _⟩ := h
  exact hl
theorem SLP.size {p : Nat → Prop} {w : World} {v : Value} {ss : List ByteArray} (h : SLP p w v ss) : ∀ s ∈ ss, s.size ≤ maxLen := by
  intro s hs
  obtain ⟨i, hi⟩ := List.getElem?_of_mem hs
  obtain ⟨_, _, _, _, _, hc⟩ := h
  obtain ⟨_, _, _, _, h2, _⟩ := hc i s hi
  exact h2

/-- May a unit start? -/
def free (G : UMap) (u : U) : Bool := !(u.req.any fun s => (G s).isSome) && !(u.aft.any fun s => (G s).isSome)

set_option maxHeartbeats 800000 in
theorem free_any {bl bt bm n : Nat} {F : FMap} {G : UMap} {W : World} (h : Env2 W bl bt bm n F G) {s : ByteArray} (hs : s.size ≤ maxLen) {u : U} (hu : G s = some u) :
    Calls Try.prog 25 #[.string s, .pointer (some ⟨bl, 0, none⟩), .pointer (some ⟨bt, 0, none⟩)] W fun e w' => e = .returned (.bool (free G u)) ∧ Below W.heap.size W w' := by
  have hcell := h.env.cell
  have hthere := h.there
  have HM := h.env.map
  obtain ⟨v, hv, huv⟩ := h.env.units.some hu
  have hF := Lib.hid hv
  obtain ⟨a, c, e, d, rfl, hr, hf⟩ := uv_shape huv
  have HFr := Lib.hid (show free G u = (!(u.req.any fun s => (G s).isSome) && !(u.aft.any fun s => (G s).isSome)) from rfl)
  generalize hx1 : (u.req.any fun s => (G s).isSome) = x1 at HFr
  generalize hx2 : (u.aft.any fun s => (G s).isSome) = x2 at HFr
  have HX1 := Lib.hid hx1
  have HX2 := Lib.hid hx2
  generalize free G u = res at HFr ⊢
  have hl1 := HM.look Try.underlying42 zeroU hs
  rw [hF.out] at hl1
  simp only [Option.getD_some] at hl1
  have hfd2 := fieldReq
  have hfd3 := fieldAft
  clear hv hu hx1 hx2
  cases x1
  · go_enter Try.func25, Try.ntmps25
    go_wp2_with fail
    refine (containsFunc_any enters1 hr (there_pred h.env hr.size)).mono ?_
    rw [HX1.out]
    rintro e w1 ⟨rfl, hb1⟩
    have hcell1 := cell_keeps hb1 hcell
    have hthere1 := cell_keeps hb1 hthere
    have hl2 := (HM.below hb1).look Try.underlying42 zeroU hs
    rw [hF.out] at hl2
    simp only [Option.getD_some] at hl2
    go_wp2_with fail
    refine (containsFunc_any enters1 (SLP.keeps hb1 hf) (there_pred (h.env.keeps hb1) hf.size)).mono ?_
    rw [HX2.out]
    rintro e w2 ⟨rfl, hb2⟩
    go_wp2_with fail
    go_ret
    exact ⟨ret_bool (by rw [HFr.out]; rfl), hb1.trans (hb2.mono hb1.size)⟩
  · go_enter Try.func25, Try.ntmps25
    go_wp2_with fail
    refine (containsFunc_any enters1 hr (there_pred h.env hr.size)).mono ?_
    rw [HX1.out]
    rintro e w1 ⟨rfl, hb1⟩
    go_wp2_with fail
    go_ret
    exact ⟨ret_bool (by rw [HFr.out]; rfl), hb1⟩
end Go.Proofs.Ytlhlbckmifgeeaa
