/- What the laws of the lexer show: one text and its six tokens. -/
import Derived.Test.YtnhdedoobagbbaaGreatDoorAll
import Derived.Test.YtnhdedoobagbbaaGreatDoorFlt2
namespace Go.Proofs.YtnhdedoobagbbaaGreatDoor
open Go.RowKit

/-- What the package-level variables hold that the lexer leans on; all of it in blocks below NG. -/
structure GL (NG : Nat) (w : World) : Prop where
  big : 10 < NG
  opt : w.cell? ⟨6, 0, none⟩ = some (.bool true)
  mant : w.cell? ⟨7, 0, none⟩ = some (.int .u64 52)
  pow : ∃ b o c, b < NG ∧ w.cell? ⟨10, 0, none⟩ = some (.slice (some ⟨b, o, none⟩) 23 c) ∧ w.cell? ⟨b, o + 2, none⟩ = some (.float .f64 4636737291354636288)
  errS : ∃ ev, w.cell? ⟨2, 0, none⟩ = some ev ∧ (ev = .nilIface ∨ ∃ te pe, ev = .iface te pe)
  errR : ∃ ev, w.cell? ⟨3, 0, none⟩ = some ev ∧ (ev = .nilIface ∨ ∃ te pe, ev = .iface te pe)
theorem GL.flt {NG : Nat} {w : World} (h : GL NG w) : FltG w := ⟨h.opt, h.mant, by obtain ⟨b, o, c, _, h1, h2⟩ := h.pow; exact ⟨b, o, c, h1, h2⟩⟩
theorem GL.keeps {NG B : Nat} {w w' : World} (hB : NG ≤ B) (hb : Below B w w') (h : GL NG w) : GL NG w' := by
  have hg : ∀ k, k ≤ 10 → w'.cell? ⟨k, 0, none⟩ = w.cell? ⟨k, 0, none⟩ := fun k hk => hb.cell (by have := h.big; show k < B; omega)
  refine ⟨h.big, ?_, ?_, ?_, ?_, ?_⟩
  · rw [hg _ (by decide)]; exact h.opt
  · rw [hg _ (by decide)]; exact h.mant
  · obtain ⟨b, o, c, hbn, h1, h2⟩ := h.pow
    refine ⟨b, o, c, hbn, ?_, ?_⟩
    · rw [hg _ (by decide)]; exact h1
    · rw [hb.cell (show b < B by omega)]; exact h2
  · rw [hg _ (by decide)]; exact h.errS
  · rw [hg _ (by decide)]; exact h.errR
def pfTx : ByteArray → Nat := fun _ => 4654311885213007872
theorem GL.env (NG : Nat) : Env NG (GL NG) (fun t => t = tx) pfTx where
  keeps := fun _ _ _ hB hb h => h.keeps hB hb
  errS := fun _ h => h.errS
  errR := fun _ h => h.errR
  float := by
    rintro t w rfl h
    exact float_tx h.flt
def sh : ByteArray := ⟨#[97, 45, 98, 32, 49, 46, 53, 101, 51, 46, 120, 32, 34, 97, 92, 110, 34]⟩
def shT : List Tok := [⟨1, ⟨#[97, 45, 98]⟩, 0, 0, 0⟩, ⟨3, tx, 0, 4654311885213007872, 4⟩, ⟨5, ⟨#[46]⟩, 0, 0, 9⟩, ⟨1, ⟨#[120]⟩, 0, 0, 10⟩, ⟨4, ⟨#[97, 10]⟩, 0, 0, 12⟩, ⟨0, ⟨#[]⟩, 0, 0, 17⟩]
theorem sh_lex : lexP pfTx sh = .ok shT := by kernel_rfl
theorem sh_floats : ∀ p, p < sh.size → atDig sh p = true → dotB sh (runTo digitB sh p) = true → sh.extract p (expEnd sh (runTo digitB sh (runTo digitB sh p + 1))) = tx := by decide +kernel
set_option maxRecDepth 100000 in
theorem shown_any {NG : Nat} {w : World} (hG : GL NG w) (hNG : NG ≤ w.heap.size) : Calls Tryz.prog 6 #[] w fun e w' => e = .returned (.bool true) ∧ Below w.heap.size w w' := by
  have HALL := Lib.hid (All_any (GL.env NG) (s := sh) hG hNG sh_floats)
  rw [sh_lex] at HALL
  go_enter Tryz.func6, Tryz.ntmps6
  go_wp2_with fail
  refine HALL.out.mono ?_
  rintro e w2 ⟨⟨out, rfl, hown⟩, hb⟩
  obtain ⟨a, cap, rfl⟩ := own_shape hown
  obtain ⟨g, rfl, hg, hn, c8⟩ := own_cell hown rfl (j := 8) (x := .float .f64 4654311885213007872) rfl
  obtain ⟨_, he, _, _, c21⟩ := own_cell hown rfl (j := 21) (x := .string ⟨#[97, 10]⟩) rfl
  cases he
  obtain ⟨_, he, _, _, c25⟩ := own_cell hown rfl (j := 25) (x := .int .i64 0) rfl
  cases he
  go_wp2_with fail
  go_ret
  exact ⟨rfl, hb⟩
end Go.Proofs.YtnhdedoobagbbaaGreatDoor
