/- What the laws of the lexer show, in worlds where it reads any text; a token is what it is. -/
import Derived.Test.YtnhdedoobagbbaaGreatDoorFltEnv
import Derived.Laws.StructEq
namespace Go.Proofs.YtnhdedoobagbbaaGreatDoor
open Go.RowKit

def txA : ByteArray := ⟨#[49, 46, 53, 101, 51]⟩
def shA : ByteArray := ⟨#[97, 45, 98, 32, 49, 46, 53, 101, 51, 46, 120, 32, 34, 97, 92, 110, 34]⟩
def shTA : List Tok := [⟨1, ⟨#[97, 45, 98]⟩, 0, 0, 0⟩, ⟨3, txA, 0, 4654311885213007872, 4⟩, ⟨5, ⟨#[46]⟩, 0, 0, 9⟩, ⟨1, ⟨#[120]⟩, 0, 0, 10⟩, ⟨4, ⟨#[97, 10]⟩, 0, 0, 12⟩, ⟨0, ⟨#[]⟩, 0, 0, 17⟩]
theorem shA_lex : lexP pfA shA = .ok shTA := by kernel_rfl
set_option maxRecDepth 100000 in
theorem shownA_any {NG : Nat} {w : World} (hG : GW NG w) : Calls Tryz.prog 6 #[] w fun e w' => e = .returned (.bool true) ∧ Below w.heap.size w w' := by
  have HALL := Lib.hid (All_pf (s := shA) hG)
  rw [shA_lex] at HALL
  go_enter Tryz.func6, Tryz.ntmps6
  go_wp2_with fail
  refine HALL.out.mono ?_
  rintro e w2 ⟨⟨out, rfl, hown⟩, hb⟩
  obtain ⟨a, cap, rfl⟩ := own_shape hown
  obtain ⟨g, rfl, hg, hn, c8⟩ := own_cell hown rfl (j := 8) (x := .float .f64 4654311885213007872) rfl
  obtain ⟨_, he, _, _, c21⟩ := own_cell hown rfl (j := 21) (x := .string ⟨#[97, 10]⟩) rfl
  cases he
  obtain ⟨_, he, _, _, c25⟩ := own_cell hown rfl (j := 25) (x := .int .i64 0) rfl
  cases he
  go_wp2_with fail
  go_ret
  exact ⟨rfl, hb⟩
theorem eq_float {b : Nat} (h : Fin' b) (d : Nat) (w : World) : (Op.equalIn (d + 1) 32 (.float .f64 b) (.float .f64 b)).run Tryz.prog w = .ok true w := by
  have hu := Tryz.underlying32
  have ho : Op.floatEq FloatKind.f64 b b = true := by
    unfold Op.floatEq
    rw [show FloatKind.f64.format.order b b = some .eq from order_self h]
    rfl
  simp [Op.equalIn, run_underlying hu, ho]
theorem tok_in {k n p : Int} {nm : ByteArray} {b : Nat} (h : Fin' b) (w : World) :
    (Op.equalIn 10000 34 (.agg #[.int .i64 k, .string nm, .int .i64 n, .float .f64 b, .int .i64 p]) (.agg #[.int .i64 k, .string nm, .int .i64 n, .float .f64 b, .int .i64 p])).run Tryz.prog w = .ok true w := by
  have hf := fun d => eq_float h d w
  rw [run_equalIn_agg (P := Tryz.prog) w 9999 34 _ _ (by kernel_rfl) (by kernel_rfl)]
  simp [go_sem, Tryz.underlying34, Tryz.underlying2, Tryz.underlying9, Tryz.underlying3, hf]
theorem tok_neq {k n p : Int} {nm : ByteArray} {b : Nat} (h : Fin' b) (w : World) :
    (binOp BinOp.neq 34 (.agg #[.int .i64 k, .string nm, .int .i64 n, .float .f64 b, .int .i64 p]) (.agg #[.int .i64 k, .string nm, .int .i64 n, .float .f64 b, .int .i64 p])).run Tryz.prog w = .ok (.bool false) w := by
  rw [run_neq_struct, tok_in h]
  rfl
/-- A token of a row of the call's own. -/
theorem own_tok {w : World} {base m c : Nat} {v : Value} {a : Option Addr} {ts : List Tok} {i : Nat} {t : Tok} (h : w.ownsRow base 34 5 v ts.length (flatT ts)) (hv : v = .slice a m c) (ht : ts[i]? = some t) :
    ∃ g, a = some ⟨g, 0, none⟩ ∧ base ≤ g ∧ m = ts.length ∧ w.cell? ⟨g, i * 5, none⟩ = some (.int .i64 t.kind) ∧ w.cell? ⟨g, i * 5 + 1, none⟩ = some (.string t.text) ∧ w.cell? ⟨g, i * 5 + 2, none⟩ = some (.int .i64 t.num) ∧
      w.cell? ⟨g, i * 5 + 3, none⟩ = some (.float .f64 t.bits) ∧ w.cell? ⟨g, i * 5 + 4, none⟩ = some (.int .i64 t.place) := by
  obtain ⟨g, e0, h1, h2, c0⟩ := own_cell h hv (j := i * 5 + 0) (flatT_at ht 0 (by decide))
  obtain ⟨g1, e1, _, _, c1⟩ := own_cell h hv (j := i * 5 + 1) (flatT_at ht 1 (by decide))
  obtain ⟨g2, e2, _, _, c2⟩ := own_cell h hv (j := i * 5 + 2) (flatT_at ht 2 (by decide))
  obtain ⟨g3, e3, _, _, c3⟩ := own_cell h hv (j := i * 5 + 3) (flatT_at ht 3 (by decide))
  obtain ⟨g4, e4, _, _, c4⟩ := own_cell h hv (j := i * 5 + 4) (flatT_at ht 4 (by decide))
  rw [e0] at e1 e2 e3 e4
  cases e1; cases e2; cases e3; cases e4
  exact ⟨g, e0, h1, h2, c0, c1, c2, c3, c4⟩
theorem tokP_fin {pf : ByteArray → Nat} (hpf : ∀ t, t.size ≤ 800 → DA t → Fin' (pf t)) {s : ByteArray} {p j : Nat} {t : Tok} (h : tokP pf s p = .ok (t, j)) : Fin' t.bits := by
  obtain ⟨c, hb, h1, h2⟩ := tokP_at h
  unfold tokP at h
  rw [hb] at h
  simp only [h1, h2, Bool.false_eq_true, if_false] at h
  split at h
  · split at h
    · cases h
    · cases h
      exact Nat.zero_le _
  · split at h
    · rename_i hd
      unfold numP at h
      split at h
      · cases h
      · split at h
        · rename_i hdot
          split at h
          · cases h
          · rename_i h8
            split at h
            · cases h
            · cases h
              have hle := runTo_le digitB s (Nat.le_of_lt (bt_lt hb))
              have hdl := dotB_lt hdot
              exact hpf _ (by simp; omega) (shaped (by unfold atDig; rw [hb]; exact hd) hdot)
        · split at h
          · cases h
            exact Nat.zero_le _
          · cases h
    · split at h
      · unfold textP at h
        split at h
        · cases h
          exact Nat.zero_le _
        · cases h
      · unfold signP at h
        split at h
        · cases h
          exact Nat.zero_le _
        · cases h
theorem lx_fin {pf : ByteArray → Nat} (hpf : ∀ t, t.size ≤ 800 → DA t → Fin' (pf t)) {s : ByteArray} {p : Nat} {ts : List Tok} (h : Lx pf s p ts) : ∀ t, t ∈ ts → Fin' t.bits := by
  induction h with
  | fin h =>
    intro t ht
    rw [List.mem_singleton.1 ht]
    exact Nat.zero_le _
  | tok h1 h2 h3 ih =>
    intro t ht
    rcases List.mem_cons.1 ht with rfl | h
    · exact tokP_fin hpf h2
    · exact ih t h
theorem lx_pos {pf : ByteArray → Nat} {s : ByteArray} {p : Nat} {ts : List Tok} (h : Lx pf s p ts) : 0 < ts.length := by
  cases h <;> simp
theorem lx_last {pf : ByteArray → Nat} {s : ByteArray} {p : Nat} {ts : List Tok} (h : Lx pf s p ts) : ts[ts.length - 1]? = some ⟨0, ⟨#[]⟩, 0, 0, s.size⟩ := by
  induction h with
  | fin h => rfl
  | @tok p q j t ts h1 h2 h3 ih =>
    have := lx_pos h3
    simp only [List.length_cons, Nat.add_sub_cancel]
    rw [show ts.length = (ts.length - 1) + 1 by omega, List.getElem?_cons_succ]
    exact ih
end Go.Proofs.YtnhdedoobagbbaaGreatDoor
