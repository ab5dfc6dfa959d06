/- ParseFloat of the one text that the laws of the lexer show. -/
import Derived.Test.YtnhdedoobagbbaaGreatDoorFlt1
namespace Go.Proofs.YtnhdedoobagbbaaGreatDoor
open Go.RowKit

theorem FltG.drewN {w : World} (h : FltG w) (n : Nat) : FltG (w.drewN n) := ⟨h.opt, h.mant, h.pow⟩
set_option maxRecDepth 100000 in
theorem bool2_f (w : World) : Calls Tryz.prog 71 #[.bool false] w fun e w' => e = .returned (.int .u64 0) ∧ w = w' := by
  go_enter Tryz.func71, Tryz.ntmps71
  go_wp2_with fail
  go_ret
  exact ⟨rfl, rfl⟩
set_option maxHeartbeats 1000000 in
set_option maxRecDepth 100000 in
theorem atof64_tx {t : ByteArray} (hs : t.size = 5) (h0 : t[0] = 49) (h1 : t[1] = 46) (h2 : t[2] = 53) (h3 : t[3] = 101) (h4 : t[4] = 51) {w : World} (hG : FltG w) :
    Calls Tryz.prog 60 #[.string t] w fun e w' => e = .returned (.tuple #[.float .f64 4654311885213007872, .int .i64 5, .nilIface]) ∧ ∃ n, w' = w.drewN n := by
  go_enter Tryz.func60, Tryz.ntmps60
  go_wp2_with fail
  refine (special_tx hs h0 _).mono ?_
  rintro e w2 ⟨rfl, rfl⟩
  go_wp2_with fail
  refine (readFloat_tx hs h0 h1 h2 h3 h4 _).mono ?_
  rintro e w2 ⟨rfl, n, rfl⟩
  have hG2 := hG.drewN n
  have q1 := hG2.opt
  go_wp2_with fail
  refine (bool2_f _).mono ?_
  rintro e w2 ⟨rfl, rfl⟩
  go_wp2_with fail
  refine (exact_tx hG2).mono ?_
  rintro e w2 ⟨rfl, rfl⟩
  go_wp2_with fail
  go_ret3
  exact ⟨rfl, _, rfl⟩
set_option maxRecDepth 100000 in
theorem prefix_tx {t : ByteArray} (hs : t.size = 5) (h0 : t[0] = 49) (h1 : t[1] = 46) (h2 : t[2] = 53) (h3 : t[3] = 101) (h4 : t[4] = 51) {w : World} (hG : FltG w) :
    Calls Tryz.prog 49 #[.string t, .int .i64 64] w fun e w' => e = .returned (.tuple #[.float .f64 4654311885213007872, .int .i64 5, .nilIface]) ∧ ∃ n, w' = w.drewN n := by
  go_enter Tryz.func49, Tryz.ntmps49
  go_wp2_with fail
  refine (atof64_tx hs h0 h1 h2 h3 h4 hG).mono ?_
  rintro e w2 ⟨rfl, n, rfl⟩
  go_wp2_with fail
  go_ret3
  exact ⟨rfl, _, rfl⟩
set_option maxRecDepth 100000 in
theorem parseIn_tx {t : ByteArray} (hs : t.size = 5) (h0 : t[0] = 49) (h1 : t[1] = 46) (h2 : t[2] = 53) (h3 : t[3] = 101) (h4 : t[4] = 51) {w : World} (hG : FltG w) :
    Calls Tryz.prog 36 #[.string t, .int .i64 64] w fun e w' => e = .returned (.tuple #[.float .f64 4654311885213007872, .nilIface]) ∧ ∃ n, w' = w.drewN n := by
  go_enter Tryz.func36, Tryz.ntmps36
  go_wp2_with fail
  refine (prefix_tx hs h0 h1 h2 h3 h4 hG).mono ?_
  rintro e w2 ⟨rfl, n, rfl⟩
  go_wp2_with fail
  go_ret2
  exact ⟨rfl, _, rfl⟩
set_option maxRecDepth 100000 in
theorem parseFloat_tx {t : ByteArray} (hs : t.size = 5) (h0 : t[0] = 49) (h1 : t[1] = 46) (h2 : t[2] = 53) (h3 : t[3] = 101) (h4 : t[4] = 51) {w : World} (hG : FltG w) :
    Calls Tryz.prog 23 #[.string t, .int .i64 64] w fun e w' => e = .returned (.tuple #[.float .f64 4654311885213007872, .nilIface]) ∧ ∃ n, w' = w.drewN n := by
  go_enter Tryz.func23, Tryz.ntmps23
  go_wp2_with fail
  refine (parseIn_tx hs h0 h1 h2 h3 h4 hG).mono ?_
  rintro e w2 ⟨rfl, n, rfl⟩
  go_wp2_with fail
  go_ret2
  exact ⟨rfl, _, rfl⟩
/-- The one text with a point that the laws show. -/
def tx : ByteArray := ⟨#[49, 46, 53, 101, 51]⟩
theorem float_tx {w : World} (hG : FltG w) :
    Calls Tryz.prog 23 #[.string tx, .int .i64 64] w fun e w' => (∃ er, e = .returned (.tuple #[.float .f64 4654311885213007872, er])) ∧ Below w.heap.size w w' :=
  (parseFloat_tx (t := tx) rfl rfl rfl rfl rfl rfl hG).mono fun _ _ ⟨he, _, hw⟩ => ⟨⟨_, he⟩, hw ▸ below_drewN (Below.refl _ _) _⟩
end Go.Proofs.YtnhdedoobagbbaaGreatDoor
