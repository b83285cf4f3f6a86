/- The calls of ratio that the statements of chapter 2 alone come to. -/
import Derived.Test.YtbgknopjgohocaaGreatZA
namespace Go.Proofs.YtbgknopjgohocaaGreat
open Go.RowKit Fl
set_option linter.unusedVariables false

theorem rate_any (a b : Int) (w : World) :
    Calls Tryz.prog 39 #[.int .i64 a, .int .i64 b] w fun e w' => ∃ r, e = .returned (.float .f64 r) ∧ r < 18446744073709551616 ∧ cn r = opC .quo (cn (floatOfInt .f64 a)) (cn (floatOfInt .f64 b)) ∧ ∃ n, w' = w.drewN n := by
  obtain ⟨r, m, h, hr, hc⟩ := run_arith (P := Tryz.prog) .quo (by simp) (floatOfInt .f64 a) (floatOfInt .f64 b) w
  have HR := Lib.hid hr
  have HC := Lib.hid hc
  clear hr hc
  go_enter Tryz.func39, Tryz.ntmps39
  go_wp2
  go_ret
  exact ⟨r, rfl, HR.out, HC.out, m, rfl⟩

def blC (old x w : Nat) : Option Nat := if isN old then cn x else if isN x then cn old else opC .add (cn old) (opC .mul (cn (fixB w 0 4607182418800017408 0)) (opC .sub (cn x) (cn old)))

end Go.Proofs.YtbgknopjgohocaaGreat
