/- Shares of numbers: the walk of the statement. -/
import Derived.Test.YtlilnffcnjajdaaRatL
namespace Go.Proofs.Ytlilnffcnjajdaa
open Go.RowKit Fl
set_option linter.unusedVariables false

set_option maxHeartbeats 3200000 in
theorem shares_walk (n : Int) (a b : Nat) (ha : a < 18446744073709551616) (hb : b < 18446744073709551616) (w : World) :
    Calls Try.prog 10 #[.int .i64 n, .int .u64 a, .int .u64 b] w fun e w' => e = .returned (.bool true) ∧ Below w.heap.size w w' := by
  have fa := Lib.hid (fun w => f_any a w)
  have fb := Lib.hid (fun w => f_any b w)
  have s1 := Lib.hid (fun w => share_any n a ha w)
  have s2 := Lib.hid (fun w => share_any n b hb w)
  have q1 := Lib.hid (fun w => rShare_any n a ha w)
  have l1 := Lib.hid (fun w => rLess_any a b ha hb w)
  obtain ⟨k0, k1, k2⟩ := shareI_bd n a ha
  have e1 := ne_self a ha
  have e2 := ne_self b hb
  have hm : isN a = false → isN b = false → ltB a b = true → shareI n a ≤ shareI n b := fun h1 h2 h3 => shareI_mono n ha hb h1 h2 h3
  clear ha hb
  generalize shareI n a = x at *
  generalize shareI n b = y at *
  have k3 : x ≤ n ∨ x = 0 := by omega
  have hmx : ¬ (max n 0 < x) := by omega
  cases na : isN a <;> cases nb : isN b <;> cases lt : ltB a b <;> rw [na] at e1 hm <;> rw [nb] at e2 hm <;> rw [lt] at l1 hm
  all_goals
    simp only [forall_const, Bool.true_eq_false, Bool.false_eq_true, false_implies, implies_true] at hm
    go_enter Try.func10, Try.ntmps10
    go_wp2_with (first | (go_at_call 20; (with_reducible refine (fa.out _).mono ?_); rintro e w' ⟨rfl, rfl⟩) | (go_at_call 20; (with_reducible refine (fb.out _).mono ?_); rintro e w' ⟨rfl, rfl⟩) | (go_at_call 37; (with_reducible refine (s1.out _).mono ?_); rintro e w' ⟨rfl, rfl⟩) | (go_at_call 37; (with_reducible refine (s2.out _).mono ?_); rintro e w' ⟨rfl, rfl⟩) | (go_at_call 38; (with_reducible refine (q1.out _).mono ?_); rintro e w' ⟨rfl, rfl⟩) | (go_at_call 22; (with_reducible refine (l1.out _).mono ?_); rintro e w' ⟨rfl, rfl⟩) | (go_at_call 25; (with_reducible refine (ratAwake _).mono ?_); rintro e w' ⟨rfl, n5, rfl⟩))
    all_goals go_ret
    all_goals exact ⟨by simp, below_drewn ⟨_, rfl⟩⟩

end Go.Proofs.Ytlilnffcnjajdaa
