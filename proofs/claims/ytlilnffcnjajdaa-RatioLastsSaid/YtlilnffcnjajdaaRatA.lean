/- The page's examples of chapter 2 come out. -/
import Derived.Test.YtlilnffcnjajdaaRat
namespace Go.Proofs.Ytlilnffcnjajdaa
open Go.RowKit Fl
set_option linter.unusedVariables false

theorem mul_a : floatBits .mul .f64 (floatOfInt .f64 (clampI 10 0 2147483648)) (fixB 4598175219545276416 0 4607182418800017408 0) = some 4612811918334230528 := by kernel_rfl
theorem int_a : floatToIntVal .f64 4612811918334230528 .i64 = some 2 := by kernel_rfl
theorem mul_b : floatBits .mul .f64 (floatOfInt .f64 (clampI 10 0 2147483648)) (fixB 9221120237041090561 0 4607182418800017408 0) = some 0 := by kernel_rfl
theorem int_b : floatToIntVal .f64 0 .i64 = some 0 := by kernel_rfl
theorem mul_c : floatBits .mul .f64 (floatOfInt .f64 (clampI 10 0 2147483648)) (fixB 9218868437227405312 0 4607182418800017408 0) = some 4621819117588971520 := by kernel_rfl
theorem int_c : floatToIntVal .f64 4621819117588971520 .i64 = some 10 := by kernel_rfl
theorem rate_a : opC .quo (cn (floatOfInt .f64 0)) (cn (floatOfInt .f64 0)) = cn 9221120237041090561 := by kernel_rfl
theorem rate_b : opC .quo (cn (floatOfInt .f64 1)) (cn (floatOfInt .f64 0)) = cn 9218868437227405312 := by kernel_rfl
theorem over_a : gtC (opC .mul (cn (floatOfInt .f64 2)) (cn 4609434218613702656)) (cn (floatOfInt .f64 2)) = true := by kernel_rfl
theorem less_a : ltB 9223372036854775808 0 = true := by kernel_rfl
theorem same_a : sameB 4607182418800017408 4607182418800017408 = true := by kernel_rfl

theorem ratAwake (w : World) : Calls Try.prog 25 #[] w fun e w' => e = .returned (.bool true) ∧ ∃ n, w' = w.drewN n := by
  go_enter Try.func25, Try.ntmps25
  go_wp2_with fail
  refine (share_at 10 4598175219545276416 _ 2 (by omega) mul_a int_a _).mono ?_
  rintro e w' ⟨rfl, rfl⟩
  go_wp2_with fail
  refine (nan_call _).mono ?_
  rintro e w' ⟨rfl, rfl⟩
  go_wp2_with fail
  refine (share_at 10 9221120237041090561 _ 0 (by omega) mul_b int_b _).mono ?_
  rintro e w' ⟨rfl, rfl⟩
  go_wp2_with fail
  refine (inf_call _).mono ?_
  rintro e w' ⟨rfl, rfl⟩
  go_wp2_with fail
  refine (share_at 10 9218868437227405312 _ 10 (by omega) mul_c int_c _).mono ?_
  rintro e w' ⟨rfl, rfl⟩
  go_wp2_with fail
  refine (rate_any 0 0 _).mono ?_
  rintro e w' ⟨r1, rfl, hr1, hc1, n1, rfl⟩
  have s1 : sameB r1 9221120237041090561 = true := by rw [sameB_cn hr1 (by omega), hc1, rate_a]; simp
  have H1 := Lib.hid (fun w => rSame_any r1 9221120237041090561 hr1 (by omega) w)
  rw [s1] at H1
  clear s1 hc1 hr1
  go_wp2_with fail
  refine (nan_call _).mono ?_
  rintro e w' ⟨rfl, rfl⟩
  go_wp2_with fail
  refine (H1.out _).mono ?_
  rintro e w' ⟨rfl, rfl⟩
  go_wp2_with fail
  refine (rate_any 1 0 _).mono ?_
  rintro e w' ⟨r2, rfl, hr2, hc2, n2, rfl⟩
  have s2 : sameB r2 9218868437227405312 = true := by rw [sameB_cn hr2 (by omega), hc2, rate_b]; simp
  have H2 := Lib.hid (fun w => rSame_any r2 9218868437227405312 hr2 (by omega) w)
  rw [s2] at H2
  clear s2 hc2 hr2
  go_wp2_with fail
  refine (inf_call _).mono ?_
  rintro e w' ⟨rfl, rfl⟩
  go_wp2_with fail
  refine (H2.out _).mono ?_
  rintro e w' ⟨rfl, rfl⟩
  go_wp2_with fail
  refine (copysign_call _).mono ?_
  rintro e w' ⟨rfl, rfl⟩
  have H3 := Lib.hid (fun w => less_any 9223372036854775808 0 (by omega) (by omega) w)
  rw [less_a] at H3
  go_wp2_with fail
  refine (H3.out _).mono ?_
  rintro e w' ⟨rfl, rfl⟩
  have H4 := Lib.hid (fun w => same_any 4607182418800017408 4607182418800017408 (by omega) (by omega) w)
  rw [same_a] at H4
  go_wp2_with fail
  refine (H4.out _).mono ?_
  rintro e w' ⟨rfl, rfl⟩
  have H5 := Lib.hid (fun w => over_any 2 2 4609434218613702656 w)
  rw [over_a] at H5
  go_wp2_with fail
  refine (H5.out _).mono ?_
  rintro e w' ⟨rfl, n3, rfl⟩
  go_wp2
  go_ret
  exact ⟨rfl, _, rfl⟩

end Go.Proofs.Ytlilnffcnjajdaa
