/- The calls of ratio that the statements of chapter 2 alone come to. -/
import Derived.Test.YtlilnffcnjajdaaFlT
namespace Go.Proofs.Ytlilnffcnjajdaa
open Go.RowKit Fl
set_option linter.unusedVariables false

theorem same_any (a b : Nat) (ha : a < 18446744073709551616) (hb : b < 18446744073709551616) (w : World) :
    Calls Try.prog 23 #[.float .f64 a, .float .f64 b] w fun e w' => e = .returned (.bool (sameB a b)) ∧ w = w' := by
  have l1 := Lib.hid (fun w => less_any a b ha hb w)
  have l2 := Lib.hid (fun w => less_any b a hb ha w)
  have hs : sameB a b = (!ltB a b && !ltB b a) := by unfold sameB ltB; rw [Bool.eq_iff_iff]; simp; omega
  have HS := Lib.hid hs
  clear ha hb hs
  cases h : ltB a b <;> rw [h] at l1
  · have H := Lib.hid h
    clear h
    go_enter Try.func23, Try.ntmps23
    go_wp2_with fail
    refine (l1.out _).mono ?_
    rintro e w' ⟨rfl, rfl⟩
    go_wp2_with fail
    refine (l2.out _).mono ?_
    rintro e w' ⟨rfl, rfl⟩
    go_wp2
    go_ret
    exact ⟨congrArg (fun x => Ending.returned (.bool x)) (by rw [HS.out, H.out]; simp), rfl⟩
  · have H := Lib.hid h
    clear h
    go_enter Try.func23, Try.ntmps23
    go_wp2_with fail
    refine (l1.out _).mono ?_
    rintro e w' ⟨rfl, rfl⟩
    go_wp2
    go_ret
    exact ⟨congrArg (fun x => Ending.returned (.bool x)) (by rw [HS.out, H.out]; simp), rfl⟩


theorem rSame_any (a b : Nat) (ha : a < 18446744073709551616) (hb : b < 18446744073709551616) (w : World) :
    Calls Try.prog 24 #[.float .f64 a, .float .f64 b] w fun e w' => e = .returned (.bool (sameB a b)) ∧ w = w' := by
  have l1 := Lib.hid (fun w => rank_any a ha w)
  have l2 := Lib.hid (fun w => rank_any b hb w)
  clear ha hb
  go_enter Try.func24, Try.ntmps24
  go_wp2_with fail
  refine (l1.out _).mono ?_
  rintro e w' ⟨rfl, rfl⟩
  go_wp2_with fail
  refine (l2.out _).mono ?_
  rintro e w' ⟨rfl, rfl⟩
  go_wp2
  go_ret
  exact ⟨ret_bool' (by unfold sameB; rw [Bool.eq_iff_iff]; simp; omega), rfl⟩

theorem rate_any (a b : Int) (w : World) :
    Calls Try.prog 28 #[.int .i64 a, .int .i64 b] w fun e w' => ∃ r, e = .returned (.float .f64 r) ∧ r < 18446744073709551616 ∧ cn r = opC .quo (cn (floatOfInt .f64 a)) (cn (floatOfInt .f64 b)) ∧ ∃ n, w' = w.drewN n := by
  obtain ⟨r, m, h, hr, hc⟩ := run_arith (P := Try.prog) .quo (by simp) (floatOfInt .f64 a) (floatOfInt .f64 b) w
  have HR := Lib.hid hr
  have HC := Lib.hid hc
  clear hr hc
  go_enter Try.func28, Try.ntmps28
  go_wp2
  go_ret
  exact ⟨r, rfl, HR.out, HC.out, m, rfl⟩

theorem rRate_any (a b : Int) (w : World) :
    Calls Try.prog 29 #[.int .i64 a, .int .i64 b] w fun e w' => ∃ r, e = .returned (.float .f64 r) ∧ r < 18446744073709551616 ∧ cn r = opC .quo (cn (floatOfInt .f64 a)) (cn (floatOfInt .f64 b)) ∧ ∃ n, w' = w.drewN n := by
  obtain ⟨r, m, h, hr, hc⟩ := run_arith (P := Try.prog) .quo (by simp) (floatOfInt .f64 a) (floatOfInt .f64 b) w
  have HR := Lib.hid hr
  have HC := Lib.hid hc
  clear hr hc
  go_enter Try.func29, Try.ntmps29
  go_wp2
  go_ret
  exact ⟨r, rfl, HR.out, HC.out, m, rfl⟩

def blC (old x w : Nat) : Option Nat := if isN old then cn x else if isN x then cn old else opC .add (cn old) (opC .mul (cn (fixB w 0 4607182418800017408 0)) (opC .sub (cn x) (cn old)))

theorem blend_any (old x f : Nat) (ho : old < 18446744073709551616) (hx : x < 18446744073709551616) (hf : f < 18446744073709551616) (w : World) :
    Calls Try.prog 32 #[.float .f64 old, .float .f64 x, .float .f64 f] w fun e w' => ∃ r, e = .returned (.float .f64 r) ∧ r < 18446744073709551616 ∧ cn r = blC old x f ∧ ∃ n, w' = w.drewN n := by
  have n1 := Lib.hid (fun w => nan_any old ho w)
  have n2 := Lib.hid (fun w => nan_any x hx w)
  have l1 := Lib.hid (fun w => part_any f hf w)
  obtain ⟨r1, m1, h1, hr1, hc1⟩ := run_arith (P := Try.prog) .sub (by simp) x old w
  obtain ⟨r2, m2, h2, hr2, hc2⟩ := run_arith (P := Try.prog) .mul (by simp) (fixB f 0 4607182418800017408 0) r1 (w.drewN m1)
  obtain ⟨r3, m3, h3, hr3, hc3⟩ := run_arith (P := Try.prog) .add (by simp) old r2 (w.drewN (m1 + m2))
  rw [hc1] at hc2
  rw [hc2] at hc3
  have HB : Hid (blC old x f = if isN old then cn x else if isN x then cn old else cn r3) := Lib.hid (by rw [hc3]; rfl)
  have HR := Lib.hid hr3
  have HX := Lib.hid hx
  have HO := Lib.hid ho
  clear hr1 hr2 hr3 hc1 hc2 hc3 ho hx hf
  cases e1 : isN old <;> rw [e1] at n1
  · cases e2 : isN x <;> rw [e2] at n2
    · have E1 := Lib.hid e1
      have E2 := Lib.hid e2
      clear e1 e2
      go_enter Try.func32, Try.ntmps32
      go_wp2_with fail
      refine (n1.out _).mono ?_
      rintro e w' ⟨rfl, rfl⟩
      go_wp2_with fail
      refine (n2.out _).mono ?_
      rintro e w' ⟨rfl, rfl⟩
      go_wp2_with fail
      refine (l1.out _).mono ?_
      rintro e w' ⟨rfl, rfl⟩
      go_wp2
      go_ret
      exact ⟨r3, rfl, HR.out, by rw [HB.out, E1.out, E2.out]; rfl, _, rfl⟩
    · have E1 := Lib.hid e1
      have E2 := Lib.hid e2
      clear e1 e2
      go_enter Try.func32, Try.ntmps32
      go_wp2_with fail
      refine (n1.out _).mono ?_
      rintro e w' ⟨rfl, rfl⟩
      go_wp2_with fail
      refine (n2.out _).mono ?_
      rintro e w' ⟨rfl, rfl⟩
      go_wp2
      go_ret
      exact ⟨old, rfl, HO.out, by rw [HB.out, E1.out, E2.out]; rfl, 0, rfl⟩
  · have E1 := Lib.hid e1
    clear e1
    go_enter Try.func32, Try.ntmps32
    go_wp2_with fail
    refine (n1.out _).mono ?_
    rintro e w' ⟨rfl, rfl⟩
    go_wp2
    go_ret
    exact ⟨x, rfl, HX.out, by rw [HB.out, E1.out]; rfl, 0, rfl⟩

theorem rBlend_any (old x f : Nat) (ho : old < 18446744073709551616) (hx : x < 18446744073709551616) (hf : f < 18446744073709551616) (w : World) :
    Calls Try.prog 33 #[.float .f64 old, .float .f64 x, .float .f64 f] w fun e w' => ∃ r, e = .returned (.float .f64 r) ∧ r < 18446744073709551616 ∧ cn r = blC old x f ∧ ∃ n, w' = w.drewN n := by
  have n1 := ne_self old ho
  have n2 := ne_self x hx
  have l1 := Lib.hid (fun w => rFix_any f 0 4607182418800017408 0 hf (by omega) (by omega) w)
  obtain ⟨r1, m1, h1, hr1, hc1⟩ := run_arith (P := Try.prog) .sub (by simp) x old w
  obtain ⟨r2, m2, h2, hr2, hc2⟩ := run_arith (P := Try.prog) .mul (by simp) (fixB f 0 4607182418800017408 0) r1 (w.drewN m1)
  obtain ⟨r3, m3, h3, hr3, hc3⟩ := run_arith (P := Try.prog) .add (by simp) old r2 (w.drewN (m1 + m2))
  rw [hc1] at hc2
  rw [hc2] at hc3
  have HB : Hid (blC old x f = if isN old then cn x else if isN x then cn old else cn r3) := Lib.hid (by rw [hc3]; rfl)
  have HR := Lib.hid hr3
  have HX := Lib.hid hx
  have HO := Lib.hid ho
  clear hr1 hr2 hr3 hc1 hc2 hc3 ho hx hf
  cases e1 : isN old <;> rw [e1] at n1
  · cases e2 : isN x <;> rw [e2] at n2
    · have E1 := Lib.hid e1
      have E2 := Lib.hid e2
      clear e1 e2
      go_enter Try.func33, Try.ntmps33
      go_wp2_with fail
      refine (l1.out _).mono ?_
      rintro e w' ⟨rfl, rfl⟩
      go_wp2
      go_ret
      exact ⟨r3, rfl, HR.out, by rw [HB.out, E1.out, E2.out]; rfl, _, rfl⟩
    · have E1 := Lib.hid e1
      have E2 := Lib.hid e2
      clear e1 e2
      go_enter Try.func33, Try.ntmps33
      go_wp2
      go_ret
      exact ⟨old, rfl, HO.out, by rw [HB.out, E1.out, E2.out]; rfl, 0, rfl⟩
  · have E1 := Lib.hid e1
    clear e1
    go_enter Try.func33, Try.ntmps33
    go_wp2
    go_ret
    exact ⟨x, rfl, HX.out, by rw [HB.out, E1.out]; rfl, 0, rfl⟩

theorem copysign_call (w : World) : Calls Try.prog 47 #[.float .f64 0, .float .f64 13830554455654793216] w fun e w' => e = .returned (.float .f64 9223372036854775808) ∧ w = w' := by
  go_enter Try.func47, Try.ntmps47
  go_wp2
  go_ret
  exact ⟨rfl, rfl⟩

end Go.Proofs.Ytlilnffcnjajdaa
