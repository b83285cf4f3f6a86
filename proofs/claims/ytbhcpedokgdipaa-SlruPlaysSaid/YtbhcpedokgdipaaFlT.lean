/- Shares, and products held against numbers: the calls that other chapters come to as well. -/
import Derived.Test.YtbhcpedokgdipaaFlS
namespace Go.Proofs.Ytbhcpedokgdipaa
open Go.RowKit Fl
set_option linter.unusedVariables false

theorem ret_bool' {a b : Bool} (h : a = b) : Ending.returned (.bool a) = .returned (.bool b) := by rw [h]

theorem floatOfInt_lt (n : Int) : floatOfInt .f64 n < 18446744073709551616 ∧ isN (floatOfInt .f64 n) = false := by
  have := write_num (d := .number (n < 0) n.natAbs 0) rfl
  exact ⟨this.2, this.1⟩

def gtC (a b : Option Nat) : Bool := match a, b with | some x, some y => decide (key y < key x) | _, _ => false

theorem gt_cn {x y : Nat} (hx : x < 18446744073709551616) (hy : y < 18446744073709551616) : (FloatKind.f64.format.order x y == some .gt) = gtC (cn x) (cn y) := by
  rw [ord_at x y hx hy]
  unfold cn gtC
  cases nx : isN x <;> cases ny : isN y <;> simp
  exact cmp_gt

theorem over_any (a b : Int) (f : Nat) (w : World) :
    Calls Try.prog 67 #[.int .i64 a, .float .f64 f, .int .i64 b] w fun e w' => e = .returned (.bool (gtC (opC .mul (cn (floatOfInt .f64 a)) (cn f)) (cn (floatOfInt .f64 b)))) ∧ ∃ n, w' = w.drewN n := by
  obtain ⟨r, m, h, hr, hc⟩ := run_arith (P := Try.prog) .mul (by simp) (floatOfInt .f64 a) f w
  have hg := gt_cn hr (floatOfInt_lt b).1
  rw [hc] at hg
  have HG := Lib.hid hg
  clear hr hc hg
  go_enter Try.func67, Try.ntmps67
  go_wp2
  go_ret
  exact ⟨ret_bool' HG.out, m, rfl⟩

theorem rOver_any (a b : Int) (f : Nat) (w : World) :
    Calls Try.prog 68 #[.int .i64 a, .float .f64 f, .int .i64 b] w fun e w' => e = .returned (.bool (gtC (opC .mul (cn (floatOfInt .f64 a)) (cn f)) (cn (floatOfInt .f64 b)))) ∧ ∃ n, w' = w.drewN n := by
  obtain ⟨r, m, h, hr, hc⟩ := run_arith (P := Try.prog) .mul (by simp) (floatOfInt .f64 a) f w
  have hg := gt_cn hr (floatOfInt_lt b).1
  rw [hc] at hg
  have HG := Lib.hid hg
  clear hr hc hg
  go_enter Try.func68, Try.ntmps68
  go_wp2
  go_ret
  exact ⟨ret_bool' HG.out, m, rfl⟩


theorem part_any (f : Nat) (hf : f < 18446744073709551616) (w : World) :
    Calls Try.prog 93 #[.float .f64 f] w fun e w' => e = .returned (.float .f64 (fixB f 0 4607182418800017408 0)) ∧ w = w' := by
  have l1 := Lib.hid (fun w => fix_any f 0 4607182418800017408 0 hf (by omega) (by omega) w)
  clear hf
  go_enter Try.func93, Try.ntmps93
  go_wp2_with fail
  refine (l1.out _).mono ?_
  rintro e w' ⟨rfl, rfl⟩
  go_wp2
  go_ret
  exact ⟨rfl, rfl⟩

def clampI (n lo hi : Int) : Int := if n < lo then lo else if hi < n then hi else n

theorem clamp_any (n lo hi : Int) (w : World) : Calls Try.prog 92 #[.int .i64 n, .int .i64 lo, .int .i64 hi] w fun e w' => e = .returned (.int .i64 (clampI n lo hi)) ∧ w = w' := by
  have hC : clampI n lo hi = if n < lo then lo else if hi < n then hi else n := rfl
  by_cases h1 : n < lo
  · rw [if_pos h1] at hC
    have HC := Lib.hid hC
    clear hC
    go_enter Try.func92, Try.ntmps92
    go_wp2
    go_ret
    exact ⟨congrArg (fun x : Int => Ending.returned (.int .i64 x)) HC.out.symm, rfl⟩
  · rw [if_neg h1] at hC
    by_cases h2 : hi < n
    · rw [if_pos h2] at hC
      have HC := Lib.hid hC
      clear hC
      go_enter Try.func92, Try.ntmps92
      go_wp2
      go_ret
      exact ⟨congrArg (fun x : Int => Ending.returned (.int .i64 x)) HC.out.symm, rfl⟩
    · rw [if_neg h2] at hC
      have HC := Lib.hid hC
      clear hC
      go_enter Try.func92, Try.ntmps92
      go_wp2
      go_ret
      exact ⟨congrArg (fun x : Int => Ending.returned (.int .i64 x)) HC.out.symm, rfl⟩

theorem share_at (n : Int) (f p : Nat) (k : Int) (hf : f < 18446744073709551616) (h1 : floatBits .mul .f64 (floatOfInt .f64 (clampI n 0 2147483648)) (fixB f 0 4607182418800017408 0) = some p) (h2 : floatToIntVal .f64 p .i64 = some k) (w : World) :
    Calls Try.prog 70 #[.int .i64 n, .float .f64 f] w fun e w' => e = .returned (.int .i64 k) ∧ w = w' := by
  have c1 := Lib.hid (fun w => clamp_any n 0 2147483648 w)
  have l1 := Lib.hid (fun w => part_any f hf w)
  have ra := fun w T => run_float_arith (P := Try.prog) w .mul T .f64 _ _ p h1
  have rc := fun w => run_convert_float_int (P := Try.prog) w 60 3 .f64 .i64 p k (by rw [Try.underlying60]; rfl) Try.underlying3 h2
  clear hf h1 h2
  go_enter Try.func70, Try.ntmps70
  go_wp2_with fail
  refine (c1.out _).mono ?_
  rintro e w' ⟨rfl, rfl⟩
  go_wp2_with fail
  refine (l1.out _).mono ?_
  rintro e w' ⟨rfl, rfl⟩
  go_wp2
  go_ret
  exact ⟨rfl, rfl⟩

theorem nan_call (w : World) : Calls Try.prog 33 #[] w fun e w' => e = .returned (.float .f64 9221120237041090561) ∧ w = w' := by
  go_enter Try.func33, Try.ntmps33
  go_wp2
  go_ret
  exact ⟨rfl, rfl⟩

theorem inf_call (w : World) : Calls Try.prog 34 #[.int .i64 1] w fun e w' => e = .returned (.float .f64 9218868437227405312) ∧ w = w' := by
  go_enter Try.func34, Try.ntmps34
  go_wp2
  go_ret
  exact ⟨rfl, rfl⟩


theorem rank_nonneg {x : Nat} (h : x < 9218868437227405313) : rank x = x + 9223372036854775808 := by
  unfold rank
  rw [if_neg (by unfold isN; simp; omega), if_neg (by unfold neg; simp; omega)]

/-- A float fixed between 0 and 1. -/
theorem fix01 (f : Nat) (hf : f < 18446744073709551616) : fixB f 0 4607182418800017408 0 ≤ 4607182418800017408 := by
  unfold fixB
  cases h1 : isN f
  · cases h2 : ltB f 0
    · cases h3 : ltB 4607182418800017408 f
      · simp
        unfold ltB at h2 h3
        rw [rank_nonneg (x := 0) (by omega)] at h2
        rw [rank_nonneg (x := 4607182418800017408) (by omega)] at h3
        have h4 := rank_num hf h1
        have h5 := rung_le h1
        simp at h2 h3
        cases h6 : neg f
        · rw [h6] at h4
          have := neg_iff f; rw [h6] at this; simp at this
          have h7 : rung f = f := rung_of_lt this
          simp at h4; omega
        · rw [h6] at h4; simp at h4; omega
      · simp
    · simp
  · simp

theorem fix01_mono {a b : Nat} (ha : a < 18446744073709551616) (hb : b < 18446744073709551616) (na : isN a = false) (nb : isN b = false) (h : ltB a b = true) : fixB a 0 4607182418800017408 0 ≤ fixB b 0 4607182418800017408 0 := by
  have r0 : rank 0 = 9223372036854775808 := rank_nonneg (by omega)
  have r1 : rank 4607182418800017408 = 13830554455654793216 := rank_nonneg (by omega)
  have ra := rank_num ha na
  have rb := rank_num hb nb
  have ka : neg a = false → rung a = a := fun hh => by have := neg_iff a; rw [hh] at this; simp at this; exact rung_of_lt this
  have kb : neg b = false → rung b = b := fun hh => by have := neg_iff b; rw [hh] at this; simp at this; exact rung_of_lt this
  have la := rung_le na
  have lb := rung_le nb
  unfold fixB ltB at *
  rw [r0, r1, na, nb]
  simp only [decide_eq_true_eq, Bool.false_eq_true, if_false] at *
  cases hna : neg a <;> cases hnb : neg b <;> rw [hna] at ra ka <;> rw [hnb] at rb kb <;> simp at ra rb ka kb <;> (repeat' split) <;> omega

def shareI (n : Int) (f : Nat) : Int := (shareN (clampI n 0 2147483648).toNat (fixB f 0 4607182418800017408 0) : Nat)

theorem clampI_bd (n : Int) : 0 ≤ clampI n 0 2147483648 ∧ clampI n 0 2147483648 ≤ 2147483648 := by unfold clampI; (repeat' split) <;> omega

theorem share_mul (n : Int) (f : Nat) (hf : f < 18446744073709551616) : floatBits .mul .f64 (floatOfInt .f64 (clampI n 0 2147483648)) (fixB f 0 4607182418800017408 0) = some (near (mag (near (clampI n 0 2147483648).toNat 0) * mag (fixB f 0 4607182418800017408 0)) (-2148)) := by
  have hb := clampI_bd n
  have hq := fix01 f hf
  obtain ⟨m, hm⟩ : ∃ m : Nat, clampI n 0 2147483648 = m := ⟨(clampI n 0 2147483648).toNat, by omega⟩
  rw [hm, ofInt_near, Int.toNat_natCast]
  exact mul_near (near_lt (by omega)) (by omega)

theorem share_int (n : Int) (f : Nat) (hf : f < 18446744073709551616) : floatToIntVal .f64 (near (mag (near (clampI n 0 2147483648).toNat 0) * mag (fixB f 0 4607182418800017408 0)) (-2148)) .i64 = some (shareI n f) := by
  have hb := clampI_bd n
  have hq := fix01 f hf
  have h1 := prod_lt (n := (clampI n 0 2147483648).toNat) (q := fixB f 0 4607182418800017408 0) (by omega) hq
  have h2 := shareN_le (n := (clampI n 0 2147483648).toNat) (q := fixB f 0 4607182418800017408 0) (by omega) hq
  exact toInt_word h1 (by unfold shareN at h2; omega)

theorem share_any (n : Int) (f : Nat) (hf : f < 18446744073709551616) (w : World) :
    Calls Try.prog 70 #[.int .i64 n, .float .f64 f] w fun e w' => e = .returned (.int .i64 (shareI n f)) ∧ w = w' :=
  share_at n f _ _ hf (share_mul n f hf) (share_int n f hf) w

theorem shareI_bd (n : Int) (f : Nat) (hf : f < 18446744073709551616) : 0 ≤ shareI n f ∧ shareI n f ≤ max n 0 ∧ shareI n f ≤ 2147483648 := by
  have hb := clampI_bd n
  have hq := fix01 f hf
  have h2 := shareN_le (n := (clampI n 0 2147483648).toNat) (q := fixB f 0 4607182418800017408 0) (by omega) hq
  unfold shareI
  have h3 : clampI n 0 2147483648 ≤ max n 0 := by unfold clampI; (repeat' split) <;> omega
  omega

theorem shareI_mono (n : Int) {a b : Nat} (ha : a < 18446744073709551616) (hb : b < 18446744073709551616) (na : isN a = false) (nb : isN b = false) (h : ltB a b = true) : shareI n a ≤ shareI n b := by
  unfold shareI
  have := shareN_mono (clampI n 0 2147483648).toNat (fix01_mono ha hb na nb h)
  omega

@[go_sem] theorem run_archFloor (x : Nat) (h : x < 9218868437227405312) (w : World) : (callFunc 107 #[.float .f64 x]).run Try.prog w = .ok (.value (.float .f64 (near (mag x / P2 1074) 0))) w := by
  rw [run_callFunc_extern (fn := Try.f107) (e := Extern.MathFloor.toIntegral "math.archFloor" .down) Try.func107 (by kernel_rfl) (by kernel_rfl) (by kernel_rfl) (by kernel_rfl)]
  rw [← floor_word h]
  have hr : FloatKind.f64.decode x = .number (neg x) (dig (rung x)) (Ieee.double.leastPlace + (up (rung x) : Nat)) := read_num (by omega) (by rw [rung_of_lt (by omega)]; exact h)
  have he : Extern.MathFloor.toIntegral "math.archFloor" .down #[.float .f64 x] = pure (.float .f64 (FloatKind.f64.encode ((FloatKind.f64.decode x).integral .down))) := by
    show (match FloatKind.f64.decode x with | .nan s t => _ | d => _) = _
    rw [hr]
  rw [he]
  rfl

theorem floor_any (x : Nat) (h : x < 9218868437227405312) (w : World) : Calls Try.prog 101 #[.float .f64 x] w fun e w' => e = .returned (.float .f64 (near (mag x / P2 1074) 0)) ∧ w = w' := by
  have hf := run_archFloor x h
  clear h
  go_enter Try.func101, Try.ntmps101
  go_wp2
  go_ret
  exact ⟨rfl, rfl⟩

theorem rShare_any (n : Int) (f : Nat) (hf : f < 18446744073709551616) (w : World) :
    Calls Try.prog 82 #[.int .i64 n, .float .f64 f] w fun e w' => e = .returned (.int .i64 (shareI n f)) ∧ w = w' := by
  have hb := clampI_bd n
  have hq := fix01 f hf
  have h1 := prod_lt (n := (clampI n 0 2147483648).toNat) (q := fixB f 0 4607182418800017408 0) (by omega) hq
  have h2 := shareN_le (n := (clampI n 0 2147483648).toNat) (q := fixB f 0 4607182418800017408 0) (by omega) hq
  have l1 := Lib.hid (fun w => rFix_any f 0 4607182418800017408 0 hf (by omega) (by omega) w)
  have l2 := Lib.hid (fun w => floor_any _ h1 w)
  have ra := fun w T => run_float_arith (P := Try.prog) w .mul T .f64 _ _ _ (share_mul n f hf)
  have hk : floatToIntVal .f64 (near (mag (near (mag (near (clampI n 0 2147483648).toNat 0) * mag (fixB f 0 4607182418800017408 0)) (-2148)) / P2 1074) 0) .i64 = some (shareI n f) := by
    have h3 : shareN (clampI n 0 2147483648).toNat (fixB f 0 4607182418800017408 0) < 9007199254740992 := by omega
    change floatToIntVal .f64 (near (shareN (clampI n 0 2147483648).toNat (fixB f 0 4607182418800017408 0)) 0) .i64 = _
    have h4 := toInt_word (near_lt h3) (by rw [mag_near h3]; omega)
    rw [mag_near h3] at h4
    exact h4
  have rc := fun w => run_convert_float_int (P := Try.prog) w 60 3 .f64 .i64 _ (shareI n f) (by rw [Try.underlying60]; rfl) Try.underlying3 hk
  have hcs : (n < 0 ∧ clampI n 0 2147483648 = 0) ∨ (2147483648 < n ∧ clampI n 0 2147483648 = 2147483648) ∨ (0 ≤ n ∧ n ≤ 2147483648 ∧ clampI n 0 2147483648 = n) := by unfold clampI; (repeat' split) <;> omega
  clear hf hb hq h1 h2 hk
  rcases hcs with ⟨c1, c2⟩ | ⟨c1, c2⟩ | ⟨c1, c3, c2⟩
  all_goals
    rw [c2] at ra rc l2
    clear c2
    try simp only [Int.reduceToNat] at ra rc l2
    go_enter Try.func82, Try.ntmps82
    go_wp2_with fail
    refine (l1.out _).mono ?_
    rintro e w' ⟨rfl, rfl⟩
    go_wp2_with fail
    refine (l2.out _).mono ?_
    rintro e w' ⟨rfl, rfl⟩
    go_wp2
    go_ret
    exact ⟨rfl, rfl⟩

end Go.Proofs.Ytbhcpedokgdipaa
