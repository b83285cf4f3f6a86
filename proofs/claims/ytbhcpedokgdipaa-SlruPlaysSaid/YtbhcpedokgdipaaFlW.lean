/- What the calls on floats answer: order, same, rank. -/
import Derived.Test.YtbhcpedokgdipaaFl
namespace Go.Proofs.Ytbhcpedokgdipaa
open Go.RowKit Fl
set_option linter.unusedVariables false

@[go_sem] theorem run_bits (a : Nat) (w : World) : (callFunc 117 #[.float .f64 a]).run Try.prog w = .ok (.value (.int .u64 a)) w := by
  rw [run_callFunc_extern (fn := Try.f117) (e := Extern.MathFloatBits.float64bits) Try.func117 (by kernel_rfl) (by kernel_rfl) (by kernel_rfl) (by kernel_rfl)]
  rfl

@[go_sem] theorem run_frombits (a : Int) (w : World) : (callFunc 31 #[.int .u64 a]).run Try.prog w = .ok (.value (.float .f64 a.toNat)) w := by
  rw [run_callFunc_extern (fn := Try.f31) (e := Extern.MathFloatBits.float64frombits) Try.func31 (by kernel_rfl) (by kernel_rfl) (by kernel_rfl) (by kernel_rfl)]
  rfl

theorem ord_at (a b : Nat) (ha : a < 18446744073709551616) (hb : b < 18446744073709551616) : FloatKind.f64.format.order a b = if isN a = true ∨ isN b = true then none else some (compare (key a) (key b)) := order_spec ha hb

theorem ord_self (a : Nat) (ha : a < 18446744073709551616) : FloatKind.f64.format.order a a = if isN a = true then none else some .eq := by
  rw [ord_at a a ha ha]
  by_cases n : isN a = true
  · simp [n]
  · simp [n, compare, compareOfLessAndEq]

theorem ne_self (a : Nat) (ha : a < 18446744073709551616) : (FloatKind.f64.format.order a a != some .eq) = isN a := by
  rw [ord_self a ha]; cases isN a <;> rfl

theorem nan_any (a : Nat) (ha : a < 18446744073709551616) (w : World) : Calls Try.prog 110 #[.float .f64 a] w fun e w' => e = .returned (.bool (isN a)) ∧ w = w' := by
  have HB := Lib.hid (ne_self a ha)
  clear ha
  go_enter Try.func110, Try.ntmps110
  go_wp2
  go_ret
  exact ⟨congrArg (fun x => Ending.returned (.bool x)) HB.out, rfl⟩

theorem signbit_any (a : Nat) (ha : a < 18446744073709551616) (w : World) : Calls Try.prog 116 #[.float .f64 a] w fun e w' => e = .returned (.bool (neg a)) ∧ w = w' := by
  have hs : decide (wrap64 (a : Int) < 0) = neg a := by
    unfold wrap64 neg; rw [Bool.eq_iff_iff]; simp; omega
  have HS := Lib.hid hs
  clear hs ha
  go_enter Try.func116, Try.ntmps116
  go_wp2
  go_ret
  exact ⟨congrArg (fun x => Ending.returned (.bool x)) HS.out, rfl⟩

theorem less_any (a b : Nat) (ha : a < 18446744073709551616) (hb : b < 18446744073709551616) (w : World) :
    Calls Try.prog 111 #[.float .f64 a, .float .f64 b] w fun e w' => e = .returned (.bool (ltB a b)) ∧ w = w' := by
  have n1 := Lib.hid (fun w => nan_any a ha w)
  have n2 := Lib.hid (fun w => nan_any b hb w)
  have s1 := Lib.hid (fun w => signbit_any a ha w)
  have s2 := Lib.hid (fun w => signbit_any b hb w)
  have ho := ord_at a b ha hb
  by_cases na : isN a = true
  · have HL := Lib.hid (ltB_nan_left hb na)
    clear ha hb ho
    go_enter Try.func111, Try.ntmps111
    go_wp2_with (go_at_call 110; refine (n1.out _).mono ?_; rintro e w' ⟨rfl, rfl⟩)
    go_ret
    exact ⟨congrArg (fun x => Ending.returned (.bool x)) HL.out.symm, rfl⟩
  · have na : isN a = false := by simpa using na
    by_cases nb : isN b = true
    · have HL := Lib.hid (ltB_nan_right ha na nb)
      clear ha hb ho
      go_enter Try.func111, Try.ntmps111
      go_wp2_with fail
      refine (n1.out _).mono ?_
      rintro e w' ⟨rfl, rfl⟩
      go_wp2_with fail
      refine (n2.out _).mono ?_
      rintro e w' ⟨rfl, rfl⟩
      go_wp2
      go_ret
      exact ⟨congrArg (fun x => Ending.returned (.bool x)) HL.out.symm, rfl⟩
    · have nb : isN b = false := by simpa using nb
      rw [na, nb] at ho
      simp only [Bool.false_eq_true, or_self, if_false] at ho
      have HL := Lib.hid (ltB_num ha hb na nb)
      have o1 : (FloatKind.f64.format.order a b == some .lt) = decide (key a < key b) := by rw [ho]; exact cmp_lt
      have o2 : (FloatKind.f64.format.order a b == some .eq) = decide (key a = key b) := by rw [ho]; exact cmp_eq
      clear ha hb ho
      by_cases k1 : key a < key b
      · have O1 : (FloatKind.f64.format.order a b == some .lt) = true := by rw [o1]; simpa using k1
        have HO := Lib.hid k1
        clear o1 o2 k1
        go_enter Try.func111, Try.ntmps111
        go_wp2_with fail
        refine (n1.out _).mono ?_
        rintro e w' ⟨rfl, rfl⟩
        go_wp2_with fail
        refine (n2.out _).mono ?_
        rintro e w' ⟨rfl, rfl⟩
        go_wp2
        go_ret
        exact ⟨congrArg (fun x => Ending.returned (.bool x)) (by rw [HL.out]; have := HO.out; simp [this]), rfl⟩
      · have O1 : (FloatKind.f64.format.order a b == some .lt) = false := by rw [o1]; simpa using k1
        have HO := Lib.hid k1
        by_cases k2 : key a = key b
        · have O2 : (FloatKind.f64.format.order a b == some .eq) = true := by rw [o2]; simpa using k2
          have HO2 := Lib.hid k2
          clear o1 o2 k1 k2
          cases sa : neg a <;> rw [sa] at s1
          · have SA := Lib.hid sa
            clear sa
            go_enter Try.func111, Try.ntmps111
            go_wp2_with fail
            refine (n1.out _).mono ?_
            rintro e w' ⟨rfl, rfl⟩
            go_wp2_with fail
            refine (n2.out _).mono ?_
            rintro e w' ⟨rfl, rfl⟩
            go_wp2_with fail
            refine (s1.out _).mono ?_
            rintro e w' ⟨rfl, rfl⟩
            go_wp2
            go_ret
            exact ⟨congrArg (fun x => Ending.returned (.bool x)) (by rw [HL.out, SA.out]; have := HO.out; simp [this]), rfl⟩
          · have SA := Lib.hid sa
            clear sa
            go_enter Try.func111, Try.ntmps111
            go_wp2_with fail
            refine (n1.out _).mono ?_
            rintro e w' ⟨rfl, rfl⟩
            go_wp2_with fail
            refine (n2.out _).mono ?_
            rintro e w' ⟨rfl, rfl⟩
            go_wp2_with fail
            refine (s1.out _).mono ?_
            rintro e w' ⟨rfl, rfl⟩
            go_wp2_with fail
            refine (s2.out _).mono ?_
            rintro e w' ⟨rfl, rfl⟩
            go_wp2
            go_ret
            exact ⟨congrArg (fun x => Ending.returned (.bool x)) (by rw [HL.out, SA.out]; have h1 := HO.out; have h2 := HO2.out; simp [h2]), rfl⟩
        · have O2 : (FloatKind.f64.format.order a b == some .eq) = false := by rw [o2]; simpa using k2
          have HO2 := Lib.hid k2
          clear o1 o2 k1 k2
          go_enter Try.func111, Try.ntmps111
          go_wp2_with fail
          refine (n1.out _).mono ?_
          rintro e w' ⟨rfl, rfl⟩
          go_wp2_with fail
          refine (n2.out _).mono ?_
          rintro e w' ⟨rfl, rfl⟩
          go_wp2
          go_ret
          exact ⟨congrArg (fun x => Ending.returned (.bool x)) (by rw [HL.out]; have h1 := HO.out; have h2 := HO2.out; simp [h1, h2]), rfl⟩


theorem rank_any (a : Nat) (ha : a < 18446744073709551616) (w : World) :
    Calls Try.prog 112 #[.float .f64 a] w fun e w' => e = .returned (.int .u64 (rank a)) ∧ w = w' := by
  have hn := ne_self a ha
  cases na : isN a <;> rw [na] at hn
  · have hr' : rank a = if neg a then 18446744073709551615 - a else a + 9223372036854775808 := by unfold rank; rw [if_neg (by rw [na]; simp)]
    have hk := rank_lt ha na
    cases sn : neg a
    · rw [sn] at hr'
      have hlt : a < 9223372036854775808 := by have := neg_iff a; rw [sn] at this; simp at this; exact this
      have HR : Hid (rank a = a + 9223372036854775808) := Lib.hid hr'
      clear ha na sn hr' hk
      go_enter Try.func112, Try.ntmps112
      go_wp2
      go_ret
      exact ⟨congrArg (fun x : Int => Ending.returned (.int .u64 x)) (by rw [HR.out]; omega), rfl⟩
    · rw [sn] at hr'
      have hge : 9223372036854775808 ≤ a := (neg_iff a).1 sn
      have hle : a ≤ 18446744073709551615 := by omega
      have HR : Hid (rank a = 18446744073709551615 - a) := Lib.hid hr'
      clear ha na sn hr' hk
      go_enter Try.func112, Try.ntmps112
      go_wp2
      go_ret
      exact ⟨congrArg (fun x : Int => Ending.returned (.int .u64 x)) (by rw [HR.out]; omega), rfl⟩
  · have HR := Lib.hid (rank_nan na)
    clear ha na
    go_enter Try.func112, Try.ntmps112
    go_wp2
    go_ret
    exact ⟨congrArg (fun x : Nat => Ending.returned (.int .u64 x)) HR.out.symm, rfl⟩


theorem rLess_any (a b : Nat) (ha : a < 18446744073709551616) (hb : b < 18446744073709551616) (w : World) :
    Calls Try.prog 106 #[.float .f64 a, .float .f64 b] w fun e w' => e = .returned (.bool (ltB a b)) ∧ w = w' := by
  have l1 := Lib.hid (fun w => rank_any a ha w)
  have l2 := Lib.hid (fun w => rank_any b hb w)
  clear ha hb
  go_enter Try.func106, Try.ntmps106
  go_wp2_with fail
  refine (l1.out _).mono ?_
  rintro e w' ⟨rfl, rfl⟩
  go_wp2_with fail
  refine (l2.out _).mono ?_
  rintro e w' ⟨rfl, rfl⟩
  go_wp2
  go_ret
  exact ⟨congrArg (fun x => Ending.returned (.bool x)) (by unfold ltB; simp), rfl⟩

/-- A float between two others. -/
def fixB (f lo hi none : Nat) : Nat := if isN f then none else if ltB f lo then lo else if ltB hi f then hi else f

theorem fix_any (f lo hi no : Nat) (hf : f < 18446744073709551616) (hl : lo < 18446744073709551616) (hh : hi < 18446744073709551616) (w : World) :
    Calls Try.prog 104 #[.float .f64 f, .float .f64 lo, .float .f64 hi, .float .f64 no] w fun e w' => e = .returned (.float .f64 (fixB f lo hi no)) ∧ w = w' := by
  have n1 := Lib.hid (fun w => nan_any f hf w)
  have l1 := Lib.hid (fun w => less_any f lo hf hl w)
  have l2 := Lib.hid (fun w => less_any hi f hh hf w)
  have hF : fixB f lo hi no = if isN f then no else if ltB f lo then lo else if ltB hi f then hi else f := rfl
  clear hf hl hh
  cases h1 : isN f <;> rw [h1] at n1 hF
  · cases h2 : ltB f lo <;> rw [h2] at l1 hF
    · cases h3 : ltB hi f <;> rw [h3] at l2 hF
      all_goals
        have HF := Lib.hid hF
        clear h1 h2 h3 hF
        go_enter Try.func104, Try.ntmps104
        go_wp2_with fail
        refine (n1.out _).mono ?_
        rintro e w' ⟨rfl, rfl⟩
        go_wp2_with fail
        refine (l1.out _).mono ?_
        rintro e w' ⟨rfl, rfl⟩
        go_wp2_with fail
        refine (l2.out _).mono ?_
        rintro e w' ⟨rfl, rfl⟩
        go_wp2
        go_ret
        exact ⟨congrArg (fun x => Ending.returned (.float .f64 x)) (by rw [HF.out]; simp), rfl⟩
    · have HF := Lib.hid hF
      clear h1 h2 hF
      go_enter Try.func104, Try.ntmps104
      go_wp2_with fail
      refine (n1.out _).mono ?_
      rintro e w' ⟨rfl, rfl⟩
      go_wp2_with fail
      refine (l1.out _).mono ?_
      rintro e w' ⟨rfl, rfl⟩
      go_wp2
      go_ret
      exact ⟨congrArg (fun x => Ending.returned (.float .f64 x)) (by rw [HF.out]; simp), rfl⟩
  · have HF := Lib.hid hF
    clear h1 hF
    go_enter Try.func104, Try.ntmps104
    go_wp2_with fail
    refine (n1.out _).mono ?_
    rintro e w' ⟨rfl, rfl⟩
    go_wp2
    go_ret
    exact ⟨congrArg (fun x => Ending.returned (.float .f64 x)) (by rw [HF.out]; simp), rfl⟩

theorem rFix_any (f lo hi no : Nat) (hf : f < 18446744073709551616) (hl : lo < 18446744073709551616) (hh : hi < 18446744073709551616) (w : World) :
    Calls Try.prog 100 #[.float .f64 f, .float .f64 lo, .float .f64 hi, .float .f64 no] w fun e w' => e = .returned (.float .f64 (fixB f lo hi no)) ∧ w = w' := by
  have n1 := ne_self f hf
  have l1 := Lib.hid (fun w => rLess_any f lo hf hl w)
  have l2 := Lib.hid (fun w => rLess_any hi f hh hf w)
  have hF : fixB f lo hi no = if isN f then no else if ltB f lo then lo else if ltB hi f then hi else f := rfl
  clear hf hl hh
  cases h1 : isN f <;> rw [h1] at n1 hF
  · cases h2 : ltB f lo <;> rw [h2] at l1 hF
    · cases h3 : ltB hi f <;> rw [h3] at l2 hF
      all_goals
        have HF := Lib.hid hF
        clear h1 h2 h3 hF
        go_enter Try.func100, Try.ntmps100
        go_wp2_with fail
        refine (l1.out _).mono ?_
        rintro e w' ⟨rfl, rfl⟩
        go_wp2_with fail
        refine (l2.out _).mono ?_
        rintro e w' ⟨rfl, rfl⟩
        go_wp2
        go_ret
        exact ⟨congrArg (fun x => Ending.returned (.float .f64 x)) (by rw [HF.out]; simp), rfl⟩
    · have HF := Lib.hid hF
      clear h1 h2 hF
      go_enter Try.func100, Try.ntmps100
      go_wp2_with fail
      refine (l1.out _).mono ?_
      rintro e w' ⟨rfl, rfl⟩
      go_wp2
      go_ret
      exact ⟨congrArg (fun x => Ending.returned (.float .f64 x)) (by rw [HF.out]; simp), rfl⟩
  · have HF := Lib.hid hF
    clear h1 hF
    go_enter Try.func100, Try.ntmps100
    go_wp2
    go_ret
    exact ⟨congrArg (fun x => Ending.returned (.float .f64 x)) (by rw [HF.out]; simp), rfl⟩

end Go.Proofs.Ytbhcpedokgdipaa
