/- The walks of the statements of chapter 2. -/
import Derived.Test.YtlilnffcnjajdaaRatA
namespace Go.Proofs.Ytlilnffcnjajdaa
open Go.RowKit Fl
set_option linter.unusedVariables false

theorem f_any (a : Nat) (w : World) : Calls Try.prog 20 #[.int .u64 a] w fun e w' => e = .returned (.float .f64 a) ∧ w = w' := by
  go_enter Try.func20, Try.ntmps20
  go_wp2
  go_ret
  exact ⟨rfl, rfl⟩

theorem below_drewn {w w' : World} (h : ∃ n, w' = w.drewN n) : Below w.heap.size w w' := by
  obtain ⟨n, rfl⟩ := h; exact ⟨rfl, rfl, rfl, Nat.le_refl _, fun _ _ => rfl⟩

theorem orders_walk (a b c : Nat) (ha : a < 18446744073709551616) (hb : b < 18446744073709551616) (hc : c < 18446744073709551616) (w : World) :
    Calls Try.prog 5 #[.int .u64 a, .int .u64 b, .int .u64 c] w fun e w' => e = .returned (.bool true) ∧ Below w.heap.size w w' := by
  have hs : sameB a b = (!ltB a b && !ltB b a) := by unfold sameB ltB; rw [Bool.eq_iff_iff]; simp; omega
  have t1 : ltB a b = true → ltB b a = true → False := by unfold ltB; simp; omega
  have t2 : ltB a b = true → ltB b c = true → ltB a c = false → False := by unfold ltB; simp; omega
  have fa := Lib.hid (fun w => f_any a w)
  have fb := Lib.hid (fun w => f_any b w)
  have fc := Lib.hid (fun w => f_any c w)
  have lab := Lib.hid (fun w => less_any a b ha hb w)
  have lba := Lib.hid (fun w => less_any b a hb ha w)
  have lbc := Lib.hid (fun w => less_any b c hb hc w)
  have lac := Lib.hid (fun w => less_any a c ha hc w)
  have rab := Lib.hid (fun w => rLess_any a b ha hb w)
  have sab := Lib.hid (fun w => same_any a b ha hb w)
  have qab := Lib.hid (fun w => rSame_any a b ha hb w)
  clear ha hb hc
  cases h1 : ltB a b <;> cases h2 : ltB b a <;> cases h3 : ltB b c <;> cases h4 : ltB a c <;> rw [h1, h2] at hs <;> first | exact (t1 h1 h2).elim | exact (t2 h1 h3 h4).elim | skip
  all_goals
    clear t1 t2
    simp only [Bool.not_true, Bool.not_false, Bool.and_true, Bool.and_false] at hs
    rw [h1] at lab rab
    rw [h2] at lba
    rw [h3] at lbc
    rw [h4] at lac
    rw [hs] at sab qab
    clear h1 h2 h3 h4 hs
    go_enter Try.func5, Try.ntmps5
    go_wp2_with (first | (go_at_call 20; (with_reducible refine (fa.out _).mono ?_); rintro e w' ⟨rfl, rfl⟩) | (go_at_call 20; (with_reducible refine (fb.out _).mono ?_); rintro e w' ⟨rfl, rfl⟩) | (go_at_call 20; (with_reducible refine (fc.out _).mono ?_); rintro e w' ⟨rfl, rfl⟩) | (go_at_call 21; (with_reducible refine (lab.out _).mono ?_); rintro e w' ⟨rfl, rfl⟩) | (go_at_call 21; (with_reducible refine (lba.out _).mono ?_); rintro e w' ⟨rfl, rfl⟩) | (go_at_call 21; (with_reducible refine (lbc.out _).mono ?_); rintro e w' ⟨rfl, rfl⟩) | (go_at_call 21; (with_reducible refine (lac.out _).mono ?_); rintro e w' ⟨rfl, rfl⟩) | (go_at_call 22; (with_reducible refine (rab.out _).mono ?_); rintro e w' ⟨rfl, rfl⟩) | (go_at_call 23; (with_reducible refine (sab.out _).mono ?_); rintro e w' ⟨rfl, rfl⟩) | (go_at_call 24; (with_reducible refine (qab.out _).mono ?_); rintro e w' ⟨rfl, rfl⟩) | (go_at_call 25; (with_reducible refine (ratAwake _).mono ?_); rintro e w' ⟨rfl, n, rfl⟩))
    go_ret
    exact ⟨rfl, below_drewn ⟨_, rfl⟩⟩

theorem fixes_walk (a b c d : Nat) (ha : a < 18446744073709551616) (hb : b < 18446744073709551616) (hc : c < 18446744073709551616) (hd : d < 18446744073709551616) (w : World) :
    Calls Try.prog 6 #[.int .u64 a, .int .u64 b, .int .u64 c, .int .u64 d] w fun e w' => e = .returned (.bool true) ∧ Below w.heap.size w w' := by
  have hx : fixB a b c d < 18446744073709551616 := by unfold fixB; (repeat' split) <;> assumption
  have fa := Lib.hid (fun w => f_any a w)
  have fb := Lib.hid (fun w => f_any b w)
  have fc := Lib.hid (fun w => f_any c w)
  have fd := Lib.hid (fun w => f_any d w)
  have l1 := Lib.hid (fun w => fix_any a b c d ha hb hc w)
  have l2 := Lib.hid (fun w => rFix_any a b c d ha hb hc w)
  have q := Lib.hid (fun w => rSame_any (fixB a b c d) (fixB a b c d) hx hx w)
  have hs : sameB (fixB a b c d) (fixB a b c d) = true := by unfold sameB; simp
  rw [hs] at q
  clear ha hb hc hd hs hx
  go_enter Try.func6, Try.ntmps6
  go_wp2_with (first | (go_at_call 20; (with_reducible refine (fa.out _).mono ?_); rintro e w' ⟨rfl, rfl⟩) | (go_at_call 20; (with_reducible refine (fb.out _).mono ?_); rintro e w' ⟨rfl, rfl⟩) | (go_at_call 20; (with_reducible refine (fc.out _).mono ?_); rintro e w' ⟨rfl, rfl⟩) | (go_at_call 20; (with_reducible refine (fd.out _).mono ?_); rintro e w' ⟨rfl, rfl⟩) | (go_at_call 26; (with_reducible refine (l1.out _).mono ?_); rintro e w' ⟨rfl, rfl⟩) | (go_at_call 27; (with_reducible refine (l2.out _).mono ?_); rintro e w' ⟨rfl, rfl⟩) | (go_at_call 24; (with_reducible refine (q.out _).mono ?_); rintro e w' ⟨rfl, rfl⟩) | (go_at_call 25; (with_reducible refine (ratAwake _).mono ?_); rintro e w' ⟨rfl, n, rfl⟩))
  go_ret
  exact ⟨rfl, below_drewn ⟨_, rfl⟩⟩

theorem same_of_cn {r s : Nat} (hr : r < 18446744073709551616) (hs : s < 18446744073709551616) (h : cn r = cn s) (w : World) :
    Calls Try.prog 24 #[.float .f64 r, .float .f64 s] w fun e w' => e = .returned (.bool true) ∧ w = w' := by
  have := rSame_any r s hr hs w
  rw [sameB_cn hr hs, h] at this
  simpa using this

theorem rates_walk (a b : Int) (c : Nat) (w : World) :
    Calls Try.prog 7 #[.int .i64 a, .int .i64 b, .int .u64 c] w fun e w' => e = .returned (.bool true) ∧ Below w.heap.size w w' := by
  go_enter Try.func7, Try.ntmps7
  go_wp2_with fail
  refine (rate_any a b _).mono ?_
  rintro e w' ⟨r, rfl, hr, hcr, n1, rfl⟩
  have HR := Lib.hid hr
  have HC := Lib.hid hcr
  clear hr hcr
  go_wp2_with fail
  refine (rRate_any a b _).mono ?_
  rintro e w' ⟨s, rfl, hs, hcs, n2, rfl⟩
  have q := Lib.hid (fun w => same_of_cn HR.out hs (HC.out.trans hcs.symm) w)
  clear hs hcs
  go_wp2_with (first | (go_at_call 24; (with_reducible refine (q.out _).mono ?_); rintro e w' ⟨rfl, rfl⟩) | (go_at_call 20; (with_reducible refine (f_any c _).mono ?_); rintro e w' ⟨rfl, rfl⟩) | (go_at_call 30; (with_reducible refine (over_any a b c _).mono ?_); rintro e w' ⟨rfl, n3, rfl⟩) | (go_at_call 31; (with_reducible refine (rOver_any a b c _).mono ?_); rintro e w' ⟨rfl, n4, rfl⟩) | (go_at_call 25; (with_reducible refine (ratAwake _).mono ?_); rintro e w' ⟨rfl, n5, rfl⟩))
  go_ret
  exact ⟨rfl, below_drewn ⟨_, rfl⟩⟩

theorem blends_walk (a b c : Nat) (ha : a < 18446744073709551616) (hb : b < 18446744073709551616) (hc : c < 18446744073709551616) (w : World) :
    Calls Try.prog 8 #[.int .u64 a, .int .u64 b, .int .u64 c] w fun e w' => e = .returned (.bool true) ∧ Below w.heap.size w w' := by
  have fa := Lib.hid (fun w => f_any a w)
  have fb := Lib.hid (fun w => f_any b w)
  have fc := Lib.hid (fun w => f_any c w)
  have l1 := Lib.hid (fun w => blend_any a b c ha hb hc w)
  have l2 := Lib.hid (fun w => rBlend_any a b c ha hb hc w)
  clear ha hb hc
  go_enter Try.func8, Try.ntmps8
  go_wp2_with (first | (go_at_call 20; (with_reducible refine (fa.out _).mono ?_); rintro e w' ⟨rfl, rfl⟩) | (go_at_call 20; (with_reducible refine (fb.out _).mono ?_); rintro e w' ⟨rfl, rfl⟩) | (go_at_call 20; (with_reducible refine (fc.out _).mono ?_); rintro e w' ⟨rfl, rfl⟩))
  refine (l1.out _).mono ?_
  rintro e w' ⟨r, rfl, hr, hcr, n1, rfl⟩
  have HR := Lib.hid hr
  have HC := Lib.hid hcr
  clear hr hcr
  go_wp2_with (first | (go_at_call 20; (with_reducible refine (fa.out _).mono ?_); rintro e w' ⟨rfl, rfl⟩) | (go_at_call 20; (with_reducible refine (fb.out _).mono ?_); rintro e w' ⟨rfl, rfl⟩) | (go_at_call 20; (with_reducible refine (fc.out _).mono ?_); rintro e w' ⟨rfl, rfl⟩))
  refine (l2.out _).mono ?_
  rintro e w' ⟨s, rfl, hs, hcs, n2, rfl⟩
  have q := Lib.hid (fun w => same_of_cn HR.out hs (HC.out.trans hcs.symm) w)
  clear hs hcs
  go_wp2_with (first | (go_at_call 24; (with_reducible refine (q.out _).mono ?_); rintro e w' ⟨rfl, rfl⟩) | (go_at_call 25; (with_reducible refine (ratAwake _).mono ?_); rintro e w' ⟨rfl, n5, rfl⟩))
  go_ret
  exact ⟨rfl, below_drewn ⟨_, rfl⟩⟩

end Go.Proofs.Ytlilnffcnjajdaa
