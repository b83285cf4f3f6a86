/- Settings: which may be (plan.Check, the document's May), and the share of them that is protected. -/
import Derived.Test.YtbgknopjgohocaaGreatZA
import Derived.Test.YtbgknopjgohocaaGreatFr
namespace Go.Proofs.YtbgknopjgohocaaGreat
open Go.RowKit Fl
set_option linter.unusedVariables false
set_option maxRecDepth 100000
set_option maxHeartbeats 4000000

structure CF where
  blocks : Int
  slots : Int
  log : Int
  window : Int
  budget : Int
  seed : Int
  keep : Nat
  margin : Nat
  ghost : Nat
  run : Int
def CF.cs (c : CF) : Array Value := #[.int .i64 c.blocks, .int .i64 c.slots, .int .i64 c.log, .int .i64 c.window, .int .i64 c.budget, .int .u64 c.seed, .float .f64 c.keep, .float .f64 c.margin, .float .f64 c.ghost, .int .i64 c.run]
def inB (n lo hi : Int) : Bool := decide (lo ≤ n ∧ n ≤ hi)
def CF.may (c : CF) : Bool := inB c.blocks 1 512 && inB c.slots 1 192 && inB c.log 1 256 && inB c.window 1 4096 && inB c.budget 0 1048576 && inB c.run 0 1048576
theorem inB_iff {n lo hi : Int} : inB n lo hi = true ↔ lo ≤ n ∧ n ≤ hi := by unfold inB; simp
structure CFB (c : CF) : Prop where
  s0 : 0 ≤ c.seed
  s1 : c.seed ≤ 18446744073709551615
  k : c.keep < 18446744073709551616
  m : c.margin < 18446744073709551616
  g : c.ghost < 18446744073709551616

theorem chk_in (n lo hi : Int) (hl : lo ≤ hi) (w : World) :
    Calls Tryz.prog 53 #[.int .i64 n, .int .i64 lo, .int .i64 hi] w fun e w' => e = .returned (.bool (inB n lo hi)) ∧ w = w' := by
  have C := Lib.hid (clamp_any n lo hi)
  have E := Lib.hid (show (clampI n lo hi == n) = inB n lo hi by
    unfold inB clampI
    by_cases h1 : n < lo
    · rw [if_pos h1]
      have : ¬ (lo ≤ n ∧ n ≤ hi) := by omega
      simp [this]; omega
    · rw [if_neg h1]
      by_cases h2 : hi < n
      · rw [if_pos h2]
        have : ¬ (lo ≤ n ∧ n ≤ hi) := by omega
        simp [this]; omega
      · rw [if_neg h2]
        have : lo ≤ n ∧ n ≤ hi := by omega
        simp [this])
  clear hl
  go_enter Tryz.func53, Tryz.ntmps53
  go_wp2_with fail
  refine (C.out _).mono ?_
  rintro e w' ⟨rfl, rfl⟩
  go_wp2
  go_ret
  exact ⟨by rw [← E.out]; rfl, rfl⟩
theorem may_in (n lo hi : Int) (w : World) :
    Calls Tryz.prog 26 #[.int .i64 n, .int .i64 lo, .int .i64 hi] w fun e w' => e = .returned (.bool (inB n lo hi)) ∧ w = w' := by
  by_cases h1 : lo ≤ n
  · have e1 : decide (lo ≤ n) = true := decide_eq_true h1
    have E := Lib.hid (show decide (n ≤ hi) = inB n lo hi by unfold inB; simp [h1])
    clear h1
    go_enter Tryz.func26, Tryz.ntmps26
    go_wp2
    go_ret
    exact ⟨by rw [← E.out]; rfl, rfl⟩
  · have e1 : decide (lo ≤ n) = false := decide_eq_false h1
    have E := Lib.hid (show false = inB n lo hi by unfold inB; simp [h1])
    clear h1
    go_enter Tryz.func26, Tryz.ntmps26
    go_wp2
    go_ret
    exact ⟨by rw [← E.out]; rfl, rfl⟩

theorem check0 (c : CF) (w : World)  (h0 : inB c.blocks 1 512 = false) :
    Calls Tryz.prog 42 #[.agg c.cs] w fun e w' => e = .returned (.int .i64 100) ∧ Below w.heap.size w w' := by
  have C0 := Lib.hid (fun W => by have := chk_in c.blocks 1 512 (by omega) W; rw [h0] at this; exact this)
  clear h0
  obtain ⟨blocks, slots, log, window, budget, seed, keep, margin, ghost, run⟩ := c
  change Calls Tryz.prog 42 #[.agg #[.int .i64 blocks, .int .i64 slots, .int .i64 log, .int .i64 window, .int .i64 budget, .int .u64 seed, .float .f64 keep, .float .f64 margin, .float .f64 ghost, .int .i64 run]] w _
  go_enter Tryz.func42, Tryz.ntmps42
  go_wp2_with (first
    | (go_at_call 53; (with_reducible refine (C0.out _).mono ?_); rintro e w' ⟨rfl, rfl⟩))
  go_ret
  exact ⟨rfl, (Below.refl _ _).alloc (Nat.le_refl _) _⟩
theorem check1 (c : CF) (w : World) (h0 : inB c.blocks 1 512 = true) (h1 : inB c.slots 1 192 = false) :
    Calls Tryz.prog 42 #[.agg c.cs] w fun e w' => e = .returned (.int .i64 100) ∧ Below w.heap.size w w' := by
  have C0 := Lib.hid (fun W => by have := chk_in c.blocks 1 512 (by omega) W; rw [h0] at this; exact this)
  have C1 := Lib.hid (fun W => by have := chk_in c.slots 1 192 (by omega) W; rw [h1] at this; exact this)
  clear h0 h1
  obtain ⟨blocks, slots, log, window, budget, seed, keep, margin, ghost, run⟩ := c
  change Calls Tryz.prog 42 #[.agg #[.int .i64 blocks, .int .i64 slots, .int .i64 log, .int .i64 window, .int .i64 budget, .int .u64 seed, .float .f64 keep, .float .f64 margin, .float .f64 ghost, .int .i64 run]] w _
  go_enter Tryz.func42, Tryz.ntmps42
  go_wp2_with (first
    | (go_at_call 53; (with_reducible refine (C0.out _).mono ?_); rintro e w' ⟨rfl, rfl⟩)
    | (go_at_call 53; (with_reducible refine (C1.out _).mono ?_); rintro e w' ⟨rfl, rfl⟩))
  go_ret
  exact ⟨rfl, (Below.refl _ _).alloc (Nat.le_refl _) _⟩
theorem check2 (c : CF) (w : World) (h0 : inB c.blocks 1 512 = true) (h1 : inB c.slots 1 192 = true) (h2 : inB c.log 1 256 = false) :
    Calls Tryz.prog 42 #[.agg c.cs] w fun e w' => e = .returned (.int .i64 100) ∧ Below w.heap.size w w' := by
  have C0 := Lib.hid (fun W => by have := chk_in c.blocks 1 512 (by omega) W; rw [h0] at this; exact this)
  have C1 := Lib.hid (fun W => by have := chk_in c.slots 1 192 (by omega) W; rw [h1] at this; exact this)
  have C2 := Lib.hid (fun W => by have := chk_in c.log 1 256 (by omega) W; rw [h2] at this; exact this)
  clear h0 h1 h2
  obtain ⟨blocks, slots, log, window, budget, seed, keep, margin, ghost, run⟩ := c
  change Calls Tryz.prog 42 #[.agg #[.int .i64 blocks, .int .i64 slots, .int .i64 log, .int .i64 window, .int .i64 budget, .int .u64 seed, .float .f64 keep, .float .f64 margin, .float .f64 ghost, .int .i64 run]] w _
  go_enter Tryz.func42, Tryz.ntmps42
  go_wp2_with (first
    | (go_at_call 53; (with_reducible refine (C0.out _).mono ?_); rintro e w' ⟨rfl, rfl⟩)
    | (go_at_call 53; (with_reducible refine (C1.out _).mono ?_); rintro e w' ⟨rfl, rfl⟩)
    | (go_at_call 53; (with_reducible refine (C2.out _).mono ?_); rintro e w' ⟨rfl, rfl⟩))
  go_ret
  exact ⟨rfl, (Below.refl _ _).alloc (Nat.le_refl _) _⟩
theorem check3 (c : CF) (w : World) (h0 : inB c.blocks 1 512 = true) (h1 : inB c.slots 1 192 = true) (h2 : inB c.log 1 256 = true) (h3 : inB c.window 1 4096 = false) :
    Calls Tryz.prog 42 #[.agg c.cs] w fun e w' => e = .returned (.int .i64 100) ∧ Below w.heap.size w w' := by
  have C0 := Lib.hid (fun W => by have := chk_in c.blocks 1 512 (by omega) W; rw [h0] at this; exact this)
  have C1 := Lib.hid (fun W => by have := chk_in c.slots 1 192 (by omega) W; rw [h1] at this; exact this)
  have C2 := Lib.hid (fun W => by have := chk_in c.log 1 256 (by omega) W; rw [h2] at this; exact this)
  have C3 := Lib.hid (fun W => by have := chk_in c.window 1 4096 (by omega) W; rw [h3] at this; exact this)
  clear h0 h1 h2 h3
  obtain ⟨blocks, slots, log, window, budget, seed, keep, margin, ghost, run⟩ := c
  change Calls Tryz.prog 42 #[.agg #[.int .i64 blocks, .int .i64 slots, .int .i64 log, .int .i64 window, .int .i64 budget, .int .u64 seed, .float .f64 keep, .float .f64 margin, .float .f64 ghost, .int .i64 run]] w _
  go_enter Tryz.func42, Tryz.ntmps42
  go_wp2_with (first
    | (go_at_call 53; (with_reducible refine (C0.out _).mono ?_); rintro e w' ⟨rfl, rfl⟩)
    | (go_at_call 53; (with_reducible refine (C1.out _).mono ?_); rintro e w' ⟨rfl, rfl⟩)
    | (go_at_call 53; (with_reducible refine (C2.out _).mono ?_); rintro e w' ⟨rfl, rfl⟩)
    | (go_at_call 53; (with_reducible refine (C3.out _).mono ?_); rintro e w' ⟨rfl, rfl⟩))
  go_ret
  exact ⟨rfl, (Below.refl _ _).alloc (Nat.le_refl _) _⟩
theorem check4 (c : CF) (w : World) (h0 : inB c.blocks 1 512 = true) (h1 : inB c.slots 1 192 = true) (h2 : inB c.log 1 256 = true) (h3 : inB c.window 1 4096 = true) (h4 : inB c.budget 0 1048576 = false) :
    Calls Tryz.prog 42 #[.agg c.cs] w fun e w' => e = .returned (.int .i64 100) ∧ Below w.heap.size w w' := by
  have C0 := Lib.hid (fun W => by have := chk_in c.blocks 1 512 (by omega) W; rw [h0] at this; exact this)
  have C1 := Lib.hid (fun W => by have := chk_in c.slots 1 192 (by omega) W; rw [h1] at this; exact this)
  have C2 := Lib.hid (fun W => by have := chk_in c.log 1 256 (by omega) W; rw [h2] at this; exact this)
  have C3 := Lib.hid (fun W => by have := chk_in c.window 1 4096 (by omega) W; rw [h3] at this; exact this)
  have C4 := Lib.hid (fun W => by have := chk_in c.budget 0 1048576 (by omega) W; rw [h4] at this; exact this)
  clear h0 h1 h2 h3 h4
  obtain ⟨blocks, slots, log, window, budget, seed, keep, margin, ghost, run⟩ := c
  change Calls Tryz.prog 42 #[.agg #[.int .i64 blocks, .int .i64 slots, .int .i64 log, .int .i64 window, .int .i64 budget, .int .u64 seed, .float .f64 keep, .float .f64 margin, .float .f64 ghost, .int .i64 run]] w _
  go_enter Tryz.func42, Tryz.ntmps42
  go_wp2_with (first
    | (go_at_call 53; (with_reducible refine (C0.out _).mono ?_); rintro e w' ⟨rfl, rfl⟩)
    | (go_at_call 53; (with_reducible refine (C1.out _).mono ?_); rintro e w' ⟨rfl, rfl⟩)
    | (go_at_call 53; (with_reducible refine (C2.out _).mono ?_); rintro e w' ⟨rfl, rfl⟩)
    | (go_at_call 53; (with_reducible refine (C3.out _).mono ?_); rintro e w' ⟨rfl, rfl⟩)
    | (go_at_call 53; (with_reducible refine (C4.out _).mono ?_); rintro e w' ⟨rfl, rfl⟩))
  go_ret
  exact ⟨rfl, (Below.refl _ _).alloc (Nat.le_refl _) _⟩
theorem check5 (c : CF) (w : World) (h0 : inB c.blocks 1 512 = true) (h1 : inB c.slots 1 192 = true) (h2 : inB c.log 1 256 = true) (h3 : inB c.window 1 4096 = true) (h4 : inB c.budget 0 1048576 = true) (h5 : inB c.run 0 1048576 = false) :
    Calls Tryz.prog 42 #[.agg c.cs] w fun e w' => e = .returned (.int .i64 100) ∧ Below w.heap.size w w' := by
  have C0 := Lib.hid (fun W => by have := chk_in c.blocks 1 512 (by omega) W; rw [h0] at this; exact this)
  have C1 := Lib.hid (fun W => by have := chk_in c.slots 1 192 (by omega) W; rw [h1] at this; exact this)
  have C2 := Lib.hid (fun W => by have := chk_in c.log 1 256 (by omega) W; rw [h2] at this; exact this)
  have C3 := Lib.hid (fun W => by have := chk_in c.window 1 4096 (by omega) W; rw [h3] at this; exact this)
  have C4 := Lib.hid (fun W => by have := chk_in c.budget 0 1048576 (by omega) W; rw [h4] at this; exact this)
  have C5 := Lib.hid (fun W => by have := chk_in c.run 0 1048576 (by omega) W; rw [h5] at this; exact this)
  clear h0 h1 h2 h3 h4 h5
  obtain ⟨blocks, slots, log, window, budget, seed, keep, margin, ghost, run⟩ := c
  change Calls Tryz.prog 42 #[.agg #[.int .i64 blocks, .int .i64 slots, .int .i64 log, .int .i64 window, .int .i64 budget, .int .u64 seed, .float .f64 keep, .float .f64 margin, .float .f64 ghost, .int .i64 run]] w _
  go_enter Tryz.func42, Tryz.ntmps42
  go_wp2_with (first
    | (go_at_call 53; (with_reducible refine (C0.out _).mono ?_); rintro e w' ⟨rfl, rfl⟩)
    | (go_at_call 53; (with_reducible refine (C1.out _).mono ?_); rintro e w' ⟨rfl, rfl⟩)
    | (go_at_call 53; (with_reducible refine (C2.out _).mono ?_); rintro e w' ⟨rfl, rfl⟩)
    | (go_at_call 53; (with_reducible refine (C3.out _).mono ?_); rintro e w' ⟨rfl, rfl⟩)
    | (go_at_call 53; (with_reducible refine (C4.out _).mono ?_); rintro e w' ⟨rfl, rfl⟩)
    | (go_at_call 53; (with_reducible refine (C5.out _).mono ?_); rintro e w' ⟨rfl, rfl⟩))
  go_ret
  exact ⟨rfl, (Below.refl _ _).alloc (Nat.le_refl _) _⟩
theorem check6 (c : CF) (w : World) (h0 : inB c.blocks 1 512 = true) (h1 : inB c.slots 1 192 = true) (h2 : inB c.log 1 256 = true) (h3 : inB c.window 1 4096 = true) (h4 : inB c.budget 0 1048576 = true) (h5 : inB c.run 0 1048576 = true) :
    Calls Tryz.prog 42 #[.agg c.cs] w fun e w' => e = .returned (.int .i64 0) ∧ Below w.heap.size w w' := by
  have C0 := Lib.hid (fun W => by have := chk_in c.blocks 1 512 (by omega) W; rw [h0] at this; exact this)
  have C1 := Lib.hid (fun W => by have := chk_in c.slots 1 192 (by omega) W; rw [h1] at this; exact this)
  have C2 := Lib.hid (fun W => by have := chk_in c.log 1 256 (by omega) W; rw [h2] at this; exact this)
  have C3 := Lib.hid (fun W => by have := chk_in c.window 1 4096 (by omega) W; rw [h3] at this; exact this)
  have C4 := Lib.hid (fun W => by have := chk_in c.budget 0 1048576 (by omega) W; rw [h4] at this; exact this)
  have C5 := Lib.hid (fun W => by have := chk_in c.run 0 1048576 (by omega) W; rw [h5] at this; exact this)
  clear h0 h1 h2 h3 h4 h5
  obtain ⟨blocks, slots, log, window, budget, seed, keep, margin, ghost, run⟩ := c
  change Calls Tryz.prog 42 #[.agg #[.int .i64 blocks, .int .i64 slots, .int .i64 log, .int .i64 window, .int .i64 budget, .int .u64 seed, .float .f64 keep, .float .f64 margin, .float .f64 ghost, .int .i64 run]] w _
  go_enter Tryz.func42, Tryz.ntmps42
  go_wp2_with (first
    | (go_at_call 53; (with_reducible refine (C0.out _).mono ?_); rintro e w' ⟨rfl, rfl⟩)
    | (go_at_call 53; (with_reducible refine (C1.out _).mono ?_); rintro e w' ⟨rfl, rfl⟩)
    | (go_at_call 53; (with_reducible refine (C2.out _).mono ?_); rintro e w' ⟨rfl, rfl⟩)
    | (go_at_call 53; (with_reducible refine (C3.out _).mono ?_); rintro e w' ⟨rfl, rfl⟩)
    | (go_at_call 53; (with_reducible refine (C4.out _).mono ?_); rintro e w' ⟨rfl, rfl⟩)
    | (go_at_call 53; (with_reducible refine (C5.out _).mono ?_); rintro e w' ⟨rfl, rfl⟩))
  go_ret
  exact ⟨rfl, (Below.refl _ _).alloc (Nat.le_refl _) _⟩
theorem check_any (c : CF) (w : World) :
    Calls Tryz.prog 42 #[.agg c.cs] w fun e w' => e = .returned (.int .i64 (if c.may = true then 0 else 100)) ∧ Below w.heap.size w w' := by
  unfold CF.may
  cases h0 : inB c.blocks 1 512
  · simpa [h0] using check0 c w h0
  · skip
    cases h1 : inB c.slots 1 192
    · simpa [h0, h1] using check1 c w h0 h1
    · skip
      cases h2 : inB c.log 1 256
      · simpa [h0, h1, h2] using check2 c w h0 h1 h2
      · skip
        cases h3 : inB c.window 1 4096
        · simpa [h0, h1, h2, h3] using check3 c w h0 h1 h2 h3
        · skip
          cases h4 : inB c.budget 0 1048576
          · simpa [h0, h1, h2, h3, h4] using check4 c w h0 h1 h2 h3 h4
          · skip
            cases h5 : inB c.run 0 1048576
            · simpa [h0, h1, h2, h3, h4, h5] using check5 c w h0 h1 h2 h3 h4 h5
            · skip
              simpa using check6 c w h0 h1 h2 h3 h4 h5

theorem may0 (c : CF) (w : World)  (h0 : inB c.blocks 1 512 = false) :
    Calls Tryz.prog 14 #[.agg c.cs] w fun e w' => e = .returned (.bool false) ∧ Below w.heap.size w w' := by
  have C0 := Lib.hid (fun W => by have := may_in c.blocks 1 512 W; rw [h0] at this; exact this)
  clear h0
  obtain ⟨blocks, slots, log, window, budget, seed, keep, margin, ghost, run⟩ := c
  change Calls Tryz.prog 14 #[.agg #[.int .i64 blocks, .int .i64 slots, .int .i64 log, .int .i64 window, .int .i64 budget, .int .u64 seed, .float .f64 keep, .float .f64 margin, .float .f64 ghost, .int .i64 run]] w _
  go_enter Tryz.func14, Tryz.ntmps14
  go_wp2_with (first
    | (go_at_call 26; (with_reducible refine (C0.out _).mono ?_); rintro e w' ⟨rfl, rfl⟩))
  go_ret
  exact ⟨rfl, (Below.refl _ _).alloc (Nat.le_refl _) _⟩
theorem may1 (c : CF) (w : World) (h0 : inB c.blocks 1 512 = true) (h1 : inB c.slots 1 192 = false) :
    Calls Tryz.prog 14 #[.agg c.cs] w fun e w' => e = .returned (.bool false) ∧ Below w.heap.size w w' := by
  have C0 := Lib.hid (fun W => by have := may_in c.blocks 1 512 W; rw [h0] at this; exact this)
  have C1 := Lib.hid (fun W => by have := may_in c.slots 1 192 W; rw [h1] at this; exact this)
  clear h0 h1
  obtain ⟨blocks, slots, log, window, budget, seed, keep, margin, ghost, run⟩ := c
  change Calls Tryz.prog 14 #[.agg #[.int .i64 blocks, .int .i64 slots, .int .i64 log, .int .i64 window, .int .i64 budget, .int .u64 seed, .float .f64 keep, .float .f64 margin, .float .f64 ghost, .int .i64 run]] w _
  go_enter Tryz.func14, Tryz.ntmps14
  go_wp2_with (first
    | (go_at_call 26; (with_reducible refine (C0.out _).mono ?_); rintro e w' ⟨rfl, rfl⟩)
    | (go_at_call 26; (with_reducible refine (C1.out _).mono ?_); rintro e w' ⟨rfl, rfl⟩))
  go_ret
  exact ⟨rfl, (Below.refl _ _).alloc (Nat.le_refl _) _⟩
theorem may2 (c : CF) (w : World) (h0 : inB c.blocks 1 512 = true) (h1 : inB c.slots 1 192 = true) (h2 : inB c.log 1 256 = false) :
    Calls Tryz.prog 14 #[.agg c.cs] w fun e w' => e = .returned (.bool false) ∧ Below w.heap.size w w' := by
  have C0 := Lib.hid (fun W => by have := may_in c.blocks 1 512 W; rw [h0] at this; exact this)
  have C1 := Lib.hid (fun W => by have := may_in c.slots 1 192 W; rw [h1] at this; exact this)
  have C2 := Lib.hid (fun W => by have := may_in c.log 1 256 W; rw [h2] at this; exact this)
  clear h0 h1 h2
  obtain ⟨blocks, slots, log, window, budget, seed, keep, margin, ghost, run⟩ := c
  change Calls Tryz.prog 14 #[.agg #[.int .i64 blocks, .int .i64 slots, .int .i64 log, .int .i64 window, .int .i64 budget, .int .u64 seed, .float .f64 keep, .float .f64 margin, .float .f64 ghost, .int .i64 run]] w _
  go_enter Tryz.func14, Tryz.ntmps14
  go_wp2_with (first
    | (go_at_call 26; (with_reducible refine (C0.out _).mono ?_); rintro e w' ⟨rfl, rfl⟩)
    | (go_at_call 26; (with_reducible refine (C1.out _).mono ?_); rintro e w' ⟨rfl, rfl⟩)
    | (go_at_call 26; (with_reducible refine (C2.out _).mono ?_); rintro e w' ⟨rfl, rfl⟩))
  go_ret
  exact ⟨rfl, (Below.refl _ _).alloc (Nat.le_refl _) _⟩
theorem may3 (c : CF) (w : World) (h0 : inB c.blocks 1 512 = true) (h1 : inB c.slots 1 192 = true) (h2 : inB c.log 1 256 = true) (h3 : inB c.window 1 4096 = false) :
    Calls Tryz.prog 14 #[.agg c.cs] w fun e w' => e = .returned (.bool false) ∧ Below w.heap.size w w' := by
  have C0 := Lib.hid (fun W => by have := may_in c.blocks 1 512 W; rw [h0] at this; exact this)
  have C1 := Lib.hid (fun W => by have := may_in c.slots 1 192 W; rw [h1] at this; exact this)
  have C2 := Lib.hid (fun W => by have := may_in c.log 1 256 W; rw [h2] at this; exact this)
  have C3 := Lib.hid (fun W => by have := may_in c.window 1 4096 W; rw [h3] at this; exact this)
  clear h0 h1 h2 h3
  obtain ⟨blocks, slots, log, window, budget, seed, keep, margin, ghost, run⟩ := c
  change Calls Tryz.prog 14 #[.agg #[.int .i64 blocks, .int .i64 slots, .int .i64 log, .int .i64 window, .int .i64 budget, .int .u64 seed, .float .f64 keep, .float .f64 margin, .float .f64 ghost, .int .i64 run]] w _
  go_enter Tryz.func14, Tryz.ntmps14
  go_wp2_with (first
    | (go_at_call 26; (with_reducible refine (C0.out _).mono ?_); rintro e w' ⟨rfl, rfl⟩)
    | (go_at_call 26; (with_reducible refine (C1.out _).mono ?_); rintro e w' ⟨rfl, rfl⟩)
    | (go_at_call 26; (with_reducible refine (C2.out _).mono ?_); rintro e w' ⟨rfl, rfl⟩)
    | (go_at_call 26; (with_reducible refine (C3.out _).mono ?_); rintro e w' ⟨rfl, rfl⟩))
  go_ret
  exact ⟨rfl, (Below.refl _ _).alloc (Nat.le_refl _) _⟩
theorem may4 (c : CF) (w : World) (h0 : inB c.blocks 1 512 = true) (h1 : inB c.slots 1 192 = true) (h2 : inB c.log 1 256 = true) (h3 : inB c.window 1 4096 = true) (h4 : inB c.budget 0 1048576 = false) :
    Calls Tryz.prog 14 #[.agg c.cs] w fun e w' => e = .returned (.bool false) ∧ Below w.heap.size w w' := by
  have C0 := Lib.hid (fun W => by have := may_in c.blocks 1 512 W; rw [h0] at this; exact this)
  have C1 := Lib.hid (fun W => by have := may_in c.slots 1 192 W; rw [h1] at this; exact this)
  have C2 := Lib.hid (fun W => by have := may_in c.log 1 256 W; rw [h2] at this; exact this)
  have C3 := Lib.hid (fun W => by have := may_in c.window 1 4096 W; rw [h3] at this; exact this)
  have C4 := Lib.hid (fun W => by have := may_in c.budget 0 1048576 W; rw [h4] at this; exact this)
  clear h0 h1 h2 h3 h4
  obtain ⟨blocks, slots, log, window, budget, seed, keep, margin, ghost, run⟩ := c
  change Calls Tryz.prog 14 #[.agg #[.int .i64 blocks, .int .i64 slots, .int .i64 log, .int .i64 window, .int .i64 budget, .int .u64 seed, .float .f64 keep, .float .f64 margin, .float .f64 ghost, .int .i64 run]] w _
  go_enter Tryz.func14, Tryz.ntmps14
  go_wp2_with (first
    | (go_at_call 26; (with_reducible refine (C0.out _).mono ?_); rintro e w' ⟨rfl, rfl⟩)
    | (go_at_call 26; (with_reducible refine (C1.out _).mono ?_); rintro e w' ⟨rfl, rfl⟩)
    | (go_at_call 26; (with_reducible refine (C2.out _).mono ?_); rintro e w' ⟨rfl, rfl⟩)
    | (go_at_call 26; (with_reducible refine (C3.out _).mono ?_); rintro e w' ⟨rfl, rfl⟩)
    | (go_at_call 26; (with_reducible refine (C4.out _).mono ?_); rintro e w' ⟨rfl, rfl⟩))
  go_ret
  exact ⟨rfl, (Below.refl _ _).alloc (Nat.le_refl _) _⟩
theorem may5 (c : CF) (w : World) (h0 : inB c.blocks 1 512 = true) (h1 : inB c.slots 1 192 = true) (h2 : inB c.log 1 256 = true) (h3 : inB c.window 1 4096 = true) (h4 : inB c.budget 0 1048576 = true) (h5 : inB c.run 0 1048576 = false) :
    Calls Tryz.prog 14 #[.agg c.cs] w fun e w' => e = .returned (.bool false) ∧ Below w.heap.size w w' := by
  have C0 := Lib.hid (fun W => by have := may_in c.blocks 1 512 W; rw [h0] at this; exact this)
  have C1 := Lib.hid (fun W => by have := may_in c.slots 1 192 W; rw [h1] at this; exact this)
  have C2 := Lib.hid (fun W => by have := may_in c.log 1 256 W; rw [h2] at this; exact this)
  have C3 := Lib.hid (fun W => by have := may_in c.window 1 4096 W; rw [h3] at this; exact this)
  have C4 := Lib.hid (fun W => by have := may_in c.budget 0 1048576 W; rw [h4] at this; exact this)
  have C5 := Lib.hid (fun W => by have := may_in c.run 0 1048576 W; rw [h5] at this; exact this)
  clear h0 h1 h2 h3 h4 h5
  obtain ⟨blocks, slots, log, window, budget, seed, keep, margin, ghost, run⟩ := c
  change Calls Tryz.prog 14 #[.agg #[.int .i64 blocks, .int .i64 slots, .int .i64 log, .int .i64 window, .int .i64 budget, .int .u64 seed, .float .f64 keep, .float .f64 margin, .float .f64 ghost, .int .i64 run]] w _
  go_enter Tryz.func14, Tryz.ntmps14
  go_wp2_with (first
    | (go_at_call 26; (with_reducible refine (C0.out _).mono ?_); rintro e w' ⟨rfl, rfl⟩)
    | (go_at_call 26; (with_reducible refine (C1.out _).mono ?_); rintro e w' ⟨rfl, rfl⟩)
    | (go_at_call 26; (with_reducible refine (C2.out _).mono ?_); rintro e w' ⟨rfl, rfl⟩)
    | (go_at_call 26; (with_reducible refine (C3.out _).mono ?_); rintro e w' ⟨rfl, rfl⟩)
    | (go_at_call 26; (with_reducible refine (C4.out _).mono ?_); rintro e w' ⟨rfl, rfl⟩)
    | (go_at_call 26; (with_reducible refine (C5.out _).mono ?_); rintro e w' ⟨rfl, rfl⟩))
  go_ret
  exact ⟨rfl, (Below.refl _ _).alloc (Nat.le_refl _) _⟩
theorem may6 (c : CF) (w : World) (h0 : inB c.blocks 1 512 = true) (h1 : inB c.slots 1 192 = true) (h2 : inB c.log 1 256 = true) (h3 : inB c.window 1 4096 = true) (h4 : inB c.budget 0 1048576 = true) (h5 : inB c.run 0 1048576 = true) :
    Calls Tryz.prog 14 #[.agg c.cs] w fun e w' => e = .returned (.bool true) ∧ Below w.heap.size w w' := by
  have C0 := Lib.hid (fun W => by have := may_in c.blocks 1 512 W; rw [h0] at this; exact this)
  have C1 := Lib.hid (fun W => by have := may_in c.slots 1 192 W; rw [h1] at this; exact this)
  have C2 := Lib.hid (fun W => by have := may_in c.log 1 256 W; rw [h2] at this; exact this)
  have C3 := Lib.hid (fun W => by have := may_in c.window 1 4096 W; rw [h3] at this; exact this)
  have C4 := Lib.hid (fun W => by have := may_in c.budget 0 1048576 W; rw [h4] at this; exact this)
  have C5 := Lib.hid (fun W => by have := may_in c.run 0 1048576 W; rw [h5] at this; exact this)
  clear h0 h1 h2 h3 h4 h5
  obtain ⟨blocks, slots, log, window, budget, seed, keep, margin, ghost, run⟩ := c
  change Calls Tryz.prog 14 #[.agg #[.int .i64 blocks, .int .i64 slots, .int .i64 log, .int .i64 window, .int .i64 budget, .int .u64 seed, .float .f64 keep, .float .f64 margin, .float .f64 ghost, .int .i64 run]] w _
  go_enter Tryz.func14, Tryz.ntmps14
  go_wp2_with (first
    | (go_at_call 26; (with_reducible refine (C0.out _).mono ?_); rintro e w' ⟨rfl, rfl⟩)
    | (go_at_call 26; (with_reducible refine (C1.out _).mono ?_); rintro e w' ⟨rfl, rfl⟩)
    | (go_at_call 26; (with_reducible refine (C2.out _).mono ?_); rintro e w' ⟨rfl, rfl⟩)
    | (go_at_call 26; (with_reducible refine (C3.out _).mono ?_); rintro e w' ⟨rfl, rfl⟩)
    | (go_at_call 26; (with_reducible refine (C4.out _).mono ?_); rintro e w' ⟨rfl, rfl⟩)
    | (go_at_call 26; (with_reducible refine (C5.out _).mono ?_); rintro e w' ⟨rfl, rfl⟩))
  go_ret
  exact ⟨rfl, (Below.refl _ _).alloc (Nat.le_refl _) _⟩
theorem may_any (c : CF) (w : World) :
    Calls Tryz.prog 14 #[.agg c.cs] w fun e w' => e = .returned (.bool c.may) ∧ Below w.heap.size w w' := by
  unfold CF.may
  cases h0 : inB c.blocks 1 512
  · simpa [h0] using may0 c w h0
  · skip
    cases h1 : inB c.slots 1 192
    · simpa [h0, h1] using may1 c w h0 h1
    · skip
      cases h2 : inB c.log 1 256
      · simpa [h0, h1, h2] using may2 c w h0 h1 h2
      · skip
        cases h3 : inB c.window 1 4096
        · simpa [h0, h1, h2, h3] using may3 c w h0 h1 h2 h3
        · skip
          cases h4 : inB c.budget 0 1048576
          · simpa [h0, h1, h2, h3, h4] using may4 c w h0 h1 h2 h3 h4
          · skip
            cases h5 : inB c.run 0 1048576
            · simpa [h0, h1, h2, h3, h4, h5] using may5 c w h0 h1 h2 h3 h4 h5
            · skip
              simpa using may6 c w h0 h1 h2 h3 h4 h5

/-- The share that is protected. -/
def keepF (k : Nat) : Nat := if isN k = true then 4605380978949069210 else k
theorem keep_any (c : CF) (hk : c.keep < 18446744073709551616) (w : World) :
    Calls Tryz.prog 56 #[.agg c.cs] w fun e w' => e = .returned (.float .f64 (keepF c.keep)) ∧ Below w.heap.size w w' := by
  have E := Lib.hid (ne_self c.keep hk)
  obtain ⟨blocks, slots, log, window, budget, seed, keep, margin, ghost, run⟩ := c
  cases hn : isN keep
  · have F := Lib.hid (show keepF keep = keep by unfold keepF; rw [hn]; rfl)
    have E := E.out
    rw [hn] at E
    clear hn
    change Calls Tryz.prog 56 #[.agg #[.int .i64 blocks, .int .i64 slots, .int .i64 log, .int .i64 window, .int .i64 budget, .int .u64 seed, .float .f64 keep, .float .f64 margin, .float .f64 ghost, .int .i64 run]] w _
    go_enter Tryz.func56, Tryz.ntmps56
    go_wp2
    go_ret
    exact ⟨by rw [F.out]; rfl, (Below.refl _ _).alloc (Nat.le_refl _) _⟩
  · have F := Lib.hid (show keepF keep = 4605380978949069210 by unfold keepF; rw [hn]; rfl)
    have E := E.out
    rw [hn] at E
    clear hn
    change Calls Tryz.prog 56 #[.agg #[.int .i64 blocks, .int .i64 slots, .int .i64 log, .int .i64 window, .int .i64 budget, .int .u64 seed, .float .f64 keep, .float .f64 margin, .float .f64 ghost, .int .i64 run]] w _
    go_enter Tryz.func56, Tryz.ntmps56
    go_wp2
    go_ret
    exact ⟨by rw [F.out]; rfl, (Below.refl _ _).alloc (Nat.le_refl _) _⟩
theorem keepF_lt {k : Nat} (h : k < 18446744073709551616) : keepF k < 18446744073709551616 := by
  unfold keepF; split <;> omega
end Go.Proofs.YtbgknopjgohocaaGreat
