/- A trace that is reckoned: its beginning. -/
import Derived.Test.YtbgknopjgohocaaGreatZF
import Derived.Test.YtbgknopjgohocaaGreatTu
import Derived.Deep.RegionHeldLaw
namespace Go.Proofs.YtbgknopjgohocaaGreat
open Go.RowKit
set_option linter.unusedVariables false
set_option maxRecDepth 100000
set_option maxHeartbeats 4000000

def rcOf (c : CF) : RC := ⟨pcOf c, c.blocks.toNat, c.window.toNat, c.budget.toNat⟩
def rv0 : RV := ⟨pv0, 0, pls0, 0, fun _ => 0, ⟨0, 0, 0, 0, 0, 0⟩⟩
theorem may_all {c : CF} (h : c.may = true) : (1 ≤ c.blocks ∧ c.blocks ≤ 512) ∧ (1 ≤ c.slots ∧ c.slots ≤ 192) ∧ (1 ≤ c.log ∧ c.log ≤ 256) ∧ (1 ≤ c.window ∧ c.window ≤ 4096) ∧ (0 ≤ c.budget ∧ c.budget ≤ 1048576) ∧ (0 ≤ c.run ∧ c.run ≤ 1048576) := by
  unfold CF.may at h
  simp only [Bool.and_eq_true, inB_iff] at h
  omega
theorem rb0 {c : CF} (h : c.may = true) : RB (rcOf c) rv0 0 := by
  have b := may_all h
  exact ⟨by show c.slots.toNat ≤ 192; omega, by show c.blocks.toNat ≤ 512; omega, by show c.budget.toNat ≤ 1048576; omega, Nat.zero_le _, Nat.le_refl _, Nat.le_refl _, fun _ => Nat.le_refl _, Nat.le_refl _, Nat.le_refl _, Nat.le_refl _, Nat.le_refl _, Nat.le_refl _, Nat.le_refl _⟩

theorem tb_no (c : CF) (hm : c.may = false) (told : Value) (w : World) :
    Calls Tryz.prog 32 #[.agg c.cs, told] w fun e w' => e = .returned (.tuple #[.pointer none, .int .i64 100]) ∧ Below w.heap.size w w' := by
  have CK := Lib.hid (fun W => by have := check_any c W; rw [hm] at this; exact this)
  clear hm
  obtain ⟨blocks, slots, log, window, budget, seed, keep, margin, ghost, run⟩ := c
  change Calls Tryz.prog 32 #[.agg #[.int .i64 blocks, .int .i64 slots, .int .i64 log, .int .i64 window, .int .i64 budget, .int .u64 seed, .float .f64 keep, .float .f64 margin, .float .f64 ghost, .int .i64 run], told] w _
  go_enter Tryz.func32, Tryz.ntmps32
  go_wp2_with fail
  refine (CK.out _).mono ?_
  rintro e w1 ⟨rfl, b1⟩
  have B1 := Lib.hid (((Below.refl w.heap.size w).alloc (Nat.le_refl _) (.cells #[.int .i64 blocks, .int .i64 slots, .int .i64 log, .int .i64 window, .int .i64 budget, .int .u64 seed, .float .f64 keep, .float .f64 margin, .float .f64 ghost, .int .i64 run] 28)).trans (b1.mono (by simp)))
  clear b1
  go_wp2
  go_ret2
  exact ⟨rfl, B1.out⟩

theorem tb_made (c : CF) (nb n wi bu : Nat) (h1 : c.blocks = nb) (h2 : c.slots = n) (h3 : c.window = wi) (h4 : c.budget = bu) {w0 w6 : World} {po pl qu a1 b1 a2 b2 a3 b3 : Nat} {told : Value}
    (G1 : PoO po (pcOf c) pv0 (Iv a1 b1) w6) (G2 : PlO pl nb n 0 pls0 (Iv a2 b2) w6) (G3 : QuO qu wi bu 0 (Iv a3 b3) w6)
    (z0 : w0.heap.size ≤ a1) (z1 : a1 ≤ b1) (z2 : b1 ≤ a2) (z3 : a2 ≤ b2) (z4 : b2 ≤ a3) (z5 : a3 ≤ b3) (z6 : b3 ≤ w6.heap.size)
    (kb : Below w0.heap.size w0 w6) (wf : World) (hwf : wf = (w6.drew.alloc (.cells (madeCells #[.int .i64 0] n) 3)).alloc (.cells #[.pointer (some ⟨po, 0, none⟩), .pointer (some ⟨pl, 0, none⟩), .pointer (some ⟨qu, 0, none⟩), .slice (some ⟨w6.heap.size, 0, none⟩) n n, .int .i64 nb,
      .int .i64 0, .int .i64 0, .int .i64 0, .int .i64 0, .int .i64 0, .int .i64 0, .int .i64 0, .int .i64 0, .int .i64 0, .int .i64 0, .int .i64 0, .int .i64 0, .int .i64 0, .int .i64 0, told] 64)) :
    RuX (w6.heap.size + 1) ⟨po, pl, qu, w6.heap.size⟩ (rcOf c) told rv0 (New w0 wf) wf ∧ Below w0.heap.size w0 wf := by
  have k : Below w6.heap.size w6 wf := by
    rw [hwf]
    have B8 := (Below.refl w6.heap.size w6).drew.alloc (Nat.le_refl _) (.cells (madeCells #[.int .i64 0] n) 3)
    exact B8.alloc B8.size _
  have zf : wf.heap.size = w6.heap.size + 2 := by rw [hwf]; simp [World.size_alloc]
  have L : Cel w6.heap.size 3 n (weF fun _ => 0) (Iv w6.heap.size (w6.heap.size + 1)) wf := by
    refine ⟨⟨Nat.le_refl _, by omega⟩, ?_⟩
    rw [hwf]
    exact (Arr.made w6.drew 3 n (.int .i64 0) _ (by simp [madeCells]) (fun i hi => madeCells_get' _ _ _ hi)).past _
  have e1 : (rcOf c).c.n = n := by show c.slots.toNat = n; omega
  have e2 : (rcOf c).nb = nb := by show c.blocks.toNat = nb; omega
  have e3 : (rcOf c).window = wi := by show c.window.toNat = wi; omega
  have e4 : (rcOf c).most = bu := by show c.budget.toNat = bu; omega
  have T : Cel (w6.heap.size + 1) 64 20 (ruF ⟨po, pl, qu, w6.heap.size⟩ n nb rv0.t told) (Iv (w6.heap.size + 1) (w6.heap.size + 2)) wf := by
    refine ⟨⟨Nat.le_refl _, by omega⟩, ?_⟩
    rw [hwf]
    refine Arr.mk_ (L := 20) (heap_at _ _ _ (by simp)) (by rfl) (fun i (hi : i < 20) => ?_)
    have : i = 0 ∨ i = 1 ∨ i = 2 ∨ i = 3 ∨ i = 4 ∨ i = 5 ∨ i = 6 ∨ i = 7 ∨ i = 8 ∨ i = 9 ∨ i = 10 ∨ i = 11 ∨ i = 12 ∨ i = 13 ∨ i = 14 ∨ i = 15 ∨ i = 16 ∨ i = 17 ∨ i = 18 ∨ i = 19 := by omega
    rcases this with rfl | rfl | rfl | rfl | rfl | rfl | rfl | rfl | rfl | rfl | rfl | rfl | rfl | rfl | rfl | rfl | rfl | rfl | rfl | rfl <;> rfl
  have q4 := Two.iv (Iv.keep G3 z6 k) L (by omega) (fun j x => by have := x.2; omega) (fun j x => by have := x.1; omega)
  have q3 := Two.iv (Iv.keep G2 (by omega) k) q4 (by omega) (fun j x => by rcases x with x | x <;> (have := x.2; omega)) (fun j x => by rcases x with x | x <;> (have := x.1; have := x.2; omega))
  have q2 := Two.iv (Iv.keep G1 (by omega) k) q3 (by omega) (fun j x => by rcases x with x | x | x <;> (have := x.2; omega)) (fun j x => by rcases x with x | x | x <;> (have := x.1; have := x.2; omega))
  have q1 := Two.iv T q2 (by omega) (fun j x => by rcases x with x | x | x | x <;> (have := x.2; omega)) (fun j x => by rcases x with x | x | x | x <;> (have := x.1; have := x.2; omega))
  have q0 := q1.mono (T := New w0 wf) (fun j x => by
    have := kb.size
    show w0.heap.size ≤ j ∧ j < wf.heap.size
    rcases x with x | x | x | x | x <;> (have := x.1; have := x.2; omega))
  refine ⟨?_, kb.trans (k.mono kb.size)⟩
  unfold RuX
  rw [e1, e2, e3, e4]
  exact q0

theorem tb_new (c : CF) (B : CFB c) (hm : c.may = true) (fid : FuncId) (bs : Array Value) (w : World) :
    Calls Tryz.prog 32 #[.agg c.cs, .func (.func fid) #[] bs] w fun e w' => ∃ b q, e = .returned (.tuple #[.pointer (some ⟨b, 0, none⟩), .int .i64 0]) ∧ RuX b q (rcOf c) (.func (.func fid) #[] bs) rv0 (New w w') w' ∧ Below w.heap.size w w' := by
  have bd := may_all hm
  have CK := Lib.hid (fun W => by have := check_any c W; rw [hm] at this; exact this)
  have NP := Lib.hid (fun W => po_new c B hm W)
  have BN := Lib.hid (bx_new w c)
  have MD := Lib.hid (fun nb n wi bu h1 h2 h3 h4 (w6 : World) (po pl qu a1 b1 a2 b2 a3 b3 : Nat) => @tb_made c nb n wi bu h1 h2 h3 h4 w w6 po pl qu a1 b1 a2 b2 a3 b3 (.func (.func fid) #[] bs))
  generalize rcOf c = rc at *
  generalize hpc : pcOf c = pc at *
  obtain ⟨nb, h1⟩ : ∃ n : Nat, c.blocks = n := ⟨c.blocks.toNat, by omega⟩
  obtain ⟨n, h2⟩ : ∃ n : Nat, c.slots = n := ⟨c.slots.toNat, by omega⟩
  obtain ⟨wi, h3⟩ : ∃ n : Nat, c.window = n := ⟨c.window.toNat, by omega⟩
  obtain ⟨bu, h4⟩ : ∃ n : Nat, c.budget = n := ⟨c.budget.toNat, by omega⟩
  obtain ⟨blocks, slots, log, window, budget, seed, keep, margin, ghost, run⟩ := c
  simp only at h1 h2 h3 h4 bd
  subst h1 h2 h3 h4
  have NL := Lib.hid (fun W => pl_new W nb n (by omega) (by omega))
  have NQ := Lib.hid (fun W => qu_new W wi bu (by omega) (by omega) (by omega))
  have MK := mk_ints n (by omega)
  have NP := Lib.hid (fun W => show Calls Tryz.prog 43 #[.agg #[.int .i64 (nb : Int), .int .i64 (n : Int), .int .i64 log, .int .i64 (wi : Int), .int .i64 (bu : Int), .int .u64 seed, .float .f64 keep, .float .f64 margin, .float .f64 ghost, .int .i64 run]] W (fun e w' => ∃ b, e = .returned (.tuple #[.pointer (some ⟨b, 0, none⟩), .int .i64 0]) ∧ PoO b pc pv0 (New W w') w' ∧ Below W.heap.size W w') from NP.out W)
  clear bd B hm hpc
  change Calls Tryz.prog 32 #[.agg #[.int .i64 (nb : Int), .int .i64 (n : Int), .int .i64 log, .int .i64 (wi : Int), .int .i64 (bu : Int), .int .u64 seed, .float .f64 keep, .float .f64 margin, .float .f64 ghost, .int .i64 run], .func (.func fid) #[] bs] w _
  go_enter Tryz.func32, Tryz.ntmps32
  go_wp2_with fail
  refine (CK.out _).mono ?_
  rintro e w1 ⟨rfl, b1⟩
  have B1 := Lib.hid (((Below.refl w.heap.size w).alloc (Nat.le_refl _) (.cells #[.int .i64 (nb : Int), .int .i64 (n : Int), .int .i64 log, .int .i64 (wi : Int), .int .i64 (bu : Int), .int .u64 seed, .float .f64 keep, .float .f64 margin, .float .f64 ghost, .int .i64 run] 28)).trans (b1.mono (by simp)))
  have BX1 := Lib.hid (BN.out.below b1 (by simp))
  have bx1 : w.heap.size < w1.heap.size := by have := b1.size; simp at this; omega
  obtain ⟨c0, c1, c2, c3, c4, c5, c6, c7, c8, c9⟩ := BX1.out
  clear b1
  go_wp2_with fail
  refine (NP.out _).mono ?_
  rintro e w2 ⟨po, rfl, g2, b2⟩
  have G2 := Lib.hid (show PoO po pc pv0 (Iv w1.heap.size w2.heap.size) w2 from g2)
  have Z2 := Lib.hid b2.size
  have B2 := Lib.hid (B1.out.trans (b2.mono B1.out.size))
  have BX2 := Lib.hid (BX1.out.below b2 bx1)
  have bx2 := Nat.lt_of_lt_of_le bx1 b2.size
  clear g2 b2 c0 c1 c2 c3 c4 c5 c6 c7 c8 c9
  obtain ⟨c0, c1, c2, c3, c4, c5, c6, c7, c8, c9⟩ := BX2.out
  go_wp2_with fail
  refine (NL.out _).mono ?_
  rintro e w3 ⟨pl, rfl, g3, b3⟩
  have G3 := Lib.hid (show PlO pl nb n 0 pls0 (Iv w2.heap.size w3.heap.size) w3 from g3)
  have G2 := Lib.hid (Iv.keep G2.out (Nat.le_refl _) b3)
  have Z3 := Lib.hid b3.size
  have B3 := Lib.hid (B2.out.trans (b3.mono B2.out.size))
  have BX3 := Lib.hid (BX2.out.below b3 bx2)
  have bx3 := Nat.lt_of_lt_of_le bx2 b3.size
  clear g3 b3 c0 c1 c2 c3 c4 c5 c6 c7 c8 c9
  obtain ⟨c0, c1, c2, c3, c4, c5, c6, c7, c8, c9⟩ := BX3.out
  go_wp2_with fail
  refine (NQ.out _).mono ?_
  rintro e w4 ⟨qu, rfl, g4, b4⟩
  have G4 := Lib.hid (show QuO qu wi bu 0 (Iv w3.heap.size w4.heap.size) w4 from g4)
  have G3 := Lib.hid (Iv.keep G3.out (Nat.le_refl _) b4)
  have G2 := Lib.hid (Iv.keep G2.out Z3.out b4)
  have Z4 := Lib.hid b4.size
  have B4 := Lib.hid (B3.out.trans (b4.mono B3.out.size))
  have BX4 := Lib.hid (BX3.out.below b4 bx3)
  have bx4 := Nat.lt_of_lt_of_le bx3 b4.size
  have BXM := Lib.hid (fun W (k : Below w4.heap.size w4 W) => show W.cell? ⟨w.heap.size, 0, none⟩ = some (.int .i64 (nb : Int)) ∧ W.cell? ⟨w.heap.size, 1, none⟩ = some (.int .i64 (n : Int)) from ⟨(BX4.out.below k bx4).1, (BX4.out.below k bx4).2.1⟩)
  clear g4 b4 c0 c1 c2 c3 c4 c5 c6 c7 c8 c9
  obtain ⟨c0, c1, c2, c3, c4, c5, c6, c7, c8, c9⟩ := BX4.out
  clear c2 c3 c4 c5 c6 c7 c8 c9
  have B7 := (Below.refl w4.heap.size w4).drew
  have B8 := B7.alloc B7.size (.cells (madeCells #[.int .i64 0] n) 3)
  have B9 := fun o => B8.alloc B8.size o
  go_wp2_with fail
  go_region_held_law (fun W => W.cell? ⟨w.heap.size, 0, none⟩ = some (.int .i64 (nb : Int)) ∧ W.cell? ⟨w.heap.size, 1, none⟩ = some (.int .i64 (n : Int))) (first | exact BXM.out _ B7 | exact BXM.out _ B8 | exact BXM.out _ (B9 _)) (fail)
  all_goals (
    go_wp2
    go_ret2
    have FN := MD.out nb n wi bu rfl rfl rfl rfl _ _ _ _ _ _ _ _ _ _ G2.out G3.out G4.out B1.out.size Z2.out (Nat.le_refl _) Z3.out (Nat.le_refl _) Z4.out (Nat.le_refl _) B4.out _ rfl
    refine ⟨w4.heap.size + 1, _, ?_, FN.1, FN.2⟩
    simp)
end Go.Proofs.YtbgknopjgohocaaGreat
