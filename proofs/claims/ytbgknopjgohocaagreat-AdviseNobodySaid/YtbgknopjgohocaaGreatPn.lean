/- The program's policy: New. -/
import Derived.Test.YtbgknopjgohocaaGreatPc
import Derived.Test.YtbgknopjgohocaaGreatPw
namespace Go.Proofs.YtbgknopjgohocaaGreat
open Go.RowKit Fl
open Scan hiding isN
set_option linter.unusedVariables false
set_option maxRecDepth 100000
set_option maxHeartbeats 4000000

def divG (g : Nat) : Nat := (opC .quo (cn g) (cn 4616189618054758400)).getD 9221120237041090560
def pcOf (c : CF) : PC where
  n := c.slots.toNat
  most := (shareI c.slots (keepF c.keep)).toNat
  width := max (8 * c.slots.toNat) 16
  sample := 10 * c.slots.toNat
  cap := (shareI (4 * c.slots) (divG c.ghost)).toNat
  seed := c.seed
  long := c.run
  margin := c.margin
def pv0 : PV := ⟨[], [], fun _ => 0, newT, [], 0, [], 0, false⟩
theorem pb0 : PB pv0 where
  lb := fun _ => ⟨by show (-9223372036854775808 : Int) ≤ 0; decide, by show (0 : Int) ≤ 9223372036854775807; decide⟩
  rd := fun x hx => by cases hx
  s0 := Int.le_refl _
  cnt := Int.le_refl _
  N := by decide
theorem cn_some {r x : Nat} (h : cn r = some x) : r = x ∧ isN r = false := by
  unfold cn at h
  cases hn : isN r <;> rw [hn] at h <;> simp at h
  exact ⟨h, rfl⟩
theorem cn_none {r : Nat} (h : cn r = none) : isN r = true := by
  unfold cn at h
  cases hn : isN r
  · rw [hn] at h; simp at h
  · rfl
theorem share_div (m : Int) (g r : Nat) (h : cn r = opC .quo (cn g) (cn 4616189618054758400)) : shareI m r = shareI m (divG g) := by
  unfold divG
  rw [← h]
  cases hr : cn r with
  | some x => rw [(cn_some hr).1]; rfl
  | none =>
    have h1 : fixB r 0 4607182418800017408 0 = 0 := by unfold fixB; rw [if_pos (cn_none hr)]
    have h2 : fixB 9221120237041090560 0 4607182418800017408 0 = 0 := by decide
    unfold shareI
    rw [h1]
    show _ = ((shareN _ (fixB 9221120237041090560 0 4607182418800017408 0) : Nat) : Int)
    rw [h2]
theorem divG_lt (w : World) (g : Nat) : divG g < 18446744073709551616 := by
  obtain ⟨r, m, -, h1, h2⟩ := run_arith (P := Tryz.prog) .quo (by simp) g 4616189618054758400 w
  unfold divG
  rw [← h2]
  cases hr : cn r with
  | some x => rw [← (cn_some hr).1]; exact h1
  | none => decide
theorem may_bd {c : CF} (h : c.may = true) : 1 ≤ c.slots ∧ c.slots ≤ 192 ∧ 0 ≤ c.run ∧ c.run ≤ 1048576 := by
  unfold CF.may at h
  simp only [Bool.and_eq_true, inB_iff] at h
  omega
theorem pcOk (w : World) {c : CF} (B : CFB c) (h : c.may = true) : PK (pcOf c) := by
  have b := may_bd h
  have s1 := shareI_bd c.slots (keepF c.keep) (keepF_lt B.k)
  have s2 := shareI_bd (4 * c.slots) (divG c.ghost) (divG_lt w _)
  exact {
    n0 := by show 1 ≤ c.slots.toNat; omega
    n1 := by show c.slots.toNat ≤ 192; omega
    mn := by show (shareI c.slots (keepF c.keep)).toNat ≤ c.slots.toNat; omega
    w0 := by show 1 ≤ max (8 * c.slots.toNat) 16; omega
    w1 := by show max (8 * c.slots.toNat) 16 ≤ 4096; omega
    m0 := by show 1 ≤ 10 * c.slots.toNat; omega
    m1 := by show 10 * c.slots.toNat ≤ 1048576; omega
    cap := by show (shareI (4 * c.slots) (divG c.ghost)).toNat ≤ 1024; omega
    s0 := B.s0
    s1 := B.s1
    l0 := b.2.2.1
    l1 := b.2.2.2
    mg := B.m }

/-- Settings in a box. -/
def BX (w : World) (b : Nat) (c : CF) : Prop :=
  w.cell? ⟨b, 0, none⟩ = some (.int .i64 c.blocks) ∧ w.cell? ⟨b, 1, none⟩ = some (.int .i64 c.slots) ∧ w.cell? ⟨b, 2, none⟩ = some (.int .i64 c.log) ∧ w.cell? ⟨b, 3, none⟩ = some (.int .i64 c.window) ∧ w.cell? ⟨b, 4, none⟩ = some (.int .i64 c.budget) ∧
  w.cell? ⟨b, 5, none⟩ = some (.int .u64 c.seed) ∧ w.cell? ⟨b, 6, none⟩ = some (.float .f64 c.keep) ∧ w.cell? ⟨b, 7, none⟩ = some (.float .f64 c.margin) ∧ w.cell? ⟨b, 8, none⟩ = some (.float .f64 c.ghost) ∧ w.cell? ⟨b, 9, none⟩ = some (.int .i64 c.run)
theorem bx_new (w : World) (c : CF) : BX (w.alloc (.cells c.cs 28)) w.heap.size c := by
  have h := heap_at w (.cells c.cs 28) w.heap.size rfl
  refine ⟨?_, ?_, ?_, ?_, ?_, ?_, ?_, ?_, ?_, ?_⟩ <;> (rw [blk_cell' h]; rfl)
theorem BX.below {w w' : World} {b : Nat} {c : CF} (h : BX w b c) (k : Below w.heap.size w w') (hb : b < w.heap.size) : BX w' b c := by
  obtain ⟨h0, h1, h2, h3, h4, h5, h6, h7, h8, h9⟩ := h
  exact ⟨(k.cell (p := ⟨b, 0, none⟩) hb).trans h0, (k.cell (p := ⟨b, 1, none⟩) hb).trans h1, (k.cell (p := ⟨b, 2, none⟩) hb).trans h2, (k.cell (p := ⟨b, 3, none⟩) hb).trans h3, (k.cell (p := ⟨b, 4, none⟩) hb).trans h4,
    (k.cell (p := ⟨b, 5, none⟩) hb).trans h5, (k.cell (p := ⟨b, 6, none⟩) hb).trans h6, (k.cell (p := ⟨b, 7, none⟩) hb).trans h7, (k.cell (p := ⟨b, 8, none⟩) hb).trans h8, (k.cell (p := ⟨b, 9, none⟩) hb).trans h9⟩

theorem po_new_no (c : CF) (hm : c.may = false) (w : World) :
    Calls Tryz.prog 43 #[.agg c.cs] w fun e w' => e = .returned (.tuple #[.pointer none, .int .i64 100]) ∧ Below w.heap.size w w' := by
  have CK := Lib.hid (fun W => by have := check_any c W; rw [hm] at this; exact this)
  clear hm
  obtain ⟨blocks, slots, log, window, budget, seed, keep, margin, ghost, run⟩ := c
  change Calls Tryz.prog 43 #[.agg #[.int .i64 blocks, .int .i64 slots, .int .i64 log, .int .i64 window, .int .i64 budget, .int .u64 seed, .float .f64 keep, .float .f64 margin, .float .f64 ghost, .int .i64 run]] w _
  go_enter Tryz.func43, Tryz.ntmps43
  go_wp2_with fail
  refine (CK.out _).mono ?_
  rintro e w1 ⟨rfl, b1⟩
  have B1 := Lib.hid (((Below.refl w.heap.size w).alloc (Nat.le_refl _) (.cells #[.int .i64 blocks, .int .i64 slots, .int .i64 log, .int .i64 window, .int .i64 budget, .int .u64 seed, .float .f64 keep, .float .f64 margin, .float .f64 ghost, .int .i64 run] 28)).trans (b1.mono (by simp)))
  clear b1
  go_wp2
  go_ret2
  exact ⟨rfl, B1.out⟩

/-- What lies from a to b. -/
def Iv (a b : Nat) : Nat → Prop := fun k => a ≤ k ∧ k < b
theorem Two.iv {R Q : (Nat → Prop) → World → Prop} {w : World} {a b : Nat} {B : Nat → Prop} (r : R (Iv a b) w) (q : Q B w) (hb : b ≤ w.heap.size) (oB : Own B w) (hB : ∀ k, B k → b ≤ k ∨ k < a) : Two R Q (fun k => Iv a b k ∨ B k) w :=
  ⟨Iv a b, B, fun k x => .inl x, fun k x => .inr x, fun k x => Nat.lt_of_lt_of_le x.2 hb, oB, fun k x y => (hB k y).elim (fun h => Nat.not_le.2 x.2 h) (fun h => Nat.not_lt.2 x.1 h), r, q⟩
theorem Iv.keep {R : (Nat → Prop) → World → Prop} [Rep R] {w w' : World} {a b : Nat} (r : R (Iv a b) w) (hb : b ≤ w.heap.size) (k : Below w.heap.size w w') : R (Iv a b) w' :=
  Rep.keep r (fun j x => Nat.lt_of_lt_of_le x.2 hb) (Keeps.of_below k) (fun j x => Nat.not_le.2 (Nat.lt_of_lt_of_le x.2 hb))

theorem po_made (c : CF) (B : CFB c) (hm : c.may = true) (n : Nat) (hn : c.slots = n) {w0 w6 : World} {so tf gh wa a1 b1 a2 b2 a3 b3 a4 b4 : Nat}
    (G2 : TiO tf c.seed (max (8 * n) 16) (10 * n) newT (Iv a1 b1) w6) (G4 : SlO so n (shareI n (keepF c.keep)).toNat [] [] (Iv a2 b2) w6) (G5 : GhO gh (shareI (4 * n) (divG c.ghost)).toNat [] 0 (Iv a3 b3) w6) (G6 : WatchAt (Iv a4 b4) w6 wa ⟨c.run, none, 0, 0⟩)
    (z0 : w0.heap.size ≤ a1) (z1 : a1 ≤ b1) (z2 : b1 ≤ a2) (z3 : a2 ≤ b2) (z4 : b2 ≤ a3) (z5 : a3 ≤ b3) (z6 : b3 ≤ a4) (z7 : a4 ≤ b4) (z8 : b4 ≤ w6.heap.size)
    (kb : Below w0.heap.size w0 w6) (wf : World) (hwf : wf = (w6.drew.alloc (.cells (madeCells #[.int .i64 0] n) 3)).alloc (.cells #[.pointer (some ⟨so, 0, none⟩), .slice (some ⟨w6.heap.size, 0, none⟩) n n, .pointer (some ⟨tf, 0, none⟩), .pointer (some ⟨gh, 0, none⟩), .pointer (some ⟨wa, 0, none⟩), .float .f64 c.margin, .bool false] 114)) :
    PoO (w6.heap.size + 1) (pcOf c) pv0 (New w0 wf) wf ∧ Below w0.heap.size w0 wf := by
  have k : Below w6.heap.size w6 wf := by
    rw [hwf]
    have B8 := (Below.refl w6.heap.size w6).drew.alloc (Nat.le_refl _) (.cells (madeCells #[.int .i64 0] n) 3)
    exact B8.alloc B8.size _
  have zf : wf.heap.size = w6.heap.size + 2 := by rw [hwf]; simp [World.size_alloc]
  have L : Cel w6.heap.size 3 n (lbF fun _ => 0) (Iv w6.heap.size (w6.heap.size + 1)) wf := by
    refine ⟨⟨Nat.le_refl _, by omega⟩, ?_⟩
    rw [hwf]
    exact (Arr.made w6.drew 3 n (.int .i64 0) _ (by simp [madeCells]) (fun i hi => madeCells_get' _ _ _ hi)).past _
  have T : Cel (w6.heap.size + 1) 114 7 (poF (pcOf c) ⟨so, w6.heap.size, tf, gh, wa⟩ false) (Iv (w6.heap.size + 1) (w6.heap.size + 2)) wf := by
    refine ⟨⟨Nat.le_refl _, by omega⟩, ?_⟩
    rw [hwf]
    refine Arr.mk_ (L := 7) (heap_at _ _ _ (by simp)) (by rfl) (fun i (hi : i < 7) => ?_)
    have hn' : (pcOf c).n = n := by show c.slots.toNat = n; omega
    have : i = 0 ∨ i = 1 ∨ i = 2 ∨ i = 3 ∨ i = 4 ∨ i = 5 ∨ i = 6 := by omega
    rcases this with rfl | rfl | rfl | rfl | rfl | rfl | rfl
    · rfl
    · show some (Value.slice _ n n) = some (Value.slice _ (pcOf c).n (pcOf c).n); rw [hn']
    all_goals rfl
  have q5 := Two.iv (R := GhO gh (shareI (4 * n) (divG c.ghost)).toNat [] 0) (Q := WaO wa ⟨c.run, none, 0, 0⟩) (Iv.keep G5 (by omega) k) (Iv.keep (R := WaO wa ⟨c.run, none, 0, 0⟩) G6 z8 k) (by omega) (fun j x => by have := x.2; omega) (fun j x => by have := x.1; omega)
  have q4 := Two.iv (Iv.keep G2 (by omega) k) q5 (by omega) (fun j x => by rcases x with x | x <;> (have := x.2; omega)) (fun j x => by rcases x with x | x <;> (have := x.1; have := x.2; omega))
  have q3 := Two.iv (Iv.keep G4 (by omega) k) q4 (by omega) (fun j x => by rcases x with x | x | x <;> (have := x.2; omega)) (fun j x => by rcases x with x | x | x <;> (have := x.1; have := x.2; omega))
  have q2 := Two.iv L q3 (by omega) (fun j x => by rcases x with x | x | x | x <;> (have := x.2; omega)) (fun j x => by rcases x with x | x | x | x <;> (have := x.1; have := x.2; omega))
  have q1 := Two.iv T q2 (by omega) (fun j x => by rcases x with x | x | x | x | x <;> (have := x.2; omega)) (fun j x => by rcases x with x | x | x | x | x <;> (have := x.1; have := x.2; omega))
  have q0 := q1.mono (T := New w0 wf) (fun j x => by
    have := kb.size
    show w0.heap.size ≤ j ∧ j < wf.heap.size
    rcases x with x | x | x | x | x | x <;> (have := x.1; have := x.2; omega))
  refine ⟨⟨⟨⟨so, w6.heap.size, tf, gh, wa⟩, ?_⟩, pcOk w0 B hm, pb0⟩, kb.trans (k.mono kb.size)⟩
  have hn' : (pcOf c).n = n := by show c.slots.toNat = n; omega
  have h2 : (pcOf c).width = max (8 * n) 16 := by show max (8 * c.slots.toNat) 16 = _; rw [show c.slots.toNat = n by omega]
  have h3 : (pcOf c).sample = 10 * n := by show 10 * c.slots.toNat = _; rw [show c.slots.toNat = n by omega]
  have h4 : (pcOf c).most = (shareI n (keepF c.keep)).toNat := by show (shareI c.slots _).toNat = _; rw [hn]
  have h5 : (pcOf c).cap = (shareI (4 * n) (divG c.ghost)).toNat := by show (shareI (4 * c.slots) _).toNat = _; rw [hn]
  show PoX _ _ _ false (fun _ => 0) [] [] newT [] 0 _ _ _
  unfold PoX
  rw [hn', h2, h3, h4, h5]
  exact q0

theorem po_new (c : CF) (B : CFB c) (hm : c.may = true) (w : World) :
    Calls Tryz.prog 43 #[.agg c.cs] w fun e w' => ∃ b, e = .returned (.tuple #[.pointer (some ⟨b, 0, none⟩), .int .i64 0]) ∧ PoO b (pcOf c) pv0 (New w w') w' ∧ Below w.heap.size w w' := by
  have HPK := Lib.hid (pcOk w B hm)
  have HB := Lib.hid B
  have HMM := Lib.hid hm
  have bd := may_bd hm
  have CK := Lib.hid (fun W => by have := check_any c W; rw [hm] at this; exact this)
  have BN := Lib.hid (bx_new w c)
  obtain ⟨n, hn⟩ : ∃ n : Nat, c.slots = n := ⟨c.slots.toNat, by omega⟩
  obtain ⟨blocks, slots, log, window, budget, seed, keep, margin, ghost, run⟩ := c
  simp only at hn bd
  subst hn
  have n1 : (1 : Int) ≤ n := by omega
  have n2 : (n : Int) ≤ 192 := by omega
  clear bd B hm
  change Calls Tryz.prog 43 #[.agg #[.int .i64 blocks, .int .i64 n, .int .i64 log, .int .i64 window, .int .i64 budget, .int .u64 seed, .float .f64 keep, .float .f64 margin, .float .f64 ghost, .int .i64 run]] w _
  go_enter Tryz.func43, Tryz.ntmps43
  go_wp2_with fail
  refine (CK.out _).mono ?_
  rintro e w1 ⟨rfl, b1⟩
  have B1 := Lib.hid (((Below.refl w.heap.size w).alloc (Nat.le_refl _) (.cells #[.int .i64 blocks, .int .i64 n, .int .i64 log, .int .i64 window, .int .i64 budget, .int .u64 seed, .float .f64 keep, .float .f64 margin, .float .f64 ghost, .int .i64 run] 28)).trans (b1.mono (by simp)))
  have BX1 := Lib.hid (BN.out.below b1 (by simp))
  have bx1 : w.heap.size < w1.heap.size := by have := b1.size; simp at this; omega
  obtain ⟨c0, c1, c2, c3, c4, c5, c6, c7, c8, c9⟩ := BX1.out
  have TN := Lib.hid (fun W (x : Int) (hx : x = (max (8 * n) 16 : Nat)) => show Calls Tryz.prog 54 #[.int .i64 x, .int .i64 (10 * (n : Int)), .int .u64 seed] W (fun e w' => ∃ b, e = .returned (.tuple #[.pointer (some ⟨b, 0, none⟩), .int .i64 0]) ∧ TiO b seed (max (8 * n) 16) (10 * n) newT (New W w') w' ∧ Below W.heap.size W w') from by
    have := ti_new W (max (8 * n) 16) (10 * n) seed (by omega) (by omega) (by omega) (by omega) HB.out.s0 HB.out.s1
    rw [hx, show (10 * (n : Int)) = ((10 * n : Nat) : Int) by omega]
    exact this)
  clear b1 c0 c2 c3 c4 c6 c7 c8 c9
  go_wp2_with fail
  all_goals (
    first | (with_reducible refine (TN.out _ 16 (by omega)).mono ?_) | (with_reducible refine (TN.out _ (8 * (n : Int)) (by omega)).mono ?_)
    rintro e w2 ⟨tf, rfl, g2, b2⟩
    have G2 := Lib.hid (show TiO tf seed (max (8 * n) 16) (10 * n) newT (Iv w1.heap.size w2.heap.size) w2 from g2)
    have B2 := Lib.hid (B1.out.trans (b2.mono B1.out.size))
    have Z2 := Lib.hid b2.size
    have BX2 := Lib.hid (BX1.out.below b2 bx1)
    have bx2 := Nat.lt_of_lt_of_le bx1 b2.size
    have BXL := Lib.hid (fun W (k : Below w2.heap.size w2 W) => show W.cell? ⟨w.heap.size, 0, none⟩ = some (.int .i64 blocks) ∧ W.cell? ⟨w.heap.size, 1, none⟩ = some (.int .i64 (n : Int)) ∧ W.cell? ⟨w.heap.size, 2, none⟩ = some (.int .i64 log) ∧ W.cell? ⟨w.heap.size, 3, none⟩ = some (.int .i64 window) ∧ W.cell? ⟨w.heap.size, 4, none⟩ = some (.int .i64 budget) ∧ W.cell? ⟨w.heap.size, 5, none⟩ = some (.int .u64 seed) ∧ W.cell? ⟨w.heap.size, 6, none⟩ = some (.float .f64 keep) ∧ W.cell? ⟨w.heap.size, 7, none⟩ = some (.float .f64 margin) ∧ W.cell? ⟨w.heap.size, 8, none⟩ = some (.float .f64 ghost) ∧ W.cell? ⟨w.heap.size, 9, none⟩ = some (.int .i64 run) from BX2.out.below k bx2)
    have B0 := (Below.refl w2.heap.size w2).drew
    have KP := Lib.hid (fun W => show Calls Tryz.prog 56 #[.agg #[.int .i64 blocks, .int .i64 n, .int .i64 log, .int .i64 window, .int .i64 budget, .int .u64 seed, .float .f64 keep, .float .f64 margin, .float .f64 ghost, .int .i64 run]] W (fun e w' => e = .returned (.float .f64 (keepF keep)) ∧ Below W.heap.size W w') from keep_any ⟨blocks, n, log, window, budget, seed, keep, margin, ghost, run⟩ HB.out.k W)
    have SN := Lib.hid (fun W => sl_new W n (keepF keep) (by omega) (keepF_lt HB.out.k) (shareI n (keepF keep)).toNat (by have := shareI_bd n (keepF keep) (keepF_lt HB.out.k); omega))
    obtain ⟨c0, c1, c2, c3, c4, c5, c6, c7, c8, c9⟩ := BX2.out
    clear g2 b2
    go_wp2_with fail
    go_region_held_law (fun W => W.cell? ⟨w.heap.size, 0, none⟩ = some (.int .i64 blocks) ∧ W.cell? ⟨w.heap.size, 1, none⟩ = some (.int .i64 (n : Int)) ∧ W.cell? ⟨w.heap.size, 2, none⟩ = some (.int .i64 log) ∧ W.cell? ⟨w.heap.size, 3, none⟩ = some (.int .i64 window) ∧ W.cell? ⟨w.heap.size, 4, none⟩ = some (.int .i64 budget) ∧ W.cell? ⟨w.heap.size, 5, none⟩ = some (.int .u64 seed) ∧ W.cell? ⟨w.heap.size, 6, none⟩ = some (.float .f64 keep) ∧ W.cell? ⟨w.heap.size, 7, none⟩ = some (.float .f64 margin) ∧ W.cell? ⟨w.heap.size, 8, none⟩ = some (.float .f64 ghost) ∧ W.cell? ⟨w.heap.size, 9, none⟩ = some (.int .i64 run)) (first | exact BXL.out _ B0 | exact BXL.out _ b3' | exact BXL.out _ b4') (first
      | (go_at_call 56; (with_reducible refine (KP.out _).mono ?_); rintro e w3 ⟨rfl, b3⟩; have b3' := B0.trans b3)
      | (go_at_call 55; (with_reducible refine (SN.out _).mono ?_); rintro e w4 ⟨so, rfl, g4, b4⟩; have b4' := b3'.trans (b4.mono b3'.size)))
    all_goals (
      have G4 := Lib.hid (show SlO so n (shareI n (keepF keep)).toNat [] [] (Iv w3.heap.size w4.heap.size) w4 from g4)
      have G2 := Lib.hid (Iv.keep G2.out (Nat.le_refl _) b4')
      have B4 := Lib.hid (B2.out.trans (b4'.mono B2.out.size))
      have Z4 := Lib.hid (And.intro b3'.size b4.size)
      have bx4 := Nat.lt_of_lt_of_le bx2 b4'.size
      have BX4 := Lib.hid (BX2.out.below b4' bx2)
      obtain ⟨r, m, HR, hr, hcr⟩ := run_arith (P := Tryz.prog) .quo (by simp) ghost 4616189618054758400 w4
      have SD := Lib.hid (share_div (4 * n) ghost r hcr)
      have SH := Lib.hid (fun W => share_any (4 * n) r hr W)
      have GN := Lib.hid (fun W => show Calls Tryz.prog 57 #[.int .i64 (shareI (4 * n) r)] W (fun e w' => ∃ b, e = .returned (.tuple #[.pointer (some ⟨b, 0, none⟩), .int .i64 0]) ∧ GhO b (shareI (4 * n) (divG ghost)).toNat [] 0 (New W w') w' ∧ Below W.heap.size W w') from by
        have sb := shareI_bd (4 * n) (divG ghost) (divG_lt w ghost)
        have := gh_new W (shareI (4 * n) (divG ghost)).toNat (by omega)
        rw [SD.out, show shareI (4 * n) (divG ghost) = ((shareI (4 * n) (divG ghost)).toNat : Int) by omega]
        exact this)
      have RB := Lib.hid (may_bd HMM.out)
      obtain ⟨c0', c1', c2', c3', c4', c5', c6', c7', c8', c9'⟩ := BX4.out
      clear g4 b4 b4' b3 b3' c0 c1 c2 c3 c4 c5 c6 c7 c8 c9 c0' c2' c3' c4' c5' c6' c7' c9' hr hcr
      go_wp2_with fail
      refine (SH.out _).mono ?_
      rintro e w' ⟨rfl, rfl⟩
      go_wp2_with fail
      refine (GN.out _).mono ?_
      rintro e w5 ⟨gh, rfl, g5, b5⟩
      have b5' := ((Below.refl w4.heap.size w4).trans (below_drewN (Below.refl _ w4) m)).trans b5
      have G5 := Lib.hid (show GhO gh (shareI (4 * n) (divG ghost)).toNat [] 0 (Iv w4.heap.size w5.heap.size) w5 from g5)
      have G4 := Lib.hid (Iv.keep G4.out (Nat.le_refl _) b5')
      have G2 := Lib.hid (Iv.keep G2.out (Nat.le_trans Z4.out.1 Z4.out.2) b5')
      have B5 := Lib.hid (B4.out.trans (b5'.mono B4.out.size))
      have bx5 := Nat.lt_of_lt_of_le bx4 b5'.size
      have BX5 := Lib.hid (BX4.out.below b5' bx4)
      have Z5 := Lib.hid b5'.size
      obtain ⟨c0, c1, c2, c3, c4, c5, c6, c7, c8, c9⟩ := BX5.out
      clear g5 b5 b5' HR c1' c8' c0 c2 c3 c4 c5 c6 c7 c8
      have SNW := Lib.hid (fun W => sNew_yes run W RB.out.2.2.1 RB.out.2.2.2)
      go_wp2_with fail
      refine (SNW.out _).mono ?_
      rintro e w6 ⟨rfl, hw6⟩
      have b6 := (Below.refl w5.heap.size w5).alloc (Nat.le_refl _) (.cells #[.bool true, .int .i64 run, .pointer none, .int .i64 0, .int .i64 0] 152)
      have g6 := watch_new (Iv w5.heap.size w6.heap.size) w5 run (by rw [← hw6]; exact ⟨Nat.le_refl _, by simp⟩)
      rw [hw6] at b6 g6
      have G6 := Lib.hid g6
      have G5 := Lib.hid (Iv.keep G5.out (Nat.le_refl _) b6)
      have G4 := Lib.hid (Iv.keep G4.out Z5.out b6)
      have G2 := Lib.hid (Iv.keep G2.out (Nat.le_trans (Nat.le_trans Z4.out.1 Z4.out.2) Z5.out) b6)
      have B6 := Lib.hid (B5.out.trans (b6.mono B5.out.size))
      have BX6 := Lib.hid (BX5.out.below b6 bx5)
      have bx6 := Nat.lt_of_lt_of_le bx5 b6.size
      have Z6 := Lib.hid b6.size
      have MK := mk_ints n (by omega)
      have BXM := Lib.hid (fun W (k : Below w6.heap.size w6 W) => show W.cell? ⟨w.heap.size, 1, none⟩ = some (.int .i64 (n : Int)) ∧ W.cell? ⟨w.heap.size, 7, none⟩ = some (.float .f64 margin) from ⟨(BX6.out.below k bx6).2.1, (BX6.out.below k bx6).2.2.2.2.2.2.2.1⟩)
      obtain ⟨c0, c1, c2, c3, c4, c5, c6, c7, c8, c9⟩ := BX6.out
      clear b6 g6 hw6 c0 c2 c3 c4 c5 c6 c8 c9
      have B7 := (Below.refl w6.heap.size w6).drew
      have B8 := B7.alloc B7.size (.cells (madeCells #[.int .i64 0] n) 3)
      have B9 := fun o => B8.alloc B8.size o
      go_wp2_with fail
      go_region_held_law (fun W => W.cell? ⟨w.heap.size, 1, none⟩ = some (.int .i64 (n : Int)) ∧ W.cell? ⟨w.heap.size, 7, none⟩ = some (.float .f64 margin)) (first | exact BXM.out _ B7 | exact BXM.out _ B8 | exact BXM.out _ (B9 _)) (fail)
      all_goals (
        go_wp2
        go_ret2
        have FN := po_made ⟨blocks, n, log, window, budget, seed, keep, margin, ghost, run⟩ HB.out HMM.out n rfl G2.out G4.out G5.out G6.out (w0 := w) B1.out.size Z2.out Z4.out.1 Z4.out.2 (Nat.le_refl _) Z5.out (Nat.le_refl _) Z6.out (Nat.le_refl _) B6.out _ rfl
        refine ⟨w6.heap.size + 1, ?_, FN.1, FN.2⟩
        simp)))
end Go.Proofs.YtbgknopjgohocaaGreat
