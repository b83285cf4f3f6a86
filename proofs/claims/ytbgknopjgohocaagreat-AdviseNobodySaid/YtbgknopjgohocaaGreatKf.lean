/- The rate of what was counted. -/
import Derived.Test.YtbgknopjgohocaaGreatKe
import Derived.Test.YtbgknopjgohocaaGreatRat
import Derived.Test.YtbgknopjgohocaaGreatUj
namespace Go.Proofs.YtbgknopjgohocaaGreat
open Go.RowKit Fl
open Scan hiding isN
set_option linter.unusedVariables false
set_option maxRecDepth 100000
set_option maxHeartbeats 2000000

theorem cAdd_small (a b : Nat) (ha : a ≤ 1000000000) (hb : b ≤ 1000000000) (w : World) :
    Calls Tryz.prog 72 #[.int .i64 (a : Int), .int .i64 (b : Int)] w fun e w' => e = .returned (.int .i64 ((a + b : Nat) : Int)) ∧ w = w' := by
  have h1 : (a : Int) ≤ 1000000000 := by omega
  have h2 : (b : Int) ≤ 1000000000 := by omega
  have d1 : decide ((b : Int) < 0) = false := decide_eq_false (by omega)
  have d2 : decide ((9223372036854775807 : Int) - (b : Int) < (a : Int)) = false := decide_eq_false (by omega)
  have q1 : IntKind.i64.wrap (9223372036854775807 - (b : Int)) = 9223372036854775807 - (b : Int) := IntWalk.i64_in _ (by omega)
  by_cases hb0 : (0 : Int) < (b : Int)
  · have d3 : decide ((0 : Int) < (b : Int)) = true := decide_eq_true hb0
    clear ha hb hb0
    go_enter Tryz.func72, Tryz.ntmps72
    go_wp2
    all_goals (
      go_ret
      exact ⟨by simp, rfl⟩)
  · have d3 : decide ((0 : Int) < (b : Int)) = false := decide_eq_false hb0
    clear ha hb hb0
    go_enter Tryz.func72, Tryz.ntmps72
    go_wp2
    all_goals (
      go_ret
      exact ⟨by simp, rfl⟩)

/-- The sum of three numbers. -/
theorem cSum3 (x y z : Nat) (hx : x ≤ 1000000) (hy : y ≤ 1000000) (hz : z ≤ 1000000) (g : Nat) (w : World) (h : w.heap[g]? = some (.cells #[.int .i64 (x : Int), .int .i64 (y : Int), .int .i64 (z : Int)] 3)) :
    Calls Tryz.prog 52 #[.slice (some ⟨g, 0, none⟩) 3 3] w fun e w' => e = .returned (.int .i64 ((x + y + z : Nat) : Int)) ∧ w = w' := by
  have F : ∀ k, k < 3 → w.cell? ⟨g, k, none⟩ = some (.int .i64 (((if k = 0 then x else if k = 1 then y else z : Nat)) : Int)) := fun k hk => by
    rw [blk_cell' h]
    have : k = 0 ∨ k = 1 ∨ k = 2 := by omega
    rcases this with rfl | rfl | rfl <;> rfl
  have F := Lib.hid F
  have AD := Lib.hid cAdd_small
  have HH := Lib.hid (And.intro hx (And.intro hy hz))
  clear h hx hy hz
  go_enter Tryz.func52, Tryz.ntmps52
  go_wp2
  go_loopw [3, 4, 7] (fun n _ i wr => ∃ k : Nat, k ≤ 3 ∧ i = .int .i64 (k : Int) ∧ n = .int .i64 (((if k = 0 then 0 else if k = 1 then x else if k = 2 then x + y else x + y + z : Nat)) : Int) ∧ wr = w) (fun _ _ i _ => 3 - (intOf i).toNat)
  case atStart => exact ⟨0, by omega, rfl, rfl, rfl⟩
  case round =>
    obtain ⟨k, hk, rfl, rfl, rfl⟩ := hrel
    by_cases hc : k < 3
    · have c0 := F.out k hc
      have h1 : (k : Int) < 3 := by omega
      obtain ⟨s, hs⟩ : ∃ s, s = (if k = 0 then 0 else if k = 1 then x else if k = 2 then x + y else x + y + z : Nat) := ⟨_, rfl⟩
      obtain ⟨v, hv⟩ : ∃ v, v = (if k = 0 then x else if k = 1 then y else z : Nat) := ⟨_, rfl⟩
      rw [← hs]
      rw [← hv] at c0
      have SV := Lib.hid (show s + v = (if k + 1 = 0 then 0 else if k + 1 = 1 then x else if k + 1 = 2 then x + y else x + y + z : Nat) ∧ s ≤ 1000000000 ∧ v ≤ 1000000000 by
        have := HH.out
        rw [hs, hv]
        have : k = 0 ∨ k = 1 ∨ k = 2 := by omega
        rcases this with rfl | rfl | rfl <;> simp <;> omega)
      have HC := Lib.hid hc
      clear hs hv hc hk
      go_wp2_with fail
      refine (AD.out s v SV.out.2.1 SV.out.2.2 _).mono ?_
      rintro e _ ⟨rfl, rfl⟩
      go_wp2
      go_roundw
      case rel => exact ⟨k + 1, HC.out, by simp, by rw [← SV.out.1]; simp, trivial⟩
      case measure => simp only [intOf]; have := HC.out; omega
    · have hk3 : k = 3 := by omega
      subst hk3
      go_wp2
      go_ret
      exact ⟨rfl, rfl⟩

theorem tly_reads (T : TL) (h1 : T.hits ≤ 1000000) (h2 : T.misses ≤ 1000000) (h3 : T.byps ≤ 1000000) (w : World) :
    Calls Tryz.prog 40 #[.agg #[.int .i64 (T.hits : Int), .int .i64 (T.misses : Int), .int .i64 (T.byps : Int), .int .i64 (T.fills : Int), .int .i64 (T.evic : Int), .int .i64 0, .int .i64 0, .int .i64 0, .int .i64 0, .int .i64 0, .int .i64 0, .int .i64 0, .int .i64 (T.filled : Int), .int .i64 0]] w fun e w' => e = .returned (.int .i64 ((T.hits + T.misses + T.byps : Nat) : Int)) ∧ Below w.heap.size w w' := by
  obtain ⟨t0, t1, t2, t3, t4, t12⟩ := T
  have B1 := Lib.hid (((Below.refl w.heap.size w).alloc (Nat.le_refl _) (.cells #[.int .i64 (t0 : Int), .int .i64 (t1 : Int), .int .i64 (t2 : Int), .int .i64 (t3 : Int), .int .i64 (t4 : Int), .int .i64 0, .int .i64 0, .int .i64 0, .int .i64 0, .int .i64 0, .int .i64 0, .int .i64 0, .int .i64 (t12 : Int), .int .i64 0] 35)).alloc (by simp) (.cells #[.int .i64 (t0 : Int), .int .i64 (t1 : Int), .int .i64 (t2 : Int)] 3))
  have S3 := Lib.hid (fun g W h => cSum3 t0 t1 t2 h1 h2 h3 g W h)
  clear h1 h2 h3
  go_enter Tryz.func40, Tryz.ntmps40
  go_wp2_with fail
  refine (S3.out _ _ (heap_at _ _ _ (by simp))).mono ?_
  rintro e _ ⟨rfl, rfl⟩
  go_wp2
  go_ret
  exact ⟨rfl, B1.out⟩

/-- The rate of a tally, but for the bits of a NaN. -/
def rtC (T : TL) : Option Nat := opC .quo (cn (floatOfInt .f64 (T.hits : Int))) (cn (floatOfInt .f64 ((T.hits + T.misses + T.byps : Nat) : Int)))
theorem tly_rate (T : TL) (h1 : T.hits ≤ 1000000) (h2 : T.misses ≤ 1000000) (h3 : T.byps ≤ 1000000) (w : World) :
    Calls Tryz.prog 29 #[.agg #[.int .i64 (T.hits : Int), .int .i64 (T.misses : Int), .int .i64 (T.byps : Int), .int .i64 (T.fills : Int), .int .i64 (T.evic : Int), .int .i64 0, .int .i64 0, .int .i64 0, .int .i64 0, .int .i64 0, .int .i64 0, .int .i64 0, .int .i64 (T.filled : Int), .int .i64 0]] w fun e w' => ∃ f, e = .returned (.float .f64 f) ∧ (f < 18446744073709551616 ∧ cn f = rtC T) ∧ Below w.heap.size w w' := by
  have TR := Lib.hid (fun W => tly_reads T h1 h2 h3 W)
  have RA := Lib.hid (fun W => rate_any (T.hits : Int) ((T.hits + T.misses + T.byps : Nat) : Int) W)
  have RC := Lib.hid (show rtC T = opC .quo (cn (floatOfInt .f64 (T.hits : Int))) (cn (floatOfInt .f64 ((T.hits + T.misses + T.byps : Nat) : Int))) from rfl)
  obtain ⟨t0, t1, t2, t3, t4, t12⟩ := T
  have TR := Lib.hid (fun W => show Calls Tryz.prog 40 #[.agg #[.int .i64 (t0 : Int), .int .i64 (t1 : Int), .int .i64 (t2 : Int), .int .i64 (t3 : Int), .int .i64 (t4 : Int), .int .i64 0, .int .i64 0, .int .i64 0, .int .i64 0, .int .i64 0, .int .i64 0, .int .i64 0, .int .i64 (t12 : Int), .int .i64 0]] W (fun e w' => e = .returned (.int .i64 ((t0 + t1 + t2 : Nat) : Int)) ∧ Below W.heap.size W w') from TR.out W)
  have RA := Lib.hid (fun W => show Calls Tryz.prog 39 #[.int .i64 (t0 : Int), .int .i64 ((t0 + t1 + t2 : Nat) : Int)] W (fun e w' => ∃ r, e = .returned (.float .f64 r) ∧ r < 18446744073709551616 ∧ cn r = rtC ⟨t0, t1, t2, t3, t4, t12⟩ ∧ ∃ n, w' = W.drewN n) from RA.out W)
  obtain ⟨sm, hsm⟩ : ∃ sm : Int, ((t0 + t1 + t2 : Nat) : Int) = sm := ⟨_, rfl⟩
  rw [hsm] at TR RA
  clear h1 h2 h3 RC hsm
  obtain ⟨w1, hw1⟩ : ∃ w1, w.alloc (.cells #[.int .i64 (t0 : Int), .int .i64 (t1 : Int), .int .i64 (t2 : Int), .int .i64 (t3 : Int), .int .i64 (t4 : Int), .int .i64 0, .int .i64 0, .int .i64 0, .int .i64 0, .int .i64 0, .int .i64 0, .int .i64 0, .int .i64 (t12 : Int), .int .i64 0] 35) = w1 := ⟨_, rfl⟩
  have B1 := Lib.hid (show Below w.heap.size w w1 by rw [← hw1]; exact (Below.refl w.heap.size w).alloc (Nat.le_refl _) (.cells #[.int .i64 (t0 : Int), .int .i64 (t1 : Int), .int .i64 (t2 : Int), .int .i64 (t3 : Int), .int .i64 (t4 : Int), .int .i64 0, .int .i64 0, .int .i64 0, .int .i64 0, .int .i64 0, .int .i64 0, .int .i64 0, .int .i64 (t12 : Int), .int .i64 0] 35))
  have HB := blk_cell' (show w1.heap[w.heap.size]? = some (.cells #[.int .i64 (t0 : Int), .int .i64 (t1 : Int), .int .i64 (t2 : Int), .int .i64 (t3 : Int), .int .i64 (t4 : Int), .int .i64 0, .int .i64 0, .int .i64 0, .int .i64 0, .int .i64 0, .int .i64 0, .int .i64 0, .int .i64 (t12 : Int), .int .i64 0] 35) by rw [← hw1]; exact heap_at w _ _ rfl)
  have l1 : w.heap.size < w1.heap.size := by rw [← hw1]; simp
  have F := Lib.hid (fun W (k : Below w1.heap.size w1 W) => (show W.cell? ⟨w.heap.size, 0, none⟩ = some (.int .i64 (t0 : Int)) ∧ W.cell? ⟨w.heap.size, 1, none⟩ = some (.int .i64 (t1 : Int)) ∧ W.cell? ⟨w.heap.size, 2, none⟩ = some (.int .i64 (t2 : Int)) ∧ W.cell? ⟨w.heap.size, 3, none⟩ = some (.int .i64 (t3 : Int)) ∧ W.cell? ⟨w.heap.size, 4, none⟩ = some (.int .i64 (t4 : Int)) ∧ W.cell? ⟨w.heap.size, 5, none⟩ = some (.int .i64 0) ∧ W.cell? ⟨w.heap.size, 6, none⟩ = some (.int .i64 0) ∧ W.cell? ⟨w.heap.size, 7, none⟩ = some (.int .i64 0) ∧ W.cell? ⟨w.heap.size, 8, none⟩ = some (.int .i64 0) ∧ W.cell? ⟨w.heap.size, 9, none⟩ = some (.int .i64 0) ∧ W.cell? ⟨w.heap.size, 10, none⟩ = some (.int .i64 0) ∧ W.cell? ⟨w.heap.size, 11, none⟩ = some (.int .i64 0) ∧ W.cell? ⟨w.heap.size, 12, none⟩ = some (.int .i64 (t12 : Int)) ∧ W.cell? ⟨w.heap.size, 13, none⟩ = some (.int .i64 0) from ⟨(k.cell (p := ⟨w.heap.size, 0, none⟩) l1).trans (HB 0), (k.cell (p := ⟨w.heap.size, 1, none⟩) l1).trans (HB 1), (k.cell (p := ⟨w.heap.size, 2, none⟩) l1).trans (HB 2), (k.cell (p := ⟨w.heap.size, 3, none⟩) l1).trans (HB 3), (k.cell (p := ⟨w.heap.size, 4, none⟩) l1).trans (HB 4), (k.cell (p := ⟨w.heap.size, 5, none⟩) l1).trans (HB 5), (k.cell (p := ⟨w.heap.size, 6, none⟩) l1).trans (HB 6), (k.cell (p := ⟨w.heap.size, 7, none⟩) l1).trans (HB 7), (k.cell (p := ⟨w.heap.size, 8, none⟩) l1).trans (HB 8), (k.cell (p := ⟨w.heap.size, 9, none⟩) l1).trans (HB 9), (k.cell (p := ⟨w.heap.size, 10, none⟩) l1).trans (HB 10), (k.cell (p := ⟨w.heap.size, 11, none⟩) l1).trans (HB 11), (k.cell (p := ⟨w.heap.size, 12, none⟩) l1).trans (HB 12), (k.cell (p := ⟨w.heap.size, 13, none⟩) l1).trans (HB 13)⟩))
  clear HB
  have Y1 := F.out _ (Below.refl _ _)
  go_enter Tryz.func29, Tryz.ntmps29
  go_wp2_with fail
  have Y1 := F.out _ (Below.refl _ _)
  go_region_held_law (fun W => W.cell? ⟨w.heap.size, 0, none⟩ = some (.int .i64 (t0 : Int)) ∧ W.cell? ⟨w.heap.size, 1, none⟩ = some (.int .i64 (t1 : Int)) ∧ W.cell? ⟨w.heap.size, 2, none⟩ = some (.int .i64 (t2 : Int)) ∧ W.cell? ⟨w.heap.size, 3, none⟩ = some (.int .i64 (t3 : Int)) ∧ W.cell? ⟨w.heap.size, 4, none⟩ = some (.int .i64 (t4 : Int)) ∧ W.cell? ⟨w.heap.size, 5, none⟩ = some (.int .i64 0) ∧ W.cell? ⟨w.heap.size, 6, none⟩ = some (.int .i64 0) ∧ W.cell? ⟨w.heap.size, 7, none⟩ = some (.int .i64 0) ∧ W.cell? ⟨w.heap.size, 8, none⟩ = some (.int .i64 0) ∧ W.cell? ⟨w.heap.size, 9, none⟩ = some (.int .i64 0) ∧ W.cell? ⟨w.heap.size, 10, none⟩ = some (.int .i64 0) ∧ W.cell? ⟨w.heap.size, 11, none⟩ = some (.int .i64 0) ∧ W.cell? ⟨w.heap.size, 12, none⟩ = some (.int .i64 (t12 : Int)) ∧ W.cell? ⟨w.heap.size, 13, none⟩ = some (.int .i64 0)) (first | exact Y1 | exact Y2 | exact Y3)
    (first
      | (go_at_call 40; (with_reducible refine (TR.out _).mono ?_); rintro e w2 ⟨rfl, b2⟩; have bb2 := (Below.refl w1.heap.size w1).drew.trans (b2.mono (show w1.heap.size ≤ w1.drew.heap.size from Nat.le_refl _)); have BB2 := Lib.hid bb2; have Y2 := F.out _ bb2)
      | (go_at_call 39; (with_reducible refine (RA.out _).mono ?_); rintro e w3 ⟨f, rfl, hf, hc, m, rfl⟩; have FF := Lib.hid (And.intro hf hc); have bb3 := ((Keeps.of_below BB2.out).drewN m).below (Nat.le_refl _); have BB3 := Lib.hid bb3; have Y3 := F.out _ bb3))
  go_wp2
  go_ret
  exact ⟨_, rfl, FF.out, B1.out.trans (BB3.out.mono B1.out.size)⟩

theorem ad_rate (c : CF) (B : CFB c) (hm : c.may = true) (a : Option Addr) (n cp : Nat) (z : Nat → Int) (w : World) (hr : RdZ2 w a n z) (hn : n ≤ 1000) (hc : n ≤ cp) (hm9 : cp ≤ 9223372036854775807) :
    Calls Tryz.prog 19 #[.agg c.cs, .slice a n cp] w fun e w' => ∃ f, e = .returned (.tuple #[.float .f64 f, .int .i64 0]) ∧ (f < 18446744073709551616 ∧ cn f = rtC (goR (rcOf c) z n).2.t ∧ HVs (rcOf c) z n) ∧ Below w.heap.size w w' := by
  have RN := Lib.hid (fun W (k : Below w.heap.size w W) => tr_run c B hm a n cp z W (hr.below k) hn hc hm9)
  generalize rcOf c = r at *
  obtain ⟨k0, k1, k2, k3, k4, k5, k6, k7, k8, k9⟩ := c
  have RN := Lib.hid (fun W (k : Below w.heap.size w W) => show Calls Tryz.prog 9 #[.agg #[.int .i64 k0, .int .i64 k1, .int .i64 k2, .int .i64 k3, .int .i64 k4, .int .u64 k5, .float .f64 k6, .float .f64 k7, .float .f64 k8, .int .i64 k9], .slice a n cp] W (fun e w' => ∃ T : TL, e = .returned (.tuple #[.agg #[.int .i64 (T.hits : Int), .int .i64 (T.misses : Int), .int .i64 (T.byps : Int), .int .i64 (T.fills : Int), .int .i64 (T.evic : Int), .int .i64 0, .int .i64 0, .int .i64 0, .int .i64 0, .int .i64 0, .int .i64 0, .int .i64 0, .int .i64 (T.filled : Int), .int .i64 0], .int .i64 0]) ∧ (T = (goR r z n).2.t ∧ HVs r z n) ∧ Below W.heap.size W w') from
    (RN.out W k).mono (fun e w' ⟨he, hv, hb⟩ => ⟨_, he, ⟨rfl, hv⟩, hb⟩))
  clear B hm hr hc hm9
  change Calls Tryz.prog 19 #[.agg #[.int .i64 k0, .int .i64 k1, .int .i64 k2, .int .i64 k3, .int .i64 k4, .int .u64 k5, .float .f64 k6, .float .f64 k7, .float .f64 k8, .int .i64 k9], .slice a n cp] w _
  have B0 := Lib.hid ((Below.refl w.heap.size w).alloc (Nat.le_refl _) (.cells #[.int .i64 k0, .int .i64 k1, .int .i64 k2, .int .i64 k3, .int .i64 k4, .int .u64 k5, .float .f64 k6, .float .f64 k7, .float .f64 k8, .int .i64 k9] 28))
  have NN := Lib.hid hn
  clear hn
  go_enter Tryz.func19, Tryz.ntmps19
  go_wp2_with fail
  refine (RN.out _ B0.out).mono ?_
  rintro e w1 ⟨T, rfl, hT, b1⟩
  have HT := Lib.hid hT
  have TB : T.hits ≤ 1000000 ∧ T.misses ≤ 1000000 ∧ T.byps ≤ 1000000 := by
    obtain ⟨wn, e1, e2⟩ := goR_facts hT.2
    rw [← hT.1] at e2
    have := cntR_le r.nb z n
    have := NN.out
    omega
  have TR := Lib.hid (fun W => tly_rate T TB.1 TB.2.1 TB.2.2 W)
  clear TB hT
  have B1 := Lib.hid (B0.out.trans (b1.mono B0.out.size))
  have TH0 := Lib.hid (heap_at w1 tlZ _ rfl)
  have TH := Lib.hid (tl_there TH0.out)
  clear b1
  go_wp2_with (
    refine wpList_store_mid rfl 35 (.tmp 6) (.tmp 12) rfl w1.heap.size 0 #[.int .i64 (T.hits : Int), .int .i64 (T.misses : Int), .int .i64 (T.byps : Int), .int .i64 (T.fills : Int), .int .i64 (T.evic : Int), .int .i64 0, .int .i64 0, .int .i64 0, .int .i64 0, .int .i64 0, .int .i64 0, .int .i64 0, .int .i64 (T.filled : Int), .int .i64 0] rfl rfl TH.out (by kernel_rfl) (by simp [Value.oneCell']) ?_
    obtain ⟨w3, hw3, FC, KC⟩ := tl_put TH0.out (.int .i64 (T.hits : Int)) (.int .i64 (T.misses : Int)) (.int .i64 (T.byps : Int)) (.int .i64 (T.fills : Int)) (.int .i64 (T.evic : Int)) (.int .i64 (T.filled : Int))
    rw [hw3]
    have B3 := Lib.hid (B1.out.trans ((((Keeps.of_below ((Below.refl w1.heap.size w1).alloc (Nat.le_refl _) tlZ)).trans KC (fun j (hj : j = w1.heap.size) => .inl (by omega))).below (Nat.le_refl _)).mono B1.out.size))
    obtain ⟨r0, r1, r2, r3, r4, r5, r6, r7, r8, r9, r10, r11, r12, r13⟩ := FC
    clear hw3 TH TH0 KC)
  clear r0 r1 r2 r3 r4 r5 r6 r7 r8 r9 r10 r11 r12 r13
  refine (TR.out _).mono ?_
  rintro e w4 ⟨f, rfl, hf, b4⟩
  have FF := Lib.hid hf
  have B4 := Lib.hid (B3.out.trans (b4.mono B3.out.size))
  clear hf b4
  go_wp2
  go_ret2
  exact ⟨_, rfl, ⟨FF.out.1, by rw [FF.out.2, HT.out.1], HT.out.2⟩, B4.out⟩

theorem ad_rate_no (c : CF) (hm : c.may = false) (a : Option Addr) (n cp : Nat) (w : World) :
    Calls Tryz.prog 19 #[.agg c.cs, .slice a n cp] w fun e w' => e = .returned (.tuple #[.float .f64 0, .int .i64 100]) ∧ Below w.heap.size w w' := by
  have RN := Lib.hid (fun W => tr_run_no c hm a n cp W)
  obtain ⟨k0, k1, k2, k3, k4, k5, k6, k7, k8, k9⟩ := c
  have RN := Lib.hid (fun W => show Calls Tryz.prog 9 #[.agg #[.int .i64 k0, .int .i64 k1, .int .i64 k2, .int .i64 k3, .int .i64 k4, .int .u64 k5, .float .f64 k6, .float .f64 k7, .float .f64 k8, .int .i64 k9], .slice a n cp] W (fun e w' => e = .returned (.tuple #[.agg #[.int .i64 0, .int .i64 0, .int .i64 0, .int .i64 0, .int .i64 0, .int .i64 0, .int .i64 0, .int .i64 0, .int .i64 0, .int .i64 0, .int .i64 0, .int .i64 0, .int .i64 0, .int .i64 0], .int .i64 100]) ∧ Below W.heap.size W w') from RN.out W)
  clear hm
  change Calls Tryz.prog 19 #[.agg #[.int .i64 k0, .int .i64 k1, .int .i64 k2, .int .i64 k3, .int .i64 k4, .int .u64 k5, .float .f64 k6, .float .f64 k7, .float .f64 k8, .int .i64 k9], .slice a n cp] w _
  have B0 := Lib.hid ((Below.refl w.heap.size w).alloc (Nat.le_refl _) (.cells #[.int .i64 k0, .int .i64 k1, .int .i64 k2, .int .i64 k3, .int .i64 k4, .int .u64 k5, .float .f64 k6, .float .f64 k7, .float .f64 k8, .int .i64 k9] 28))
  go_enter Tryz.func19, Tryz.ntmps19
  go_wp2_with fail
  refine (RN.out _).mono ?_
  rintro e w1 ⟨rfl, b1⟩
  have B1 := Lib.hid (B0.out.trans (b1.mono B0.out.size))
  have TH0 := Lib.hid (heap_at w1 tlZ _ rfl)
  have TH := Lib.hid (tl_there TH0.out)
  clear b1
  go_wp2_with (
    refine wpList_store_mid rfl 35 (.tmp 6) (.tmp 12) rfl w1.heap.size 0 #[.int .i64 0, .int .i64 0, .int .i64 0, .int .i64 0, .int .i64 0, .int .i64 0, .int .i64 0, .int .i64 0, .int .i64 0, .int .i64 0, .int .i64 0, .int .i64 0, .int .i64 0, .int .i64 0] rfl rfl TH.out (by kernel_rfl) (by simp [Value.oneCell']) ?_
    obtain ⟨w3, hw3, FC, KC⟩ := tl_put TH0.out (.int .i64 0) (.int .i64 0) (.int .i64 0) (.int .i64 0) (.int .i64 0) (.int .i64 0)
    rw [hw3]
    have B3 := Lib.hid (B1.out.trans ((((Keeps.of_below ((Below.refl w1.heap.size w1).alloc (Nat.le_refl _) tlZ)).trans KC (fun j (hj : j = w1.heap.size) => .inl (by omega))).below (Nat.le_refl _)).mono B1.out.size))
    clear hw3 TH TH0 KC FC)
  go_ret2
  exact ⟨rfl, B3.out⟩
end Go.Proofs.YtbgknopjgohocaaGreat
