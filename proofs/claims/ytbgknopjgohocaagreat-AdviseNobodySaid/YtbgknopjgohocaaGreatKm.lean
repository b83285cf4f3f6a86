/- By how much a tier that keeps all is better; the page's example of advice. -/
import Derived.Test.YtbgknopjgohocaaGreatKl
namespace Go.Proofs.YtbgknopjgohocaaGreat
open Go.RowKit Fl
open Scan hiding isN
set_option linter.unusedVariables false
set_option maxRecDepth 100000
set_option maxHeartbeats 2000000

/-- The rate of a tier that keeps all. -/
def kpC (nb : Nat) (z : Nat → Int) (n : Nat) : Option Nat := opC .quo (cn (floatOfInt .f64 (agR nb z n : Int))) (cn (floatOfInt .f64 (cntR nb z n : Int)))
theorem ad_loss (c : CF) (B : CFB c) (hm : c.may = true) (a : Option Addr) (n cp : Nat) (z : Nat → Int) (w : World) (hr : RdZ2 w a n z) (hn : n ≤ 1000) (hc : n ≤ cp) (hm9 : cp ≤ 9223372036854775807) :
    Calls Tryz.prog 31 #[.agg c.cs, .slice a n cp] w fun e w' => ∃ f, e = .returned (.tuple #[.float .f64 f, .int .i64 0]) ∧ (f < 18446744073709551616 ∧ cn f = opC .sub (kpC (rcOf c).nb z n) (rtC (goR (rcOf c) z n).2.t)) ∧ Below w.heap.size w w' := by
  have MA := may_all hm
  have RN := Lib.hid (fun W (k : Below w.heap.size w W) => ad_rate c B hm a n cp z W (hr.below k) hn hc hm9)
  have KN := Lib.hid (fun W (k : Below w.heap.size w W) => ad_keeps c (rcOf c).nb (by show c.blocks = ((c.blocks.toNat : Nat) : Int); have := MA.1.1; omega) (by show 1 ≤ c.blocks.toNat; have := MA.1.1; omega) (by show c.blocks.toNat ≤ 512; have := MA.1.2; omega) a n cp z W (hr.below k) hn hc hm9)
  generalize rcOf c = r at *
  generalize rtC (goR r z n).2.t = rt at *
  obtain ⟨k0, k1, k2, k3, k4, k5, k6, k7, k8, k9⟩ := c
  have RN := Lib.hid (fun W (k : Below w.heap.size w W) => show Calls Tryz.prog 19 #[.agg #[.int .i64 k0, .int .i64 k1, .int .i64 k2, .int .i64 k3, .int .i64 k4, .int .u64 k5, .float .f64 k6, .float .f64 k7, .float .f64 k8, .int .i64 k9], .slice a n cp] W (fun e w' => ∃ f, e = .returned (.tuple #[.float .f64 f, .int .i64 0]) ∧ (f < 18446744073709551616 ∧ cn f = rt ∧ HVs r z n) ∧ Below W.heap.size W w') from RN.out W k)
  have KN := Lib.hid (fun W (k : Below w.heap.size w W) => show Calls Tryz.prog 41 #[.agg #[.int .i64 k0, .int .i64 k1, .int .i64 k2, .int .i64 k3, .int .i64 k4, .int .u64 k5, .float .f64 k6, .float .f64 k7, .float .f64 k8, .int .i64 k9], .slice a n cp] W (fun e w' => ∃ f, e = .returned (.float .f64 f) ∧ (f < 18446744073709551616 ∧ cn f = kpC r.nb z n) ∧ Below W.heap.size W w') from KN.out W k)
  generalize kpC r.nb z n = kp at *
  clear B hm hr hn hc hm9 MA
  change Calls Tryz.prog 31 #[.agg #[.int .i64 k0, .int .i64 k1, .int .i64 k2, .int .i64 k3, .int .i64 k4, .int .u64 k5, .float .f64 k6, .float .f64 k7, .float .f64 k8, .int .i64 k9], .slice a n cp] w _
  obtain ⟨w1, hw1⟩ : ∃ w1, w.alloc (.cells #[.int .i64 k0, .int .i64 k1, .int .i64 k2, .int .i64 k3, .int .i64 k4, .int .u64 k5, .float .f64 k6, .float .f64 k7, .float .f64 k8, .int .i64 k9] 28) = w1 := ⟨_, rfl⟩
  have B1 := Lib.hid (show Below w.heap.size w w1 by rw [← hw1]; exact (Below.refl _ w).alloc (Nat.le_refl _) _)
  have s1 : w.heap.size < w1.heap.size := by rw [← hw1]; simp
  have BXC := Lib.hid (fun W (k : Below w1.heap.size w1 W) => BX.below (c := ⟨k0, k1, k2, k3, k4, k5, k6, k7, k8, k9⟩) (b := w.heap.size) (hw1 ▸ box_conf w ⟨k0, k1, k2, k3, k4, k5, k6, k7, k8, k9⟩) k s1)
  obtain ⟨x0, x1, x2, x3, x4, x5, x6, x7, x8, x9⟩ := BXC.out _ (Below.refl _ _)
  clear s1
  go_enter Tryz.func31, Tryz.ntmps31
  go_wp2_with fail
  clear hw1 x0 x1 x2 x3 x4 x5 x6 x7 x8 x9
  refine (RN.out _ B1.out).mono ?_
  rintro e w2 ⟨f, rfl, hf, b2⟩
  have HF := Lib.hid hf
  have B2 := Lib.hid (B1.out.trans (b2.mono B1.out.size))
  obtain ⟨x0, x1, x2, x3, x4, x5, x6, x7, x8, x9⟩ := BXC.out _ b2
  clear hf b2
  go_wp2_with fail
  clear x0 x1 x2 x3 x4 x5 x6 x7 x8 x9
  refine (KN.out _ B2.out).mono ?_
  rintro e w3 ⟨k, rfl, hk, b3⟩
  obtain ⟨r', m, hrun, hr1, hr2⟩ := run_arith (P := Tryz.prog) .sub (by simp) k f w3
  have HR := Lib.hid (show r' < 18446744073709551616 ∧ cn r' = opC .sub kp rt from ⟨hr1, by rw [hr2, hk.2, HF.out.2.1]⟩)
  have B3 := Lib.hid (B2.out.trans (b3.mono B2.out.size))
  clear hk b3 hr1 hr2
  go_wp2
  go_ret2
  exact ⟨_, rfl, HR.out, ((Keeps.of_below B3.out).drewN m).below (Nat.le_refl _)⟩

theorem conf37 (w : World) : Calls Tryz.prog 30 #[] w fun e w' => e = .returned (.agg #[.int .i64 9, .int .i64 2, .int .i64 1, .int .i64 1, .int .i64 50, .int .u64 1, .float .f64 4602678819172646912, .float .f64 4607182418800017408, .float .f64 4607182418800017408, .int .i64 0]) ∧ Below w.heap.size w w' := by
  have TH := Lib.hid (cnf_there w)
  go_enter Tryz.func30, Tryz.ntmps30
  go_wp2_with (
    refine wpList_store_mid rfl 28 (.tmp 0) (.tmp 1) rfl w.heap.size 0 #[.int .i64 9, .int .i64 2, .int .i64 1, .int .i64 1, .int .i64 50, .int .u64 1, .float .f64 4602678819172646912, .float .f64 4607182418800017408, .float .f64 4607182418800017408, .int .i64 0] rfl rfl TH.out (by kernel_rfl) (by simp [Value.oneCell']) ?_
    obtain ⟨w3, hw3, BXC, BXB⟩ := cnf_put w 9 2 1 1 50 1 4602678819172646912 4607182418800017408 4607182418800017408 0
    rw [hw3]
    have B3 := Lib.hid BXB.1
    have BXC := Lib.hid BXC
    clear hw3 TH BXB)
  obtain ⟨r0, r1, r2, r3, r4, r5, r6, r7, r8, r9⟩ := BXC.out
  refine bodyPost_ret (v := .agg #[.int .i64 9, .int .i64 2, .int .i64 1, .int .i64 1, .int .i64 50, .int .u64 1, .float .f64 4602678819172646912, .float .f64 4607182418800017408, .float .f64 4607182418800017408, .int .i64 0]) (by simp [results, Tryz.results30, go_sem, r0, r1, r2, r3, r4, r5, r6, r7, r8, r9]) rfl ⟨rfl, B3.out⟩

/-- The reads of the example. -/
def z37 (i : Nat) : Int := if i % 2 = 0 then 1 else 2
abbrev row37 : Obj := .cells #[.int .i64 1, .int .i64 2, .int .i64 1, .int .i64 2] 3
theorem row37_at (w1 : World) : RdZ2 (w1.alloc row37) (some ⟨w1.heap.size, 0, none⟩) 4 z37 := fun _ => by
  refine ⟨w1.heap.size, 0, rfl, by simp, fun i hi => ?_⟩
  rw [blk_cell' (heap_at w1 row37 _ rfl)]
  have : i = 0 ∨ i = 1 ∨ i = 2 ∨ i = 3 := by omega
  rcases this with rfl | rfl | rfl | rfl <;> exact ⟨rfl, by decide, by decide⟩
theorem aw37_m : mostN 2 = 2 := by decide
theorem aw37_h : hitC (slotC cf36 ((1 : Nat) + 1 : Int)) z37 4 = 2 := by kernel_rfl
theorem aw37_r : rtC (goR (rcOf cf36) z37 4).2.t = some 4602678819172646912 := by kernel_rfl
theorem aw37_k : kpC (rcOf cf36).nb z37 4 = some 4602678819172646912 := by kernel_rfl
theorem aw37_l : opC .sub (some 4602678819172646912) (some 4602678819172646912) = some 0 := by kernel_rfl
theorem cn_of_some {f v : Nat} (h : cn f = some v) : f = v := by
  unfold cn at h
  split at h
  · cases h
  · cases h; rfl
end Go.Proofs.YtbgknopjgohocaaGreat
