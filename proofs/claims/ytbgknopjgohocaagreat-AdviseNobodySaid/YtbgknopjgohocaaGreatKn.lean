/- Of nothing nothing is advised: the statement's walk. -/
import Derived.Test.YtbgknopjgohocaaGreatKm
import Derived.Deep.RegionHeldLaw
namespace Go.Proofs.YtbgknopjgohocaaGreat
open Go.RowKit Fl
open Scan hiding isN
set_option linter.unusedVariables false
set_option maxRecDepth 100000
set_option maxHeartbeats 2000000

theorem row_second {w : World} {base : Nat} {v : Value} {F : Nat → Value} (h : w.ownsRow base 3 1 v 2 ((List.range 2).map F)) : ∃ g cc, v = .slice (some ⟨g, 0, none⟩) 2 cc ∧ w.cell? ⟨g, 1, none⟩ = some (F 1) := by
  rcases h.2 with ⟨_, h0⟩ | ⟨g, cap, cur, rfl, hb, hh, hc, hm, hs, ht⟩
  · cases h0
  · refine ⟨g, cap, rfl, ?_⟩
    have h1 : (cur.toList.take (2 * 1))[1]? = ((List.range 2).map F)[1]? := by rw [ht]
    rw [List.getElem?_take_of_lt (by omega)] at h1
    rw [blk_cell' hh]
    simpa using h1

theorem awake37 (w : World) : Calls Tryz.prog 20 #[] w fun e w' => e = .returned (.bool true) ∧ Below w.heap.size w w' := by
  have CN := Lib.hid conf37
  have CV := Lib.hid (fun (a : Option Addr) (W : World) (hr : RdZ2 W a 4 z37) => show Calls Tryz.prog 18 #[.agg #[.int .i64 9, .int .i64 2, .int .i64 1, .int .i64 1, .int .i64 50, .int .u64 1, .float .f64 4602678819172646912, .float .f64 4607182418800017408, .float .f64 4607182418800017408, .int .i64 0], .int .i64 2, .slice a 4 4] W (fun e w' => ∃ g cc, e = .returned (.slice (some ⟨g, 0, none⟩) 2 cc) ∧ w'.cell? ⟨g, 1, none⟩ = some (.int .i64 2) ∧ Below W.heap.size W w') from
    (ad_curve cf36 cf36_ok 2 a 4 4 z37 W hr (by omega) (by omega) (by omega)).mono (fun e w' ⟨v, he, ho, hb⟩ => by
      rw [aw37_m] at ho
      obtain ⟨g, cc, rfl, hc⟩ := row_second ho
      rw [aw37_h] at hc
      exact ⟨g, cc, he, hc, hb⟩))
  have RT := Lib.hid (fun (a : Option Addr) (W : World) (hr : RdZ2 W a 4 z37) => show Calls Tryz.prog 19 #[.agg #[.int .i64 9, .int .i64 2, .int .i64 1, .int .i64 1, .int .i64 50, .int .u64 1, .float .f64 4602678819172646912, .float .f64 4607182418800017408, .float .f64 4607182418800017408, .int .i64 0], .slice a 4 4] W (fun e w' => e = .returned (.tuple #[.float .f64 4602678819172646912, .int .i64 0]) ∧ Below W.heap.size W w') from
    (ad_rate cf36 cf36_ok cf36_may a 4 4 z37 W hr (by omega) (by omega) (by omega)).mono (fun e w' ⟨f, he, ⟨_, hf, _⟩, hb⟩ => by
      rw [aw37_r] at hf
      rw [cn_of_some hf] at he
      exact ⟨he, hb⟩))
  have LO := Lib.hid (fun (a : Option Addr) (W : World) (hr : RdZ2 W a 4 z37) => show Calls Tryz.prog 31 #[.agg #[.int .i64 9, .int .i64 2, .int .i64 1, .int .i64 1, .int .i64 50, .int .u64 1, .float .f64 4602678819172646912, .float .f64 4607182418800017408, .float .f64 4607182418800017408, .int .i64 0], .slice a 4 4] W (fun e w' => e = .returned (.tuple #[.float .f64 0, .int .i64 0]) ∧ Below W.heap.size W w') from
    (ad_loss cf36 cf36_ok cf36_may a 4 4 z37 W hr (by omega) (by omega) (by omega)).mono (fun e w' ⟨f, he, ⟨_, hf⟩, hb⟩ => by
      rw [aw37_r, aw37_k, aw37_l] at hf
      rw [cn_of_some hf] at he
      exact ⟨he, hb⟩))
  have e1 : (FloatKind.f64.format.order 4602678819172646912 4602678819172646912 == some .eq) = true := by kernel_rfl
  have e2 : (FloatKind.f64.format.order 0 0 == some .eq) = true := by kernel_rfl
  go_enter Tryz.func20, Tryz.ntmps20
  go_wp2_with fail
  refine (CN.out _).mono ?_
  rintro e w1 ⟨rfl, b1⟩
  have B1 := Lib.hid b1
  clear b1
  go_wp2_with fail
  refine (CV.out _ _ (row37_at w1)).mono ?_
  rintro e w2 ⟨g, cc, rfl, c2, b2⟩
  have B2 := Lib.hid (B1.out.trans ((((Below.refl w1.heap.size w1).alloc (Nat.le_refl _) row37).trans (b2.mono (by simp))).mono B1.out.size))
  have lt := World.block_lt_of_cell? w2 _ c2
  have CL := Lib.hid (fun W (kk : Below w2.heap.size w2 W) => (kk.cell (p := ⟨g, 1, none⟩) lt).trans c2)
  clear b2 c2 lt
  go_wp2_with fail
  refine (CN.out _).mono ?_
  rintro e w3 ⟨rfl, b3⟩
  have k3 := Lib.hid b3
  clear b3
  go_wp2_with fail
  refine (RT.out _ _ (row37_at w3)).mono ?_
  rintro e w4 ⟨rfl, b4⟩
  have k4 := Lib.hid (k3.out.trans ((((Below.refl w3.heap.size w3).alloc (Nat.le_refl _) row37).trans (b4.mono (by simp))).mono k3.out.size))
  clear b4
  go_wp2_with fail
  refine (CN.out _).mono ?_
  rintro e w5 ⟨rfl, b5⟩
  have k5 := Lib.hid (k4.out.trans (b5.mono k4.out.size))
  clear b5
  go_wp2_with fail
  refine (LO.out _ _ (row37_at w5)).mono ?_
  rintro e w6 ⟨rfl, b6⟩
  have k6 := Lib.hid (k5.out.trans ((((Below.refl w5.heap.size w5).alloc (Nat.le_refl _) row37).trans (b6.mono (by simp))).mono k5.out.size))
  have c6 := CL.out _ k6.out
  have B6 := Lib.hid (B2.out.trans (k6.out.mono B2.out.size))
  clear b6
  go_wp2
  go_ret
  exact ⟨rfl, B6.out⟩

/-- Of no reads there is no rate. -/
theorem rt0 : rtC ⟨0, 0, 0, 0, 0, 0⟩ = none := by kernel_rfl
theorem rtX0 (c : CF) (z : Nat → Int) : rtX c z 0 = none := by
  unfold rtX
  split
  · exact rt0
  · rfl
theorem enE0 (c : CF) (z : Nat → Int) (goal M : Nat) : enE c z 0 goal M = none := by
  unfold enE
  refine find_none fun y _ => ?_
  unfold okE
  rw [rtX0]
theorem rdz_none (w : World) (z : Nat → Int) : RdZ2 w none 0 z := fun h => absurd h (Nat.lt_irrefl 0)
theorem row2_at (w1 : World) (x y : Int) (hx : i64 x) (hy : i64 y) : RdZ2 (w1.alloc (.cells #[.int .i64 x, .int .i64 y] 3)) (some ⟨w1.heap.size, 0, none⟩) 2 (fun i => if i = 0 then x else y) := fun _ => by
  refine ⟨w1.heap.size, 0, rfl, by simp, fun i hi => ?_⟩
  have : i = 0 ∨ i = 1 := by omega
  rw [blk_cell' (heap_at w1 (.cells #[.int .i64 x, .int .i64 y] 3) _ rfl)]
  rcases this with rfl | rfl
  · exact ⟨rfl, hx⟩
  · exact ⟨rfl, hy⟩
theorem cfl_one (w1 : World) (c : CF) : CfL (w1.alloc (.cells c.cs 28)) (some ⟨w1.heap.size, 0, none⟩) [c] := fun _ => by
  refine ⟨w1.heap.size, 0, rfl, by simp, fun i d hi j v hv => ?_⟩
  have : i = 0 := by
    have := (List.getElem?_eq_some_iff.1 hi).1
    simpa using this
  subst this
  cases hi
  rw [blk_cell' (heap_at w1 (.cells c.cs 28) _ rfl)]
  simpa using hv
theorem mostN0 {m : Int} (h : m ≤ 0) : mostN m = 0 := by
  have := mostN_int m
  unfold clampI at this
  repeat' split at this
  all_goals omega

theorem adviseNobody_walk (s : SW) (hs : SWB s) (most : Int) (goal : Int) (g0 : 0 ≤ goal) (g1 : goal ≤ 18446744073709551615) (w : World) :
    Calls Tryz.prog 5 #[s.v, .int .i64 most, .int .u64 goal] w fun e w' => e = .returned (.bool true) ∧ Below w.heap.size w w' := by
  have C0 := confW_ok hs
  have M0 := confW_may hs
  have SC0 := Lib.hid (fun W => set_confW s hs W)
  generalize confW s = cf at *
  have CF0 := Lib.hid (And.intro C0 M0)
  clear C0 M0 hs
  obtain ⟨bl, sl, lo, wi, bu, seed, keep, margin, ghost, run⟩ := s
  obtain ⟨k0, k1, k2, k3, k4, k5, k6, k7, k8, k9⟩ := cf
  have SC := Lib.hid (fun W => show Calls Tryz.prog 6 #[.agg #[.int .u8 bl, .int .u8 sl, .int .u8 lo, .int .u8 wi, .int .u8 bu, .int .u64 seed, .int .u64 keep, .int .u64 margin, .int .u64 ghost, .int .u8 run]] W (fun e w' => e = .returned (.agg #[.int .i64 k0, .int .i64 k1, .int .i64 k2, .int .i64 k3, .int .i64 k4, .int .u64 k5, .float .f64 k6, .float .f64 k7, .float .f64 k8, .int .i64 k9]) ∧ Below W.heap.size W w') from SC0.out W)
  clear SC0
  have BN := Lib.hid (fun (a : Option Addr) (z : Nat → Int) (W : World) (hr : RdZ2 W a 2 z) => show Calls Tryz.prog 15 #[.slice none 0 0, .slice a 2 2] W (fun e w' => e = .returned (.tuple #[.int .i64 0, .float .f64 0, .bool false]) ∧ Below W.heap.size W w') from
    ad_best [] (fun c hc => by cases hc) none 0 (by simp) a 2 2 z W (fun h => absurd rfl h) hr (by omega) (by omega) (by omega))
  have BO := Lib.hid (fun (a : Option Addr) (W : World) (hc : CfL W a [⟨k0, k1, k2, k3, k4, k5, k6, k7, k8, k9⟩]) => show Calls Tryz.prog 15 #[.slice a 1 1, .slice none 0 0] W (fun e w' => e = .returned (.tuple #[.int .i64 0, .float .f64 0, .bool false]) ∧ Below W.heap.size W w') from
    (ad_best [⟨k0, k1, k2, k3, k4, k5, k6, k7, k8, k9⟩] (fun c hc => by rw [List.mem_singleton.1 hc]; exact CF0.out.1) a 1 (by simp) none 0 0 (fun _ => 0) W hc (rdz_none _ _) (by omega) (by omega) (by omega)).mono (fun e w' ⟨he, hb⟩ => ⟨by
      have e1 : bsB (fun _ => 0) 0 [(⟨k0, k1, k2, k3, k4, k5, k6, k7, k8, k9⟩ : CF)] 1 = (0, 0, false) := by
        rw [bsB_next (c := ⟨k0, k1, k2, k3, k4, k5, k6, k7, k8, k9⟩) rfl]
        unfold stB
        rw [rtX0]
        rfl
      rw [show [(⟨k0, k1, k2, k3, k4, k5, k6, k7, k8, k9⟩ : CF)].length = 1 from rfl, e1] at he
      exact he, hb⟩))
  have EN := Lib.hid (fun (m : Int) (W : World) => show Calls Tryz.prog 16 #[.agg #[.int .i64 k0, .int .i64 k1, .int .i64 k2, .int .i64 k3, .int .i64 k4, .int .u64 k5, .float .f64 k6, .float .f64 k7, .float .f64 k8, .int .i64 k9], .float .f64 goal.toNat, .int .i64 m, .slice none 0 0] W (fun e w' => e = .returned (.tuple #[.int .i64 0, .bool false]) ∧ Below W.heap.size W w') from by
    cases hN : isN goal.toNat
    · have := ad_enough ⟨k0, k1, k2, k3, k4, k5, k6, k7, k8, k9⟩ CF0.out.1 goal.toNat hN (by omega) m none 0 0 (fun _ => 0) W (rdz_none _ _) (by omega) (by omega) (by omega)
      rw [enE0] at this
      exact this
    · exact ad_enough_nan ⟨k0, k1, k2, k3, k4, k5, k6, k7, k8, k9⟩ goal.toNat hN (by omega) m none 0 0 W)
  have CV := Lib.hid (fun (m : Int) (hm : m ≤ 0) (a : Option Addr) (z : Nat → Int) (W : World) (hr : RdZ2 W a 2 z) => show Calls Tryz.prog 18 #[.agg #[.int .i64 k0, .int .i64 k1, .int .i64 k2, .int .i64 k3, .int .i64 k4, .int .u64 k5, .float .f64 k6, .float .f64 k7, .float .f64 k8, .int .i64 k9], .int .i64 m, .slice a 2 2] W (fun e w' => ∃ A cc, e = .returned (.slice A 0 cc) ∧ Below W.heap.size W w') from
    (ad_curve ⟨k0, k1, k2, k3, k4, k5, k6, k7, k8, k9⟩ CF0.out.1 m a 2 2 z W hr (by omega) (by omega) (by omega)).mono (fun e w' ⟨v, he, ho, hb⟩ => by
      rw [mostN0 hm] at ho
      obtain ⟨A, cc, rfl⟩ := own_slice ho
      exact ⟨A, cc, he, hb⟩))
  have RT := Lib.hid (fun (W : World) => show Calls Tryz.prog 19 #[.agg #[.int .i64 k0, .int .i64 k1, .int .i64 k2, .int .i64 k3, .int .i64 k4, .int .u64 k5, .float .f64 k6, .float .f64 k7, .float .f64 k8, .int .i64 k9], .slice none 0 0] W (fun e w' => ∃ f, e = .returned (.tuple #[.float .f64 f, .int .i64 0]) ∧ (FloatKind.f64.format.order f f != some .eq) = true ∧ Below W.heap.size W w') from
    (ad_rate ⟨k0, k1, k2, k3, k4, k5, k6, k7, k8, k9⟩ CF0.out.1 CF0.out.2 none 0 0 (fun _ => 0) W (rdz_none _ _) (by omega) (by omega) (by omega)).mono (fun e w' ⟨f, he, ⟨hf, hcf, _⟩, hb⟩ => ⟨f, he, (by
      have h : cn f = none := hcf.trans rt0
      rw [ne_self f hf]
      cases hN : isN f
      · rw [cnN_num hN] at h; cases h
      · rfl), hb⟩))
  have AW := Lib.hid (fun W => awake37 W)
  have e2 : (FloatKind.f64.format.order 0 0 == some .eq) = true := by kernel_rfl
  obtain ⟨m4, hm4⟩ : ∃ m4 : Int, (if (4 : Int) < most then 4 else most) = m4 := ⟨_, rfl⟩
  obtain ⟨m0, hm0⟩ : ∃ m0 : Int, (if (0 : Int) < most then 0 else most) = m0 := ⟨_, rfl⟩
  have M00 := Lib.hid (show m0 ≤ 0 by rw [← hm0]; split <;> omega)
  change Calls Tryz.prog 5 #[.agg #[.int .u8 bl, .int .u8 sl, .int .u8 lo, .int .u8 wi, .int .u8 bu, .int .u64 seed, .int .u64 keep, .int .u64 margin, .int .u64 ghost, .int .u8 run], .int .i64 most, .int .u64 goal] w _
  go_enter Tryz.func5, Tryz.ntmps5
  go_wp2_with fail
  refine (SC.out _).mono ?_
  rintro e w1 ⟨rfl, b1⟩
  have B1 := Lib.hid (((Below.refl w.heap.size w).alloc (Nat.le_refl _) _).trans (b1.mono (by simp)))
  have TH := Lib.hid (cnf_there w1)
  clear b1
  go_wp2_with (
    refine wpList_store_mid rfl 28 (.tmp 7) (.tmp 20) rfl w1.heap.size 0 #[.int .i64 k0, .int .i64 k1, .int .i64 k2, .int .i64 k3, .int .i64 k4, .int .u64 k5, .float .f64 k6, .float .f64 k7, .float .f64 k8, .int .i64 k9] rfl rfl TH.out (by kernel_rfl) (by simp [Value.oneCell']) ?_
    obtain ⟨w3, hw3, BXC, BXB⟩ := cnf_put w1 k0 k1 k2 k3 k4 k5 k6 k7 k8 k9
    rw [hw3]
    have B3 := Lib.hid (B1.out.trans (BXB.1.mono B1.out.size))
    have bx3 : w1.heap.size < w3.heap.size := by have := BXB.2; omega
    have BXC := Lib.hid (fun W (kk : Below w3.heap.size w3 W) => BXC.below kk bx3)
    clear hw3 TH BXB bx3)
  refine (BN.out _ _ _ (row2_at w3 1 2 ⟨by decide, by decide⟩ ⟨by decide, by decide⟩)).mono ?_
  rintro e w4 ⟨rfl, b4⟩
  have kk4 := Lib.hid (((Below.refl w3.heap.size w3).alloc (Nat.le_refl _) _).trans (b4.mono (by simp)))
  clear b4
  obtain ⟨x0, x1, x2, x3, x4, x5, x6, x7, x8, x9⟩ := BXC.out _ kk4.out
  go_wp2_with fail
  clear x0 x1 x2 x3 x4 x5 x6 x7 x8 x9
  refine (BO.out _ _ (cfl_one w4 ⟨k0, k1, k2, k3, k4, k5, k6, k7, k8, k9⟩)).mono ?_
  rintro e w5 ⟨rfl, b5⟩
  have kk5 := Lib.hid (kk4.out.trans ((((Below.refl w4.heap.size w4).alloc (Nat.le_refl _) _).trans (b5.mono (by simp))).mono kk4.out.size))
  clear b5
  go_wp2_with fail
  have Y1 : w5.cell? ⟨w1.heap.size, 0, none⟩ = some (.int .i64 k0) ∧ w5.cell? ⟨w1.heap.size, 1, none⟩ = some (.int .i64 k1) ∧ w5.cell? ⟨w1.heap.size, 2, none⟩ = some (.int .i64 k2) ∧ w5.cell? ⟨w1.heap.size, 3, none⟩ = some (.int .i64 k3) ∧ w5.cell? ⟨w1.heap.size, 4, none⟩ = some (.int .i64 k4) ∧ w5.cell? ⟨w1.heap.size, 5, none⟩ = some (.int .u64 k5) ∧ w5.cell? ⟨w1.heap.size, 6, none⟩ = some (.float .f64 k6) ∧ w5.cell? ⟨w1.heap.size, 7, none⟩ = some (.float .f64 k7) ∧ w5.cell? ⟨w1.heap.size, 8, none⟩ = some (.float .f64 k8) ∧ w5.cell? ⟨w1.heap.size, 9, none⟩ = some (.int .i64 k9) := BXC.out _ kk5.out
  go_region_held_law (fun W => W.cell? ⟨w1.heap.size, 0, none⟩ = some (.int .i64 k0) ∧ W.cell? ⟨w1.heap.size, 1, none⟩ = some (.int .i64 k1) ∧ W.cell? ⟨w1.heap.size, 2, none⟩ = some (.int .i64 k2) ∧ W.cell? ⟨w1.heap.size, 3, none⟩ = some (.int .i64 k3) ∧ W.cell? ⟨w1.heap.size, 4, none⟩ = some (.int .i64 k4) ∧ W.cell? ⟨w1.heap.size, 5, none⟩ = some (.int .u64 k5) ∧ W.cell? ⟨w1.heap.size, 6, none⟩ = some (.float .f64 k6) ∧ W.cell? ⟨w1.heap.size, 7, none⟩ = some (.float .f64 k7) ∧ W.cell? ⟨w1.heap.size, 8, none⟩ = some (.float .f64 k8) ∧ W.cell? ⟨w1.heap.size, 9, none⟩ = some (.int .i64 k9)) (first | exact Y1 | exact Y2)
    (first
      | (go_at_call 16; (with_reducible refine (EN.out _ _).mono ?_); rintro e w6 ⟨rfl, b6⟩; have bb6 := kk5.out.trans ((((Below.refl w5.heap.size w5).drew).trans (b6.mono (show w5.heap.size ≤ w5.drew.heap.size from Nat.le_refl _))).mono kk5.out.size); have kk6 := Lib.hid bb6; have Y2 : w6.cell? ⟨w1.heap.size, 0, none⟩ = some (.int .i64 k0) ∧ w6.cell? ⟨w1.heap.size, 1, none⟩ = some (.int .i64 k1) ∧ w6.cell? ⟨w1.heap.size, 2, none⟩ = some (.int .i64 k2) ∧ w6.cell? ⟨w1.heap.size, 3, none⟩ = some (.int .i64 k3) ∧ w6.cell? ⟨w1.heap.size, 4, none⟩ = some (.int .i64 k4) ∧ w6.cell? ⟨w1.heap.size, 5, none⟩ = some (.int .u64 k5) ∧ w6.cell? ⟨w1.heap.size, 6, none⟩ = some (.float .f64 k6) ∧ w6.cell? ⟨w1.heap.size, 7, none⟩ = some (.float .f64 k7) ∧ w6.cell? ⟨w1.heap.size, 8, none⟩ = some (.float .f64 k8) ∧ w6.cell? ⟨w1.heap.size, 9, none⟩ = some (.int .i64 k9) := BXC.out _ bb6))
  all_goals (
    obtain ⟨x0, x1, x2, x3, x4, x5, x6, x7, x8, x9⟩ := Y2
    clear Y1
    go_wp2_with fail
    clear x0 x1 x2 x3 x4 x5 x6 x7 x8 x9
    refine (CV.out _ M00.out _ _ _ (row2_at _ 1 1 ⟨by decide, by decide⟩ ⟨by decide, by decide⟩)).mono ?_
    rintro e w7 ⟨A7, c7, rfl, b7⟩
    have kk7 := Lib.hid (kk6.out.trans ((((Below.refl w6.heap.size w6).alloc (Nat.le_refl _) (.cells #[.int .i64 1, .int .i64 1] 3)).trans (b7.mono (by simp))).mono kk6.out.size))
    clear b7
    obtain ⟨x0, x1, x2, x3, x4, x5, x6, x7, x8, x9⟩ := BXC.out _ kk7.out
    go_wp2_with fail
    clear x0 x1 x2 x3 x4 x5 x6 x7 x8 x9
    refine (RT.out _).mono ?_
    rintro e w8 ⟨f8, rfl, hf8, b8⟩
    have kk8 := Lib.hid (kk7.out.trans (b8.mono kk7.out.size))
    clear b8
    go_wp2_with fail
    refine (AW.out _).mono ?_
    rintro e w9 ⟨rfl, b9⟩
    have B9 := Lib.hid (B3.out.trans ((kk8.out.trans (b9.mono kk8.out.size)).mono B3.out.size))
    clear b9
    go_wp2
    go_ret
    exact ⟨rfl, B9.out⟩)
end Go.Proofs.YtbgknopjgohocaaGreat
