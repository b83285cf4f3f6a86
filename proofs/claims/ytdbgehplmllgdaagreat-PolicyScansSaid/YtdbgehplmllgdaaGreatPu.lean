/- What calls make of a policy: the statement's walk. -/
import Derived.Test.YtdbgehplmllgdaaGreatPt
import Derived.Test.YtdbgehplmllgdaaGreatPk
import Derived.Deep.MidRow
namespace Go.Proofs.YtdbgehplmllgdaaGreat
open Go.RowKit Fl
open Scan hiding isN
set_option linter.unusedVariables false
set_option maxRecDepth 100000
set_option maxHeartbeats 2000000

theorem conf_there (w1 : World) : (w1.alloc (.cells #[.int .i64 0, .int .i64 0, .int .i64 0, .int .i64 0, .int .i64 0, .int .u64 0, .float .f64 0, .float .f64 0, .float .f64 0, .int .i64 0] 27)).there w1.heap.size 0 10 := fun j hj => by
  have : j = 0 ∨ j = 1 ∨ j = 2 ∨ j = 3 ∨ j = 4 ∨ j = 5 ∨ j = 6 ∨ j = 7 ∨ j = 8 ∨ j = 9 := by omega
  have hy := heap_at w1 (.cells #[.int .i64 0, .int .i64 0, .int .i64 0, .int .i64 0, .int .i64 0, .int .u64 0, .float .f64 0, .float .f64 0, .float .f64 0, .int .i64 0] 27) w1.heap.size rfl
  rw [Nat.zero_add]
  refine ⟨?_, blk_free hy j⟩
  rw [blk_cell' hy]
  rcases this with rfl | rfl | rfl | rfl | rfl | rfl | rfl | rfl | rfl | rfl <;> rfl
theorem conf_kept (w1 : World) (c : CF) : BX ((w1.alloc (.cells #[.int .i64 0, .int .i64 0, .int .i64 0, .int .i64 0, .int .i64 0, .int .u64 0, .float .f64 0, .float .f64 0, .float .f64 0, .int .i64 0] 27)).setCells w1.heap.size 0 c.cs.toList) w1.heap.size c ∧ (Below w1.heap.size w1 ((w1.alloc (.cells #[.int .i64 0, .int .i64 0, .int .i64 0, .int .i64 0, .int .i64 0, .int .u64 0, .float .f64 0, .float .f64 0, .float .f64 0, .int .i64 0] 27)).setCells w1.heap.size 0 c.cs.toList) ∧ ((w1.alloc (.cells #[.int .i64 0, .int .i64 0, .int .i64 0, .int .i64 0, .int .i64 0, .int .u64 0, .float .f64 0, .float .f64 0, .float .f64 0, .int .i64 0] 27)).setCells w1.heap.size 0 c.cs.toList).heap.size = w1.heap.size + 1) := by
  have CI := World.cell?_setCells_in w1.heap.size c.cs.toList 0 (w1.alloc (.cells #[.int .i64 0, .int .i64 0, .int .i64 0, .int .i64 0, .int .i64 0, .int .u64 0, .float .f64 0, .float .f64 0, .float .f64 0, .int .i64 0] 27)) (fun j hj => (conf_there w1 j hj).1)
  simp only [Nat.zero_add] at CI
  have k := Keeps.setCells w1.heap.size c.cs.toList 0 (w1.alloc (.cells #[.int .i64 0, .int .i64 0, .int .i64 0, .int .i64 0, .int .i64 0, .int .u64 0, .float .f64 0, .float .f64 0, .float .f64 0, .int .i64 0] 27))
  refine ⟨⟨CI 0 (show 0 < 10 by omega), CI 1 (show 1 < 10 by omega), CI 2 (show 2 < 10 by omega), CI 3 (show 3 < 10 by omega), CI 4 (show 4 < 10 by omega), CI 5 (show 5 < 10 by omega), CI 6 (show 6 < 10 by omega), CI 7 (show 7 < 10 by omega), CI 8 (show 8 < 10 by omega), CI 9 (show 9 < 10 by omega)⟩, ((Keeps.of_below ((Below.refl w1.heap.size w1).alloc (Nat.le_refl _) (.cells #[.int .i64 0, .int .i64 0, .int .i64 0, .int .i64 0, .int .i64 0, .int .u64 0, .float .f64 0, .float .f64 0, .float .f64 0, .int .i64 0] 27))).trans k (fun n (hn : n = w1.heap.size) => .inl (by omega))).below (Nat.le_refl _), ?_⟩
  have : ∀ (vs : List Value) (o : Nat) (W : World), (W.setCells w1.heap.size o vs).heap.size = W.heap.size := by
    intro vs
    induction vs with
    | nil => intro o W; rfl
    | cons v r ih => intro o W; rw [World.setCells, ih, World.size_setCell]
  rw [this]
  simp
theorem conf_put (w1 : World) (k0 k1 k2 k3 k4 k5 : Int) (k6 k7 k8 : Nat) (k9 : Int) : ∃ w3, (w1.alloc (.cells #[.int .i64 0, .int .i64 0, .int .i64 0, .int .i64 0, .int .i64 0, .int .u64 0, .float .f64 0, .float .f64 0, .float .f64 0, .int .i64 0] 27)).setCells w1.heap.size 0 (#[.int .i64 k0, .int .i64 k1, .int .i64 k2, .int .i64 k3, .int .i64 k4, .int .u64 k5, .float .f64 k6, .float .f64 k7, .float .f64 k8, .int .i64 k9] : Array Value).toList = w3 ∧ BX w3 w1.heap.size ⟨k0, k1, k2, k3, k4, k5, k6, k7, k8, k9⟩ ∧ (Below w1.heap.size w1 w3 ∧ w3.heap.size = w1.heap.size + 1) :=
  ⟨_, rfl, conf_kept w1 ⟨k0, k1, k2, k3, k4, k5, k6, k7, k8, k9⟩⟩
theorem pp_c17 {S : Nat → Prop} {w : World} {b b' : Nat} {c : PC} {s s' : PV} (h : PP b b' c s s' S w) : w.cell? ⟨b', 17, none⟩ = some (.bool s'.scan) := by
  obtain ⟨A, ⟨⟨cf, p, vg, vr, hx⟩, _⟩, _⟩ := Two.r h
  exact hx.cells.c17
theorem policyPlays_walk (s : SV) (hs : SVB s) (a : Option Addr) (n cp : Nat) (K Y Z : Nat → Int) (lba : Int) (w : World) (h : Act26 w a n K Y Z) (hc : n ≤ cp) (hm : cp ≤ 9223372036854775807) :
    Calls Tryz.prog 5 #[s.v, .slice a n cp, .int .i64 lba] w fun e w' => e = .returned (.bool true) ∧ Below w.heap.size w w' := by
  have HC0 := confS_ok hs
  have HM0 := confS_may hs
  have SC0 := Lib.hid (fun W => set_conf s hs W)
  generalize confS s = cf at *
  have NP := Lib.hid (fun W => po_new cf HC0 HM0 W)
  have NR := Lib.hid (fun W => rp_new cf HC0 HM0 W)
  have HA := Lib.hid h
  generalize pcOf cf = c at *
  obtain ⟨sl, seed, keep, margin, ghost, run⟩ := s
  obtain ⟨k0, k1, k2, k3, k4, k5, k6, k7, k8, k9⟩ := cf
  have SC := Lib.hid (fun W => show Calls Tryz.prog 9 #[.agg #[.int .u8 sl, .int .u64 seed, .int .u64 keep, .int .u64 margin, .int .u64 ghost, .int .u8 run]] W (fun e w' => e = .returned (.agg #[.int .i64 k0, .int .i64 k1, .int .i64 k2, .int .i64 k3, .int .i64 k4, .int .u64 k5, .float .f64 k6, .float .f64 k7, .float .f64 k8, .int .i64 k9]) ∧ Below W.heap.size W w') from SC0.out W)
  have NP := Lib.hid (fun W => show Calls Tryz.prog 10 #[.agg #[.int .i64 k0, .int .i64 k1, .int .i64 k2, .int .i64 k3, .int .i64 k4, .int .u64 k5, .float .f64 k6, .float .f64 k7, .float .f64 k8, .int .i64 k9]] W (fun e w' => ∃ b, e = .returned (.tuple #[.pointer (some ⟨b, 0, none⟩), .int .i64 0]) ∧ PoO b c pv0 (New W w') w' ∧ Below W.heap.size W w') from NP.out W)
  have NR := Lib.hid (fun W => show Calls Tryz.prog 24 #[.agg #[.int .i64 k0, .int .i64 k1, .int .i64 k2, .int .i64 k3, .int .i64 k4, .int .u64 k5, .float .f64 k6, .float .f64 k7, .float .f64 k8, .int .i64 k9]] W (fun e w' => ∃ b, e = .returned (.pointer (some ⟨b, 0, none⟩)) ∧ RpO b c pv0 (New W w') w' ∧ Below W.heap.size W w') from NR.out W)
  clear SC0 HC0 HM0
  have hn9 : (n : Int) ≤ 9223372036854775807 := by omega
  have hc9 : (n : Int) ≤ (cp : Int) := by omega
  have hm9 : (cp : Int) ≤ 9223372036854775807 := by omega
  clear h hs hc hm
  show Calls Tryz.prog 5 #[.agg #[.int .u8 sl, .int .u64 seed, .int .u64 keep, .int .u64 margin, .int .u64 ghost, .int .u8 run], .slice a n cp, .int .i64 lba] w _
  go_enter Tryz.func5, Tryz.ntmps5
  go_wp2_with fail
  refine (SC.out _).mono ?_
  rintro e w1 ⟨rfl, b1⟩
  have B1 := Lib.hid (((Below.refl w.heap.size w).alloc (Nat.le_refl _) _).trans (b1.mono (by simp)))
  have TH := Lib.hid (conf_there w1)
  clear b1
  go_wp2_with (
    refine wpList_store_mid rfl 27 (.tmp 7) (.tmp 13) rfl w1.heap.size 0 #[.int .i64 k0, .int .i64 k1, .int .i64 k2, .int .i64 k3, .int .i64 k4, .int .u64 k5, .float .f64 k6, .float .f64 k7, .float .f64 k8, .int .i64 k9] rfl rfl TH.out (by kernel_rfl) (by simp [Value.oneCell']) ?_
    obtain ⟨w3, hw3, BXC, BXB⟩ := conf_put w1 k0 k1 k2 k3 k4 k5 k6 k7 k8 k9
    rw [hw3]
    have B3 := Lib.hid (B1.out.trans (BXB.1.mono B1.out.size))
    have bx3 : w1.heap.size < w3.heap.size := by have := BXB.2; omega
    have BXC := Lib.hid BXC
    obtain ⟨c0, c1, c2, c3, c4, c5, c6, c7, c8, c9⟩ := BXC.out
    clear hw3 TH BXB)
  refine (NP.out _).mono ?_
  rintro e w4 ⟨b, rfl, g4, b4⟩
  have BX4 := Lib.hid (BXC.out.below b4 bx3)
  have G4 := Lib.hid (show Run1 (PoO b c pv0) w w4 from ⟨Rep.mono g4 (fun k x => ⟨Nat.le_trans B3.out.size x.1, x.2⟩), B3.out.trans (b4.mono B3.out.size)⟩)
  clear g4 b4 c0 c1 c2 c3 c4 c5 c6 c7 c8 c9
  obtain ⟨c0, c1, c2, c3, c4, c5, c6, c7, c8, c9⟩ := BX4.out
  go_wp2_with fail
  refine (NR.out _).mono ?_
  rintro e w5 ⟨b', rfl, g5, b5⟩
  have G5 := Lib.hid (show Run1 (PP b b' c pv0 pv0) w w5 from G4.out.and g5 b5)
  clear g5 b5 c0 c1 c2 c3 c4 c5 c6 c7 c8 c9
  have DO := Lib.hid (fun (W : World) (s : PV) (hN : s.N < 1000000) (x : Run1 (PP b b' c s s) w W) (kind slot lba : Int) (hz : i64 lba) => Run1.step x (fun A g o => pp_do g o hN kind slot lba hz))
  have SAME := Lib.hid (fun (W : World) (s : PV) (x : Run1 (PP b b' c s s) w W) (z : Int) => Run1.step x (fun A g o => pp_same g o z))
  go_wp2
  go_loopw [11] (fun i wr => ∃ (k : Nat) (s : PV), k ≤ n ∧ k ≤ 50 ∧ i = .int .i64 (k : Int) ∧ s.N ≤ k ∧ Run1 (PP b b' c s s) w wr) (fun i _ => 50 - (intOf i).toNat)
  case atStart => exact ⟨0, pv0, Nat.zero_le _, by omega, rfl, Nat.le_refl _, G5.out⟩
  case round =>
    obtain ⟨k, s, hkn, hk50, rfl, hsn, hR⟩ := hrel
    have HR := Lib.hid hR
    have HN := Lib.hid (show s.N < 1000000 by omega)
    clear hR
    by_cases h1 : k < n
    · by_cases h2 : k < 50
      · obtain ⟨ab, off, rfl, hcc⟩ := HA.out (by omega)
        obtain ⟨q0, q1, q2, qz⟩ := hcc k h1
        have lt0 := World.block_lt_of_cell? w _ q0
        have r0 := (HR.out.2.cell lt0).trans q0
        have r1 := (HR.out.2.cell (p := ⟨ab, off + k * 3 + 1, none⟩) lt0).trans q1
        have r2 := (HR.out.2.cell (p := ⟨ab, off + k * 3 + 2, none⟩) lt0).trans q2
        have CL := Lib.hid (fun W (kk : Below w.heap.size w W) => (kk.cell (p := ⟨ab, off + k * 3 + 2, none⟩) lt0).trans q2)
        have D1 := Lib.hid (DO.out wr s HN.out HR.out (K k) (Y k) (Z k) qz)
        have HSN := Lib.hid (show (actP c s (K k) (Y k) (Z k)).N ≤ k + 1 from Nat.le_trans (actP_N c s _ _ _) (by omega))
        generalize actP c s (K k) (Y k) (Z k) = s' at *
        clear q0 q1 q2 hcc qz lt0 hsn
        have hkm : (k : Int) < (n : Int) := by omega
        have hk4 : (k : Int) < 50 := by omega
        have hnn : (k : Int) + 1 ≤ 9223372036854775807 := by omega
        go_wp2_with fail
        refine D1.out.mono ?_
        rintro e w6 ⟨rfl, g6⟩
        have G6 := Lib.hid g6
        clear g6 r0 r1 r2
        go_wp2_with fail
        refine (SAME.out _ _ G6.out lba).mono ?_
        rintro e w7 ⟨rfl, g7⟩
        have G7 := Lib.hid g7
        have r2 := CL.out _ g7.2
        clear g7
        go_wp2_with fail
        refine (SAME.out _ _ G7.out (Z k)).mono ?_
        rintro e w8 ⟨rfl, g8⟩
        have G8 := Lib.hid g8
        clear g8 r2
        go_wp2
        go_roundw
        case rel => exact ⟨k + 1, s', by omega, by omega, by simp, HSN.out, G8.out⟩
        case measure => simp only [intOf]; omega
      · have hkm : (k : Int) < (n : Int) := by omega
        have hk4 : ¬ (k : Int) < 50 := by omega
        go_wp2_with fail
        refine (SAME.out _ _ HR.out lba).mono ?_
        rintro e w6 ⟨rfl, g6⟩
        have B6 := Lib.hid g6.2
        clear g6
        go_wp2_with fail
        refine (poAwake _).mono ?_
        rintro e w7 ⟨rfl, b7⟩
        have B7 := Lib.hid (B6.out.trans (b7.mono B6.out.size))
        clear b7
        go_wp2
        go_ret
        exact ⟨rfl, B7.out⟩
    · have hkm : ¬ (k : Int) < (n : Int) := by omega
      go_wp2_with fail
      refine (SAME.out _ _ HR.out lba).mono ?_
      rintro e w6 ⟨rfl, g6⟩
      have B6 := Lib.hid g6.2
      clear g6
      go_wp2_with fail
      refine (poAwake _).mono ?_
      rintro e w7 ⟨rfl, b7⟩
      have B7 := Lib.hid (B6.out.trans (b7.mono B6.out.size))
      clear b7
      go_wp2
      go_ret
      exact ⟨rfl, B7.out⟩
end Go.Proofs.YtdbgehplmllgdaaGreat
