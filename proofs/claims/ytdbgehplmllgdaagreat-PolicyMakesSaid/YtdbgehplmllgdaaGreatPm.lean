/- What void policies answer; which policies there are: the statement's walk. -/
import Derived.Test.YtdbgehplmllgdaaGreatPu
namespace Go.Proofs.YtdbgehplmllgdaaGreat
open Go.RowKit Fl
open Scan hiding isN
set_option linter.unusedVariables false
set_option maxRecDepth 100000
set_option maxHeartbeats 2000000

theorem ptrne (W : World) (a : Option Addr) : (binOp .neq 29 (.pointer a) (.pointer none)).run Tryz.prog W = .ok (.bool (!a.isNone)) W := by
  cases a <;> rfl
/-- A policy that is none, or that nobody made. -/
def Vp (w : World) (v : Value) : Prop := v = .pointer none ∨ ∃ g, v = .pointer (some ⟨g, 0, none⟩) ∧ w.cell? ⟨g, 2, none⟩ = some (.pointer none)
section
variable {w : World} {v : Value}
theorem vp_real (h : Vp w v) : Calls Tryz.prog 50 #[v] w fun e w' => e = .returned (.bool false) ∧ w = w' := by
  rcases h with rfl | ⟨g, rfl, hc⟩
  · go_enter Tryz.func50, Tryz.ntmps50
    go_wp2
    go_ret
    exact ⟨rfl, rfl⟩
  · go_enter Tryz.func50, Tryz.ntmps50
    go_wp2
    go_ret
    exact ⟨rfl, rfl⟩

theorem vp_reset (h : Vp w v) : Calls Tryz.prog 12 #[v] w fun e w' => e = .returned (.tuple #[]) ∧ w = w' := by
  have VR := Lib.hid (vp_real h)
  clear h
  go_enter Tryz.func12, Tryz.ntmps12
  go_wp2_with fail
  refine VR.out.mono ?_
  rintro e w' ⟨rfl, rfl⟩
  go_wp2
  go_end0
  exact ⟨rfl, rfl⟩

theorem vp_victim (h : Vp w v) : Calls Tryz.prog 13 #[v] w fun e w' => e = .returned (.tuple #[.int .i64 0, .int .i64 0, .bool false]) ∧ w = w' := by
  have VR := Lib.hid (vp_real h)
  clear h
  go_enter Tryz.func13, Tryz.ntmps13
  go_wp2_with fail
  refine VR.out.mono ?_
  rintro e w' ⟨rfl, rfl⟩
  go_wp2
  go_ret3
  exact ⟨rfl, rfl⟩

theorem vp_read (h : Vp w v) (x : Int) : Calls Tryz.prog 14 #[v, .int .i64 x] w fun e w' => e = .returned (.bool false) ∧ w = w' := by
  have VR := Lib.hid (vp_real h)
  clear h
  go_enter Tryz.func14, Tryz.ntmps14
  go_wp2_with fail
  refine VR.out.mono ?_
  rintro e w' ⟨rfl, rfl⟩
  go_wp2
  go_ret
  exact ⟨rfl, rfl⟩

theorem vp_hit (h : Vp w v) (x : Int) : Calls Tryz.prog 15 #[v, .int .i64 x] w fun e w' => e = .returned (.bool false) ∧ w = w' := by
  have VR := Lib.hid (vp_real h)
  clear h
  go_enter Tryz.func15, Tryz.ntmps15
  go_wp2_with fail
  refine VR.out.mono ?_
  rintro e w' ⟨rfl, rfl⟩
  go_wp2
  go_ret
  exact ⟨rfl, rfl⟩

theorem vp_enter (h : Vp w v) (x y : Int) : Calls Tryz.prog 16 #[v, .int .i64 x, .int .i64 y] w fun e w' => e = .returned (.bool false) ∧ w = w' := by
  have VR := Lib.hid (vp_real h)
  clear h
  go_enter Tryz.func16, Tryz.ntmps16
  go_wp2_with fail
  refine VR.out.mono ?_
  rintro e w' ⟨rfl, rfl⟩
  go_wp2
  go_ret
  exact ⟨rfl, rfl⟩

theorem vp_leave (h : Vp w v) (x : Int) (g : Bool) : Calls Tryz.prog 17 #[v, .int .i64 x, .bool g] w fun e w' => e = .returned (.bool false) ∧ w = w' := by
  have VR := Lib.hid (vp_real h)
  clear h
  go_enter Tryz.func17, Tryz.ntmps17
  go_wp2_with fail
  refine VR.out.mono ?_
  rintro e w' ⟨rfl, rfl⟩
  go_wp2
  go_ret
  exact ⟨rfl, rfl⟩

theorem vp_welcome (h : Vp w v) (x : Int) : Calls Tryz.prog 18 #[v, .int .i64 x] w fun e w' => e = .returned (.bool false) ∧ w = w' := by
  have VR := Lib.hid (vp_real h)
  clear h
  go_enter Tryz.func18, Tryz.ntmps18
  go_wp2_with fail
  refine VR.out.mono ?_
  rintro e w' ⟨rfl, rfl⟩
  go_wp2
  go_ret
  exact ⟨rfl, rfl⟩

theorem vp_think (h : Vp w v) (x : Int) : Calls Tryz.prog 19 #[v, .int .i64 x] w fun e w' => e = .returned (.int .i64 0) ∧ w = w' := by
  have VR := Lib.hid (vp_real h)
  clear h
  go_enter Tryz.func19, Tryz.ntmps19
  go_wp2_with fail
  refine VR.out.mono ?_
  rintro e w' ⟨rfl, rfl⟩
  go_wp2
  go_ret
  exact ⟨rfl, rfl⟩

theorem vp_ranks (h : Vp w v) : Calls Tryz.prog 20 #[v] w fun e w' => e = .returned (.slice none 0 0) ∧ w = w' := by
  have VR := Lib.hid (vp_real h)
  clear h
  go_enter Tryz.func20, Tryz.ntmps20
  go_wp2_with fail
  refine VR.out.mono ?_
  rintro e w' ⟨rfl, rfl⟩
  go_wp2
  go_ret
  exact ⟨rfl, rfl⟩

theorem vp_ghosts (h : Vp w v) : Calls Tryz.prog 21 #[v] w fun e w' => e = .returned (.slice none 0 0) ∧ w = w' := by
  have VR := Lib.hid (vp_real h)
  clear h
  go_enter Tryz.func21, Tryz.ntmps21
  go_wp2_with fail
  refine VR.out.mono ?_
  rintro e w' ⟨rfl, rfl⟩
  go_wp2
  go_ret
  exact ⟨rfl, rfl⟩

theorem vp_scans (h : Vp w v) : Calls Tryz.prog 22 #[v] w fun e w' => e = .returned (.int .i64 0) ∧ w = w' := by
  have VR := Lib.hid (vp_real h)
  clear h
  go_enter Tryz.func22, Tryz.ntmps22
  go_wp2_with fail
  refine VR.out.mono ?_
  rintro e w' ⟨rfl, rfl⟩
  go_wp2
  go_ret
  exact ⟨rfl, rfl⟩

end

theorem policyMakes_walk (slots run : Int) (s : SV) (hs : SVB s) (lba : Int) (w : World) :
    Calls Tryz.prog 3 #[.int .i64 slots, .int .i64 run, s.v, .int .i64 lba] w fun e w' => e = .returned (.bool true) ∧ Below w.heap.size w w' := by
  have HC0 := confS_ok hs
  have SC0 := Lib.hid (fun W => set_conf s hs W)
  generalize confS s = cf at *
  obtain ⟨sl, seed, keep, margin, ghost, rn⟩ := s
  obtain ⟨k0, k1, k2, k3, k4, k5, k6, k7, k8, k9⟩ := cf
  have HC1 : CFB ⟨k0, slots, k2, k3, k4, k5, k6, k7, k8, run⟩ := ⟨HC0.s0, HC0.s1, HC0.k, HC0.m, HC0.g⟩
  obtain ⟨ok, hok⟩ : ∃ ok, (⟨k0, slots, k2, k3, k4, k5, k6, k7, k8, run⟩ : CF).may = ok := ⟨_, rfl⟩
  have NP := Lib.hid (show ∀ W, Calls Tryz.prog 10 #[.agg #[.int .i64 k0, .int .i64 slots, .int .i64 k2, .int .i64 k3, .int .i64 k4, .int .u64 k5, .float .f64 k6, .float .f64 k7, .float .f64 k8, .int .i64 run]] W (fun e w' => (∃ a er, e = .returned (.tuple #[.pointer a, .int .i64 er]) ∧ a.isNone = !ok ∧ er = (if ok = true then 0 else 100)) ∧ Below W.heap.size W w') from fun W => by
    cases ok
    · exact (po_new_no ⟨k0, slots, k2, k3, k4, k5, k6, k7, k8, run⟩ hok W).mono fun e w' ⟨h1, h2⟩ => ⟨⟨none, 100, h1, rfl, rfl⟩, h2⟩
    · exact (po_new ⟨k0, slots, k2, k3, k4, k5, k6, k7, k8, run⟩ HC1 hok W).mono fun e w' ⟨b, h1, _, h2⟩ => ⟨⟨some ⟨b, 0, none⟩, 0, h1, rfl, rfl⟩, h2⟩)
  have MA := Lib.hid (fun W => show Calls Tryz.prog 11 #[.agg #[.int .i64 k0, .int .i64 slots, .int .i64 k2, .int .i64 k3, .int .i64 k4, .int .u64 k5, .float .f64 k6, .float .f64 k7, .float .f64 k8, .int .i64 run]] W (fun e w' => e = .returned (.bool ok) ∧ Below W.heap.size W w') from hok ▸ may_any ⟨k0, slots, k2, k3, k4, k5, k6, k7, k8, run⟩ W)
  have SC := Lib.hid (fun W => show Calls Tryz.prog 9 #[.agg #[.int .u8 sl, .int .u64 seed, .int .u64 keep, .int .u64 margin, .int .u64 ghost, .int .u8 rn]] W (fun e w' => e = .returned (.agg #[.int .i64 k0, .int .i64 k1, .int .i64 k2, .int .i64 k3, .int .i64 k4, .int .u64 k5, .float .f64 k6, .float .f64 k7, .float .f64 k8, .int .i64 k9]) ∧ Below W.heap.size W w') from SC0.out W)
  clear SC0 HC0 HC1 hok hs
  show Calls Tryz.prog 3 #[.int .i64 slots, .int .i64 run, .agg #[.int .u8 sl, .int .u64 seed, .int .u64 keep, .int .u64 margin, .int .u64 ghost, .int .u8 rn], .int .i64 lba] w _
  go_enter Tryz.func3, Tryz.ntmps3
  go_wp2_with fail
  refine (SC.out _).mono ?_
  rintro e w1 ⟨rfl, b1⟩
  have B1 := Lib.hid (((Below.refl w.heap.size w).alloc (Nat.le_refl _) _).trans (b1.mono (by simp)))
  have TH := Lib.hid (conf_there w1)
  clear b1
  go_wp2_with (
    refine wpList_store_mid rfl 27 (.tmp 9) (.tmp 22) rfl w1.heap.size 0 #[.int .i64 k0, .int .i64 k1, .int .i64 k2, .int .i64 k3, .int .i64 k4, .int .u64 k5, .float .f64 k6, .float .f64 k7, .float .f64 k8, .int .i64 k9] rfl rfl TH.out (by kernel_rfl) (by simp [Value.oneCell']) ?_
    obtain ⟨w3, hw3, BXC, BXB⟩ := conf_put w1 k0 k1 k2 k3 k4 k5 k6 k7 k8 k9
    have FZ : ∀ i, w3.frozen? ⟨w1.heap.size, i, none⟩ = false := fun i => by
      rw [← hw3, World.frozen?_setCells]
      exact blk_free (heap_at w1 _ w1.heap.size rfl) i
    rw [hw3]
    have B3 := Lib.hid (B1.out.trans (BXB.1.mono B1.out.size))
    have bx3 : w1.heap.size < w3.heap.size := by have := BXB.2; omega
    have f1 := FZ 1
    have f9 := FZ 9
    obtain ⟨c0, c1, c2, c3, c4, c5, c6, c7, c8, c9⟩ := BXC
    clear hw3 TH BXB FZ)
  have BX4 : BX ((w3.setCell ⟨w1.heap.size, 1, none⟩ (.int .i64 slots)).setCell ⟨w1.heap.size, 9, none⟩ (.int .i64 run)) w1.heap.size ⟨k0, slots, k2, k3, k4, k5, k6, k7, k8, run⟩ := ⟨(World.cell?_setCell_other _ _ _ _ (by simp)).trans ((World.cell?_setCell_other _ _ _ _ (by simp)).trans c0), (World.cell?_setCell_other _ _ _ _ (by simp)).trans (World.cell?_setCell_same _ _ _ c1), (World.cell?_setCell_other _ _ _ _ (by simp)).trans ((World.cell?_setCell_other _ _ _ _ (by simp)).trans c2), (World.cell?_setCell_other _ _ _ _ (by simp)).trans ((World.cell?_setCell_other _ _ _ _ (by simp)).trans c3), (World.cell?_setCell_other _ _ _ _ (by simp)).trans ((World.cell?_setCell_other _ _ _ _ (by simp)).trans c4), (World.cell?_setCell_other _ _ _ _ (by simp)).trans ((World.cell?_setCell_other _ _ _ _ (by simp)).trans c5), (World.cell?_setCell_other _ _ _ _ (by simp)).trans ((World.cell?_setCell_other _ _ _ _ (by simp)).trans c6), (World.cell?_setCell_other _ _ _ _ (by simp)).trans ((World.cell?_setCell_other _ _ _ _ (by simp)).trans c7), (World.cell?_setCell_other _ _ _ _ (by simp)).trans ((World.cell?_setCell_other _ _ _ _ (by simp)).trans c8), World.cell?_setCell_same _ _ _ ((World.cell?_setCell_other _ _ _ _ (by simp)).trans c9)⟩
  have B4 := Lib.hid ((B3.out.setCell (p := ⟨w1.heap.size, 1, none⟩) B1.out.size (.int .i64 slots)).setCell (p := ⟨w1.heap.size, 9, none⟩) B1.out.size (.int .i64 run))
  have bx4 : w1.heap.size < ((w3.setCell ⟨w1.heap.size, 1, none⟩ (.int .i64 slots)).setCell ⟨w1.heap.size, 9, none⟩ (.int .i64 run)).heap.size := by rw [World.size_setCell, World.size_setCell]; exact bx3
  have BX4 := Lib.hid BX4
  generalize ((w3.setCell ⟨w1.heap.size, 1, none⟩ (.int .i64 slots)).setCell ⟨w1.heap.size, 9, none⟩ (.int .i64 run)) = w4 at *
  clear c0 c1 c2 c3 c4 c5 c6 c7 c8 c9 f1 f9
  refine (NP.out _).mono ?_
  rintro e w5 ⟨⟨a, er, rfl, ha, her⟩, b5⟩
  cases ok
  · obtain rfl : er = 100 := by simpa using her
    cases a with
    | some x => exact absurd ha (by simp)
    | none =>
      clear ha her
      have B5 := Lib.hid (B4.out.trans (b5.mono B4.out.size))
      obtain ⟨c0, c1, c2, c3, c4, c5, c6, c7, c8, c9⟩ := BX4.out.below b5 bx4
      clear b5
      go_wp2_with fail
      refine (MA.out _).mono ?_
      rintro e w6 ⟨rfl, b6⟩
      have B6 := Lib.hid (B5.out.trans (b6.mono B5.out.size))
      clear b6 c0 c1 c2 c3 c4 c5 c6 c7 c8 c9
      have VN := Lib.hid (show Vp (w6.alloc (.cells #[.pointer none, .slice none 0 0, .pointer none, .pointer none, .pointer none, .float .f64 0, .bool false] 42)) (.pointer none) from .inl rfl)
      have VZ := Lib.hid (show Vp (w6.alloc (.cells #[.pointer none, .slice none 0 0, .pointer none, .pointer none, .pointer none, .float .f64 0, .bool false] 42)) (.pointer (some ⟨w6.heap.size, 0, none⟩)) from .inr ⟨_, rfl, blk_cell' (heap_at _ _ _ rfl) 2⟩)
      have BF := Lib.hid (B6.out.alloc B6.out.size (.cells #[.pointer none, .slice none 0 0, .pointer none, .pointer none, .pointer none, .float .f64 0, .bool false] 42))
      go_wp2_with (first
        | (go_at_call 12; (with_reducible refine (vp_reset VN.out).mono ?_); rintro e w' ⟨rfl, rfl⟩)
        | (go_at_call 12; (with_reducible refine (vp_reset VZ.out).mono ?_); rintro e w' ⟨rfl, rfl⟩)
        | (go_at_call 13; (with_reducible refine (vp_victim VN.out).mono ?_); rintro e w' ⟨rfl, rfl⟩)
        | (go_at_call 13; (with_reducible refine (vp_victim VZ.out).mono ?_); rintro e w' ⟨rfl, rfl⟩)
        | (go_at_call 14; (with_reducible refine (vp_read VN.out _).mono ?_); rintro e w' ⟨rfl, rfl⟩)
        | (go_at_call 14; (with_reducible refine (vp_read VZ.out _).mono ?_); rintro e w' ⟨rfl, rfl⟩)
        | (go_at_call 15; (with_reducible refine (vp_hit VN.out _).mono ?_); rintro e w' ⟨rfl, rfl⟩)
        | (go_at_call 15; (with_reducible refine (vp_hit VZ.out _).mono ?_); rintro e w' ⟨rfl, rfl⟩)
        | (go_at_call 16; (with_reducible refine (vp_enter VN.out _ _).mono ?_); rintro e w' ⟨rfl, rfl⟩)
        | (go_at_call 16; (with_reducible refine (vp_enter VZ.out _ _).mono ?_); rintro e w' ⟨rfl, rfl⟩)
        | (go_at_call 17; (with_reducible refine (vp_leave VN.out _ _).mono ?_); rintro e w' ⟨rfl, rfl⟩)
        | (go_at_call 17; (with_reducible refine (vp_leave VZ.out _ _).mono ?_); rintro e w' ⟨rfl, rfl⟩)
        | (go_at_call 18; (with_reducible refine (vp_welcome VN.out _).mono ?_); rintro e w' ⟨rfl, rfl⟩)
        | (go_at_call 18; (with_reducible refine (vp_welcome VZ.out _).mono ?_); rintro e w' ⟨rfl, rfl⟩)
        | (go_at_call 19; (with_reducible refine (vp_think VN.out _).mono ?_); rintro e w' ⟨rfl, rfl⟩)
        | (go_at_call 19; (with_reducible refine (vp_think VZ.out _).mono ?_); rintro e w' ⟨rfl, rfl⟩)
        | (go_at_call 20; (with_reducible refine (vp_ranks VN.out).mono ?_); rintro e w' ⟨rfl, rfl⟩)
        | (go_at_call 20; (with_reducible refine (vp_ranks VZ.out).mono ?_); rintro e w' ⟨rfl, rfl⟩)
        | (go_at_call 21; (with_reducible refine (vp_ghosts VN.out).mono ?_); rintro e w' ⟨rfl, rfl⟩)
        | (go_at_call 21; (with_reducible refine (vp_ghosts VZ.out).mono ?_); rintro e w' ⟨rfl, rfl⟩)
        | (go_at_call 22; (with_reducible refine (vp_scans VN.out).mono ?_); rintro e w' ⟨rfl, rfl⟩)
        | (go_at_call 22; (with_reducible refine (vp_scans VZ.out).mono ?_); rintro e w' ⟨rfl, rfl⟩))
      refine (poAwake _).mono ?_
      rintro e w8 ⟨rfl, b8⟩
      have B8 := Lib.hid (BF.out.trans (b8.mono BF.out.size))
      clear b8
      go_wp2
      go_ret
      exact ⟨rfl, B8.out⟩
  · obtain rfl : er = 0 := by simpa using her
    cases a with
    | none => exact absurd ha (by simp)
    | some x =>
      clear ha her
      have B5 := Lib.hid (B4.out.trans (b5.mono B4.out.size))
      obtain ⟨c0, c1, c2, c3, c4, c5, c6, c7, c8, c9⟩ := BX4.out.below b5 bx4
      clear b5
      go_wp2_with fail
      refine (MA.out _).mono ?_
      rintro e w6 ⟨rfl, b6⟩
      have B6 := Lib.hid (B5.out.trans (b6.mono B5.out.size))
      clear b6 c0 c1 c2 c3 c4 c5 c6 c7 c8 c9
      have VN := Lib.hid (show Vp (w6.alloc (.cells #[.pointer none, .slice none 0 0, .pointer none, .pointer none, .pointer none, .float .f64 0, .bool false] 42)) (.pointer none) from .inl rfl)
      have VZ := Lib.hid (show Vp (w6.alloc (.cells #[.pointer none, .slice none 0 0, .pointer none, .pointer none, .pointer none, .float .f64 0, .bool false] 42)) (.pointer (some ⟨w6.heap.size, 0, none⟩)) from .inr ⟨_, rfl, blk_cell' (heap_at _ _ _ rfl) 2⟩)
      have BF := Lib.hid (B6.out.alloc B6.out.size (.cells #[.pointer none, .slice none 0 0, .pointer none, .pointer none, .pointer none, .float .f64 0, .bool false] 42))
      go_wp2_with (first
        | (go_at_call 12; (with_reducible refine (vp_reset VN.out).mono ?_); rintro e w' ⟨rfl, rfl⟩)
        | (go_at_call 12; (with_reducible refine (vp_reset VZ.out).mono ?_); rintro e w' ⟨rfl, rfl⟩)
        | (go_at_call 13; (with_reducible refine (vp_victim VN.out).mono ?_); rintro e w' ⟨rfl, rfl⟩)
        | (go_at_call 13; (with_reducible refine (vp_victim VZ.out).mono ?_); rintro e w' ⟨rfl, rfl⟩)
        | (go_at_call 14; (with_reducible refine (vp_read VN.out _).mono ?_); rintro e w' ⟨rfl, rfl⟩)
        | (go_at_call 14; (with_reducible refine (vp_read VZ.out _).mono ?_); rintro e w' ⟨rfl, rfl⟩)
        | (go_at_call 15; (with_reducible refine (vp_hit VN.out _).mono ?_); rintro e w' ⟨rfl, rfl⟩)
        | (go_at_call 15; (with_reducible refine (vp_hit VZ.out _).mono ?_); rintro e w' ⟨rfl, rfl⟩)
        | (go_at_call 16; (with_reducible refine (vp_enter VN.out _ _).mono ?_); rintro e w' ⟨rfl, rfl⟩)
        | (go_at_call 16; (with_reducible refine (vp_enter VZ.out _ _).mono ?_); rintro e w' ⟨rfl, rfl⟩)
        | (go_at_call 17; (with_reducible refine (vp_leave VN.out _ _).mono ?_); rintro e w' ⟨rfl, rfl⟩)
        | (go_at_call 17; (with_reducible refine (vp_leave VZ.out _ _).mono ?_); rintro e w' ⟨rfl, rfl⟩)
        | (go_at_call 18; (with_reducible refine (vp_welcome VN.out _).mono ?_); rintro e w' ⟨rfl, rfl⟩)
        | (go_at_call 18; (with_reducible refine (vp_welcome VZ.out _).mono ?_); rintro e w' ⟨rfl, rfl⟩)
        | (go_at_call 19; (with_reducible refine (vp_think VN.out _).mono ?_); rintro e w' ⟨rfl, rfl⟩)
        | (go_at_call 19; (with_reducible refine (vp_think VZ.out _).mono ?_); rintro e w' ⟨rfl, rfl⟩)
        | (go_at_call 20; (with_reducible refine (vp_ranks VN.out).mono ?_); rintro e w' ⟨rfl, rfl⟩)
        | (go_at_call 20; (with_reducible refine (vp_ranks VZ.out).mono ?_); rintro e w' ⟨rfl, rfl⟩)
        | (go_at_call 21; (with_reducible refine (vp_ghosts VN.out).mono ?_); rintro e w' ⟨rfl, rfl⟩)
        | (go_at_call 21; (with_reducible refine (vp_ghosts VZ.out).mono ?_); rintro e w' ⟨rfl, rfl⟩)
        | (go_at_call 22; (with_reducible refine (vp_scans VN.out).mono ?_); rintro e w' ⟨rfl, rfl⟩)
        | (go_at_call 22; (with_reducible refine (vp_scans VZ.out).mono ?_); rintro e w' ⟨rfl, rfl⟩))
      refine (poAwake _).mono ?_
      rintro e w8 ⟨rfl, b8⟩
      have B8 := Lib.hid (BF.out.trans (b8.mono BF.out.size))
      clear b8
      go_wp2
      go_ret
      exact ⟨rfl, B8.out⟩
end Go.Proofs.YtdbgehplmllgdaaGreat
