/- What is in the slots in the end: All, and Kept. -/
import Derived.Test.YtbgknopjgohocaaGreatKc
import Derived.Test.YtbgknopjgohocaaGreatZH
namespace Go.Proofs.YtbgknopjgohocaaGreat
open Go.RowKit Fl
open Scan hiding isN
set_option linter.unusedVariables false
set_option maxRecDepth 100000
set_option maxHeartbeats 2000000

theorem pl_All {w : World} {b sb wb nb ns N : Nat} {P : PLS} {m : Int} (h : Pl w b sb wb nb ns N P m) :
    Calls Tryz.prog 25 #[.pointer (some ⟨b, 0, none⟩)] w fun e W' => ∃ v, e = .returned v ∧ W'.ownsRow w.heap.size 93 3 v (usedR P.sl 0 ns).length (rowE P.sl (usedR P.sl 0 ns)) ∧ Below w.heap.size w W' := by
  have n1 := h.i.n1
  have RW := Lib.hid (show Calls Tryz.prog 34 #[.pointer (some ⟨b, 0, none⟩), .int .i64 0, .int .i64 192] w (fun e W' => ∃ v, e = .returned v ∧ W'.ownsRow w.heap.size 93 3 v (usedR P.sl 0 ns).length (rowE P.sl (usedR P.sl 0 ns)) ∧ Below w.heap.size w W') from by
    have := pl_rows h 0 192 (by omega) (by omega)
    rw [show min 192 ns - 0 = ns by omega] at this
    exact this)
  clear h
  go_enter Tryz.func25, Tryz.ntmps25
  go_wp2_with fail
  refine RW.out.mono ?_
  rintro e w1 ⟨v, rfl, o1, b1⟩
  have Q := Lib.hid (And.intro o1 b1)
  clear o1 b1
  go_wp2
  go_ret
  exact ⟨_, rfl, Q.out.1, Q.out.2⟩

theorem tr_kept_no (c : CF) (hm : c.may = false) (a : Option Addr) (n cp : Nat) (w : World) :
    Calls Tryz.prog 13 #[.agg c.cs, .slice a n cp] w fun e w' => e = .returned (.tuple #[.slice none 0 0, .int .i64 100]) ∧ Below w.heap.size w w' := by
  have NB := Lib.hid (fun W => tr_noN c hm a n cp W)
  obtain ⟨k0, k1, k2, k3, k4, k5, k6, k7, k8, k9⟩ := c
  clear hm
  change Calls Tryz.prog 13 #[.agg #[.int .i64 k0, .int .i64 k1, .int .i64 k2, .int .i64 k3, .int .i64 k4, .int .u64 k5, .float .f64 k6, .float .f64 k7, .float .f64 k8, .int .i64 k9], .slice a n cp] w _
  have B0 := Lib.hid ((Below.refl w.heap.size w).alloc (Nat.le_refl _) (.cells #[.int .i64 k0, .int .i64 k1, .int .i64 k2, .int .i64 k3, .int .i64 k4, .int .u64 k5, .float .f64 k6, .float .f64 k7, .float .f64 k8, .int .i64 k9] 28))
  go_enter Tryz.func13, Tryz.ntmps13
  go_wp2_with fail
  refine (NB.out _).mono ?_
  rintro e w1 ⟨rfl, b1⟩
  have B1 := Lib.hid (B0.out.trans (b1.mono B0.out.size))
  clear b1
  go_wp2
  go_ret2
  exact ⟨rfl, B1.out⟩

theorem tr_kept (c : CF) (B : CFB c) (hm : c.may = true) (a : Option Addr) (n cp : Nat) (z : Nat → Int) (w : World) (hr : RdZ2 w a n z) (hn : n ≤ 1000) (hc : n ≤ cp) (hm9 : cp ≤ 9223372036854775807) :
    Calls Tryz.prog 13 #[.agg c.cs, .slice a n cp] w fun e w' => ∃ v, e = .returned (.tuple #[v, .int .i64 0]) ∧ w'.ownsRow w.heap.size 93 3 v (usedR (goR (rcOf c) z n).2.pl.sl 0 (rcOf c).c.n).length (rowE (goR (rcOf c) z n).2.pl.sl (usedR (goR (rcOf c) z n).2.pl.sl 0 (rcOf c).c.n)) ∧ HVs (rcOf c) z n ∧ Below w.heap.size w w' := by
  have NB := Lib.hid (fun W (k : Below w.heap.size w W) => tr_rec c B hm a n cp z W (hr.below k) hn hc hm9)
  generalize rcOf c = r at *
  obtain ⟨k0, k1, k2, k3, k4, k5, k6, k7, k8, k9⟩ := c
  generalize hhv : HVs r z n = HV at *
  generalize hs : (goR r z n).2 = s at *
  have NB := Lib.hid (fun W (k : Below w.heap.size w W) => show Calls Tryz.prog 21 #[.agg #[.int .i64 k0, .int .i64 k1, .int .i64 k2, .int .i64 k3, .int .i64 k4, .int .u64 k5, .float .f64 k6, .float .f64 k7, .float .f64 k8, .int .i64 k9], .slice a n cp, .func (.func 23) #[] #[]] W (fun e w' => ∃ b q, e = .returned (.tuple #[.pointer (some ⟨b, 0, none⟩), .int .i64 0]) ∧ Run1 (RuX b q r (.func (.func 23) #[] #[]) s) W w' ∧ HV) from NB.out W k)
  clear B hm hr hn hc hm9 hs hhv
  change Calls Tryz.prog 13 #[.agg #[.int .i64 k0, .int .i64 k1, .int .i64 k2, .int .i64 k3, .int .i64 k4, .int .u64 k5, .float .f64 k6, .float .f64 k7, .float .f64 k8, .int .i64 k9], .slice a n cp] w _
  have B0 := Lib.hid ((Below.refl w.heap.size w).alloc (Nat.le_refl _) (.cells #[.int .i64 k0, .int .i64 k1, .int .i64 k2, .int .i64 k3, .int .i64 k4, .int .u64 k5, .float .f64 k6, .float .f64 k7, .float .f64 k8, .int .i64 k9] 28))
  go_enter Tryz.func13, Tryz.ntmps13
  go_wp2_with fail
  refine (NB.out _ B0.out).mono ?_
  rintro e w1 ⟨b, q, rfl, ⟨g1, b1⟩, hv⟩
  have HV1 := Lib.hid hv
  have B1 := Lib.hid (B0.out.trans (b1.mono B0.out.size))
  have d1 : w1.cell? ⟨b, 1, none⟩ = some (.pointer (some ⟨q.pl, 0, none⟩)) := g1.top.cell (i := 1) (by omega)
  obtain ⟨sb, wb, m, pl⟩ := g1.pla
  have PA := Lib.hid (pl_All pl)
  clear g1 b1 hv pl
  go_wp2_with fail
  refine PA.out.mono ?_
  rintro e w2 ⟨v, rfl, o2, b2⟩
  have O2 := Lib.hid (And.intro o2 b2)
  clear o2 b2
  go_wp2
  go_ret2
  refine ⟨_, rfl, ?_, HV1.out, B1.out.trans (O2.out.2.mono B1.out.size)⟩
  obtain ⟨h1, h2⟩ := O2.out.1
  exact ⟨h1, h2.imp id (fun ⟨g, cap, cur, e, hb, rr⟩ => ⟨g, cap, cur, e, Nat.le_trans B1.out.size hb, rr⟩)⟩
end Go.Proofs.YtbgknopjgohocaaGreat
