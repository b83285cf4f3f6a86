/- Both policies side by side: a call of each (do). -/
import Derived.Test.YtdbgehplmllgdaaGreatPn
import Derived.Test.YtdbgehplmllgdaaGreatRv2
import Derived.Deep.RegionHeldLaw
namespace Go.Proofs.YtdbgehplmllgdaaGreat
open Go.RowKit Fl
open Scan hiding isN
set_option linter.unusedVariables false
set_option maxRecDepth 100000
set_option maxHeartbeats 4000000

theorem len_of_nodup : ∀ (n : Nat) (l : List Nat), l.Nodup → (∀ x ∈ l, x < n) → l.length ≤ n := fun n l h hl => by
  have h1 : l.Subset (List.range n) := fun x hx => List.mem_range.2 (hl x hx)
  have := h.length_le_of_subset h1
  simpa using this
theorem PoO.pl {b : Nat} {c : PC} {s : PV} {S : Nat → Prop} {w : World} (h : PoO b c s S w) : PL c s := by
  obtain ⟨⟨p, hx⟩, hc, hs⟩ := h
  obtain ⟨B, ho, _⟩ := hx.ord
  obtain ⟨B', hg, _⟩ := hx.his
  have oi := ho.oinv
  have hn := hc.n1
  obtain ⟨m, v, P, M, now, g, hG, hN, hl, r⟩ := hg
  exact ⟨Nat.le_trans (len_of_nodup c.n _ oi.l1 oi.ll) (by omega), Nat.le_trans (len_of_nodup c.n _ oi.h1 oi.hl) (by omega), oi, hl⟩
theorem PoO.ok {b : Nat} {c : PC} {s : PV} {S : Nat → Prop} {w : World} (h : PoO b c s S w) : PK c ∧ PB s := h.2

/-- What an act makes of what both hold. -/
def actP (c : PC) (s : PV) (kind slot lba : Int) : PV :=
  if kind = 0 then readP c s lba else if kind = 1 then (hitP c s slot).2 else if kind = 2 then (enterP c s slot lba).2 else if kind = 3 then (leaveP c s slot true).2 else if kind = 4 then (leaveP c s slot false).2 else if kind = 5 then resetP c s else s
abbrev PP (b b' : Nat) (c : PC) (s s' : PV) : (Nat → Prop) → World → Prop := Two (PoO b c s) (RpO b' c s')
theorem retB {a b : Bool} (h : a = b) : Ending.returned (.bool a) = .returned (.bool b) := by rw [h]

section
variable {S : Nat → Prop} {w : World} {b b' : Nat} {c : PC} {s : PV}

/-- The box of the act, and the pair behind it. -/
theorem pp_box {R : (Nat → Prop) → World → Prop} [Rep R] (h : R S w) (ho : Own S w) (o : Obj) : OnWay R S (w.alloc o) (w.alloc o) :=
  OnWay.begin (Rep.keep h ho (Keeps.of_below ((Below.refl w.heap.size w).alloc (Nat.le_refl _) o)) (fun k x => Nat.not_le.2 (ho k x))) (ho.grow (by simp))
theorem pp_done {R : (Nat → Prop) → World → Prop} [Rep R] {o : Obj} {w2 : World} (h : OnWay R S (w.alloc o) w2) : R (Ext S w w2) w2 ∧ Keeps S w w2 :=
  ⟨Rep.mono h.1 (fun j x => x.elim .inl (fun y => .inr ⟨Nat.le_trans (by simp) y.1, y.2⟩)), ((Keeps.refl S w).alloc o).trans h.2.2 (fun n hn => .inl hn)⟩
/-- The cells of the act's box. -/
theorem box_cell (w : World) (cs : Array Value) (T : TypeId) (i : Nat) : (w.alloc (.cells cs T)).cell? ⟨w.heap.size, i, none⟩ = cs[i]? := blk_cell' (heap_at w (.cells cs T) w.heap.size rfl) i
theorem pp_c11 {p : RI} {cf : Nat → Value} {vg vr : Value} {bf : Int} {sc : Bool} {lb : Nat → Int} {low high : List Nat} {t : TS} {G rd : List Int} {R : (Nat → Prop) → World → Prop} {W W0 : World} (k : OnWay (Two R (RpX b' cf c p vg vr bf sc lb low high t G rd)) S W0 W) : RpC W b' cf c p vg vr bf sc := by
  obtain ⟨A, h, _⟩ := Two.r k.1
  exact h.cells

theorem pp_do0 (h : PP b b' c s s S w) (ho : Own S w) (hN : s.N < 1000000) (slot lba : Int) (hz : i64 lba) :
    Calls Tryz.prog 25 #[.pointer (some ⟨b, 0, none⟩), .pointer (some ⟨b', 0, none⟩), .agg #[.int .i64 0, .int .i64 slot, .int .i64 lba]] w fun e w' => e = .returned (.bool true) ∧ PP b b' c (readP c s lba) (readP c s lba) (Ext S w w') w' ∧ Keeps S w w' := by
  have HPL := Lib.hid (Two.l h).choose_spec.1.pl
  have HN := Lib.hid hN
  have HZ := Lib.hid hz
  have O0 := Lib.hid (pp_box h ho (.cells #[.int .i64 0, .int .i64 slot, .int .i64 lba] 60))
  have hbx : ¬ S w.heap.size := fun x => Nat.lt_irrefl _ (ho _ x)
  have CB := Lib.hid (fun (W : World) (R : (Nat → Prop) → World → Prop) (k : OnWay R S (w.alloc (.cells #[.int .i64 0, .int .i64 slot, .int .i64 lba] 60)) W) => show W.cell? ⟨w.heap.size, 1, none⟩ = some (.int .i64 slot) ∧ W.cell? ⟨w.heap.size, 2, none⟩ = some (.int .i64 lba) from ⟨OnWay.old k (box_cell w _ _ 1) hbx, OnWay.old k (box_cell w _ _ 2) hbx⟩)
  have PC := Lib.hid (O0.out.drew.call (fun A g o => Two.left g (fun A g o => po_read g o HN.out lba HZ.out)))
  have RC := Lib.hid (fun (W : World) (k : OnWay (PP b b' c (readP c s lba) s) S (w.alloc (.cells #[.int .i64 0, .int .i64 slot, .int .i64 lba] 60)) W) => k.call (fun A g o => Two.right g (fun A g o => rp_read g o HN.out lba HZ.out)))
  have FN := Lib.hid (fun (W : World) (k : OnWay (PP b b' c (readP c s lba) (readP c s lba)) S (w.alloc (.cells #[.int .i64 0, .int .i64 slot, .int .i64 lba] 60)) W) => pp_done k)
  clear h ho hN hz hbx
  generalize (readP c s lba).scan = q at *
  go_enter Tryz.func25, Tryz.ntmps25
  go_wp2_with fail
  have K0 := O0.out.drew
  obtain ⟨x1, x2⟩ := CB.out _ _ K0
  go_region_held_law (fun W => W.cell? ⟨w.heap.size, 1, none⟩ = some (.int .i64 slot) ∧ W.cell? ⟨w.heap.size, 2, none⟩ = some (.int .i64 lba)) (first | exact ⟨x1, x2⟩ | exact CB.out _ _ K0 | exact CB.out _ _ k1 | exact CB.out _ _ k2) (first
    | (go_at_call 14; (with_reducible refine PC.out.mono ?_); rintro e w1 ⟨rfl, k1⟩)
    | (go_at_call 71; (with_reducible refine (RC.out _ k1).mono ?_); rintro e w2 ⟨rfl, k2⟩))
  all_goals (
    have F := Lib.hid (FN.out _ k2)
    go_wp2
    go_ret
    exact ⟨rfl, F.out⟩)
theorem pp_do2 (h : PP b b' c s s S w) (ho : Own S w) (hN : s.N < 1000000) (slot lba : Int) (hz : i64 lba) :
    Calls Tryz.prog 25 #[.pointer (some ⟨b, 0, none⟩), .pointer (some ⟨b', 0, none⟩), .agg #[.int .i64 2, .int .i64 slot, .int .i64 lba]] w fun e w' => e = .returned (.bool true) ∧ PP b b' c ((enterP c s slot lba).2) ((enterP c s slot lba).2) (Ext S w w') w' ∧ Keeps S w w' := by
  have HPL := Lib.hid (Two.l h).choose_spec.1.pl
  have HN := Lib.hid hN
  have HZ := Lib.hid hz
  have O0 := Lib.hid (pp_box h ho (.cells #[.int .i64 2, .int .i64 slot, .int .i64 lba] 60))
  have hbx : ¬ S w.heap.size := fun x => Nat.lt_irrefl _ (ho _ x)
  have CB := Lib.hid (fun (W : World) (R : (Nat → Prop) → World → Prop) (k : OnWay R S (w.alloc (.cells #[.int .i64 2, .int .i64 slot, .int .i64 lba] 60)) W) => show W.cell? ⟨w.heap.size, 1, none⟩ = some (.int .i64 slot) ∧ W.cell? ⟨w.heap.size, 2, none⟩ = some (.int .i64 lba) from ⟨OnWay.old k (box_cell w _ _ 1) hbx, OnWay.old k (box_cell w _ _ 2) hbx⟩)
  have PC := Lib.hid (O0.out.drew.call (fun A g o => Two.left g (fun A g o => po_enter g o slot lba HZ.out)))
  have RC := Lib.hid (fun (W : World) (k : OnWay (PP b b' c ((enterP c s slot lba).2) s) S (w.alloc (.cells #[.int .i64 2, .int .i64 slot, .int .i64 lba] 60)) W) => k.call (fun A g o => Two.right g (fun A g o => rp_enter g o HPL.out slot lba HZ.out)))
  have FN := Lib.hid (fun (W : World) (k : OnWay (PP b b' c ((enterP c s slot lba).2) ((enterP c s slot lba).2)) S (w.alloc (.cells #[.int .i64 2, .int .i64 slot, .int .i64 lba] 60)) W) => pp_done k)
  clear h ho hN hz hbx
  generalize (enterP c s slot lba).1 = q at *
  go_enter Tryz.func25, Tryz.ntmps25
  go_wp2_with fail
  have K0 := O0.out.drew
  obtain ⟨x1, x2⟩ := CB.out _ _ K0
  go_region_held_law (fun W => W.cell? ⟨w.heap.size, 1, none⟩ = some (.int .i64 slot) ∧ W.cell? ⟨w.heap.size, 2, none⟩ = some (.int .i64 lba)) (first | exact ⟨x1, x2⟩ | exact CB.out _ _ K0 | exact CB.out _ _ k1 | exact CB.out _ _ k2) (first
    | (go_at_call 16; (with_reducible refine PC.out.mono ?_); rintro e w1 ⟨rfl, k1⟩)
    | (go_at_call 73; (with_reducible refine (RC.out _ k1).mono ?_); rintro e w2 ⟨rfl, k2⟩))
  all_goals (
    have F := Lib.hid (FN.out _ k2)
    go_wp2
    go_ret
    exact ⟨rfl, F.out⟩)
theorem pp_do3 (h : PP b b' c s s S w) (ho : Own S w) (hN : s.N < 1000000) (slot lba : Int) (hz : i64 lba) :
    Calls Tryz.prog 25 #[.pointer (some ⟨b, 0, none⟩), .pointer (some ⟨b', 0, none⟩), .agg #[.int .i64 3, .int .i64 slot, .int .i64 lba]] w fun e w' => e = .returned (.bool true) ∧ PP b b' c ((leaveP c s slot true).2) ((leaveP c s slot true).2) (Ext S w w') w' ∧ Keeps S w w' := by
  have HPL := Lib.hid (Two.l h).choose_spec.1.pl
  have HN := Lib.hid hN
  have HZ := Lib.hid hz
  have O0 := Lib.hid (pp_box h ho (.cells #[.int .i64 3, .int .i64 slot, .int .i64 lba] 60))
  have hbx : ¬ S w.heap.size := fun x => Nat.lt_irrefl _ (ho _ x)
  have CB := Lib.hid (fun (W : World) (R : (Nat → Prop) → World → Prop) (k : OnWay R S (w.alloc (.cells #[.int .i64 3, .int .i64 slot, .int .i64 lba] 60)) W) => show W.cell? ⟨w.heap.size, 1, none⟩ = some (.int .i64 slot) ∧ W.cell? ⟨w.heap.size, 2, none⟩ = some (.int .i64 lba) from ⟨OnWay.old k (box_cell w _ _ 1) hbx, OnWay.old k (box_cell w _ _ 2) hbx⟩)
  have PC := Lib.hid (O0.out.drew.call (fun A g o => Two.left g (fun A g o => po_leave g o HN.out slot true)))
  have RC := Lib.hid (fun (W : World) (k : OnWay (PP b b' c ((leaveP c s slot true).2) s) S (w.alloc (.cells #[.int .i64 3, .int .i64 slot, .int .i64 lba] 60)) W) => k.call (fun A g o => Two.right g (fun A g o => rp_leave g o HPL.out HN.out slot true)))
  have FN := Lib.hid (fun (W : World) (k : OnWay (PP b b' c ((leaveP c s slot true).2) ((leaveP c s slot true).2)) S (w.alloc (.cells #[.int .i64 3, .int .i64 slot, .int .i64 lba] 60)) W) => pp_done k)
  clear h ho hN hz hbx
  generalize (leaveP c s slot true).1 = q at *
  go_enter Tryz.func25, Tryz.ntmps25
  go_wp2_with fail
  have K0 := O0.out.drew
  obtain ⟨x1, x2⟩ := CB.out _ _ K0
  go_region_held_law (fun W => W.cell? ⟨w.heap.size, 1, none⟩ = some (.int .i64 slot) ∧ W.cell? ⟨w.heap.size, 2, none⟩ = some (.int .i64 lba)) (first | exact ⟨x1, x2⟩ | exact CB.out _ _ K0 | exact CB.out _ _ k1 | exact CB.out _ _ k2) (first
    | (go_at_call 17; (with_reducible refine PC.out.mono ?_); rintro e w1 ⟨rfl, k1⟩)
    | (go_at_call 74; (with_reducible refine (RC.out _ k1).mono ?_); rintro e w2 ⟨rfl, k2⟩))
  all_goals (
    have F := Lib.hid (FN.out _ k2)
    go_wp2
    go_ret
    exact ⟨rfl, F.out⟩)
theorem pp_do4 (h : PP b b' c s s S w) (ho : Own S w) (hN : s.N < 1000000) (slot lba : Int) (hz : i64 lba) :
    Calls Tryz.prog 25 #[.pointer (some ⟨b, 0, none⟩), .pointer (some ⟨b', 0, none⟩), .agg #[.int .i64 4, .int .i64 slot, .int .i64 lba]] w fun e w' => e = .returned (.bool true) ∧ PP b b' c ((leaveP c s slot false).2) ((leaveP c s slot false).2) (Ext S w w') w' ∧ Keeps S w w' := by
  have HPL := Lib.hid (Two.l h).choose_spec.1.pl
  have HN := Lib.hid hN
  have HZ := Lib.hid hz
  have O0 := Lib.hid (pp_box h ho (.cells #[.int .i64 4, .int .i64 slot, .int .i64 lba] 60))
  have hbx : ¬ S w.heap.size := fun x => Nat.lt_irrefl _ (ho _ x)
  have CB := Lib.hid (fun (W : World) (R : (Nat → Prop) → World → Prop) (k : OnWay R S (w.alloc (.cells #[.int .i64 4, .int .i64 slot, .int .i64 lba] 60)) W) => show W.cell? ⟨w.heap.size, 1, none⟩ = some (.int .i64 slot) ∧ W.cell? ⟨w.heap.size, 2, none⟩ = some (.int .i64 lba) from ⟨OnWay.old k (box_cell w _ _ 1) hbx, OnWay.old k (box_cell w _ _ 2) hbx⟩)
  have PC := Lib.hid (O0.out.drew.call (fun A g o => Two.left g (fun A g o => po_leave g o HN.out slot false)))
  have RC := Lib.hid (fun (W : World) (k : OnWay (PP b b' c ((leaveP c s slot false).2) s) S (w.alloc (.cells #[.int .i64 4, .int .i64 slot, .int .i64 lba] 60)) W) => k.call (fun A g o => Two.right g (fun A g o => rp_leave g o HPL.out HN.out slot false)))
  have FN := Lib.hid (fun (W : World) (k : OnWay (PP b b' c ((leaveP c s slot false).2) ((leaveP c s slot false).2)) S (w.alloc (.cells #[.int .i64 4, .int .i64 slot, .int .i64 lba] 60)) W) => pp_done k)
  clear h ho hN hz hbx
  generalize (leaveP c s slot false).1 = q at *
  go_enter Tryz.func25, Tryz.ntmps25
  go_wp2_with fail
  have K0 := O0.out.drew
  obtain ⟨x1, x2⟩ := CB.out _ _ K0
  go_region_held_law (fun W => W.cell? ⟨w.heap.size, 1, none⟩ = some (.int .i64 slot) ∧ W.cell? ⟨w.heap.size, 2, none⟩ = some (.int .i64 lba)) (first | exact ⟨x1, x2⟩ | exact CB.out _ _ K0 | exact CB.out _ _ k1 | exact CB.out _ _ k2) (first
    | (go_at_call 17; (with_reducible refine PC.out.mono ?_); rintro e w1 ⟨rfl, k1⟩)
    | (go_at_call 74; (with_reducible refine (RC.out _ k1).mono ?_); rintro e w2 ⟨rfl, k2⟩))
  all_goals (
    have F := Lib.hid (FN.out _ k2)
    go_wp2
    go_ret
    exact ⟨rfl, F.out⟩)
theorem pp_do1 (h : PP b b' c s s S w) (ho : Own S w) (hN : s.N < 1000000) (slot lba : Int) (hz : i64 lba) :
    Calls Tryz.prog 25 #[.pointer (some ⟨b, 0, none⟩), .pointer (some ⟨b', 0, none⟩), .agg #[.int .i64 1, .int .i64 slot, .int .i64 lba]] w fun e w' => e = .returned (.bool true) ∧ PP b b' c (hitP c s slot).2 (hitP c s slot).2 (Ext S w w') w' ∧ Keeps S w w' := by
  have HPL := Lib.hid (Two.l h).choose_spec.1.pl
  obtain ⟨A0, B0, ha, hb, oa, ob, hd, hp, ⟨cf, p, vg, vr, hx⟩, hc, hs⟩ := h
  have HOK := Lib.hid (And.intro hc (hs.hitP (c := c) slot))
  have h : Two (PoO b c s) (RpX b' cf c p vg vr s.s0 s.scan s.lb s.low s.high s.t s.G s.rd) S w := ⟨A0, B0, ha, hb, oa, ob, hd, hp, hx⟩
  have O0 := Lib.hid (pp_box h ho (.cells #[.int .i64 1, .int .i64 slot, .int .i64 lba] 60))
  have hbx : ¬ S w.heap.size := fun x => Nat.lt_irrefl _ (ho _ x)
  have CB := Lib.hid (fun (W : World) (R : (Nat → Prop) → World → Prop) (lw hg : List Nat) (k : OnWay (Two R (RpX b' cf c p vg vr s.s0 s.scan s.lb lw hg s.t s.G s.rd)) S (w.alloc (.cells #[.int .i64 1, .int .i64 slot, .int .i64 lba] 60)) W) => show W.cell? ⟨w.heap.size, 1, none⟩ = some (.int .i64 slot) ∧ W.cell? ⟨b', 11, none⟩ = some (.pointer (some ⟨p.so, 0, none⟩)) from ⟨OnWay.old k (box_cell w _ _ 1) hbx, (pp_c11 k).c11⟩)
  have PC := Lib.hid (O0.out.drew.call (fun A g o => Two.left g (fun A g o => po_hit g o slot)))
  have RC := Lib.hid (fun (W : World) (k : OnWay (Two (PoO b c (hitP c s slot).2) (RpX b' cf c p vg vr s.s0 s.scan s.lb s.low s.high s.t s.G s.rd)) S (w.alloc (.cells #[.int .i64 1, .int .i64 slot, .int .i64 lba] 60)) W) => k.call (fun A g o => Two.right g (RpX.ordc (fun A g o => rfO_touch g slot HPL.out.lo HPL.out.hi))))
  have FN := Lib.hid (fun (W : World) (k : OnWay (Two (PoO b c (hitP c s slot).2) (RpX b' cf c p vg vr s.s0 s.scan s.lb (toS c.most slot s.low s.high).2.1 (toS c.most slot s.low s.high).2.2 s.t s.G s.rd)) S (w.alloc (.cells #[.int .i64 1, .int .i64 slot, .int .i64 lba] 60)) W) => show PP b b' c (hitP c s slot).2 (hitP c s slot).2 (Ext S w W) W ∧ Keeps S w W from (pp_done k).imp (fun ⟨A1, B1, ha, hb, oa, ob, hd, hp, hx⟩ => ⟨A1, B1, ha, hb, oa, ob, hd, hp, ⟨⟨cf, p, vg, vr, hx⟩, HOK.out⟩⟩) id)
  have EQ : (hitP c s slot).1 = (toS c.most slot s.low s.high).1 := rfl
  rw [EQ] at PC
  clear h ho hN hz hbx hp hx hc hs ha hb oa ob hd EQ
  generalize (toS c.most slot s.low s.high).1 = q at *
  go_enter Tryz.func25, Tryz.ntmps25
  go_wp2_with fail
  have K0 := O0.out.drew
  obtain ⟨x1, x2⟩ := CB.out _ _ _ _ K0
  go_region_held_law (fun W => W.cell? ⟨w.heap.size, 1, none⟩ = some (.int .i64 slot) ∧ W.cell? ⟨b', 11, none⟩ = some (.pointer (some ⟨p.so, 0, none⟩))) (first | exact ⟨x1, x2⟩ | exact CB.out _ _ _ _ K0 | exact CB.out _ _ _ _ k1 | exact CB.out _ _ _ _ k2) (first
    | (go_at_call 15; (with_reducible refine PC.out.mono ?_); rintro e w1 ⟨rfl, k1⟩)
    | (go_at_call 72; (with_reducible refine (RC.out _ k1).mono ?_); rintro e w2 ⟨rfl, k2⟩))
  all_goals (
    have F := Lib.hid (FN.out _ k2)
    go_wp2
    go_ret
    exact ⟨rfl, F.out⟩)
theorem pp_do5 (h : PP b b' c s s S w) (ho : Own S w) (hN : s.N < 1000000) (slot lba : Int) (hz : i64 lba) :
    Calls Tryz.prog 25 #[.pointer (some ⟨b, 0, none⟩), .pointer (some ⟨b', 0, none⟩), .agg #[.int .i64 5, .int .i64 slot, .int .i64 lba]] w fun e w' => e = .returned (.bool true) ∧ PP b b' c (resetP c s) (resetP c s) (Ext S w w') w' ∧ Keeps S w w' := by
  have O0 := Lib.hid (pp_box h ho (.cells #[.int .i64 5, .int .i64 slot, .int .i64 lba] 60))
  have PC := Lib.hid (O0.out.call (fun A g o => Two.left g (fun A g o => po_reset g o)))
  have RC := Lib.hid (fun (W : World) (k : OnWay (PP b b' c (resetP c s) s) S (w.alloc (.cells #[.int .i64 5, .int .i64 slot, .int .i64 lba] 60)) W) => k.call (fun A g o => Two.right g (fun A g o => rp_reset g o)))
  have FN := Lib.hid (fun (W : World) (k : OnWay (PP b b' c (resetP c s) (resetP c s)) S (w.alloc (.cells #[.int .i64 5, .int .i64 slot, .int .i64 lba] 60)) W) => pp_done k)
  clear h ho hN hz
  go_enter Tryz.func25, Tryz.ntmps25
  go_wp2_with fail
  refine PC.out.mono ?_
  rintro e w1 ⟨rfl, k1⟩
  go_wp2_with fail
  refine (RC.out _ k1).mono ?_
  rintro e w2 ⟨rfl, k2⟩
  have F := Lib.hid (FN.out _ k2)
  go_wp2
  go_ret
  exact ⟨rfl, F.out⟩
theorem pp_do9 (h : PP b b' c s s S w) (ho : Own S w) (hN : s.N < 1000000) (kind slot lba : Int) (hz : i64 lba) (h0 : kind ≠ 0) (h1 : kind ≠ 1) (h2 : kind ≠ 2) (h3 : kind ≠ 3) (h4 : kind ≠ 4) (h5 : kind ≠ 5) :
    Calls Tryz.prog 25 #[.pointer (some ⟨b, 0, none⟩), .pointer (some ⟨b', 0, none⟩), .agg #[.int .i64 kind, .int .i64 slot, .int .i64 lba]] w fun e w' => e = .returned (.bool true) ∧ PP b b' c s s (Ext S w w') w' ∧ Keeps S w w' := by
  have FN := Lib.hid (pp_done (pp_box h ho (.cells #[.int .i64 kind, .int .i64 slot, .int .i64 lba] 60)))
  have d0 : (kind == 0) = false := beq_eq_false_iff_ne.2 h0
  have d1 : (kind == 1) = false := beq_eq_false_iff_ne.2 h1
  have d2 : (kind == 2) = false := beq_eq_false_iff_ne.2 h2
  have d3 : (kind == 3) = false := beq_eq_false_iff_ne.2 h3
  have d4 : (kind == 4) = false := beq_eq_false_iff_ne.2 h4
  have d5 : (kind == 5) = false := beq_eq_false_iff_ne.2 h5
  clear h ho hN hz h0 h1 h2 h3 h4 h5
  go_enter Tryz.func25, Tryz.ntmps25
  go_wp2
  go_ret
  exact ⟨rfl, FN.out⟩
theorem pp_do (h : PP b b' c s s S w) (ho : Own S w) (hN : s.N < 1000000) (kind slot lba : Int) (hz : i64 lba) :
    Calls Tryz.prog 25 #[.pointer (some ⟨b, 0, none⟩), .pointer (some ⟨b', 0, none⟩), .agg #[.int .i64 kind, .int .i64 slot, .int .i64 lba]] w fun e w' => e = .returned (.bool true) ∧ PP b b' c (actP c s kind slot lba) (actP c s kind slot lba) (Ext S w w') w' ∧ Keeps S w w' := by
  unfold actP
  by_cases h0 : kind = 0
  · subst h0; exact pp_do0 h ho hN slot lba hz
  rw [if_neg h0]
  by_cases h1 : kind = 1
  · subst h1; exact pp_do1 h ho hN slot lba hz
  rw [if_neg h1]
  by_cases h2 : kind = 2
  · subst h2; exact pp_do2 h ho hN slot lba hz
  rw [if_neg h2]
  by_cases h3 : kind = 3
  · subst h3; exact pp_do3 h ho hN slot lba hz
  rw [if_neg h3]
  by_cases h4 : kind = 4
  · subst h4; exact pp_do4 h ho hN slot lba hz
  rw [if_neg h4]
  by_cases h5 : kind = 5
  · subst h5; exact pp_do5 h ho hN slot lba hz
  rw [if_neg h5]
  exact pp_do9 h ho hN kind slot lba hz h0 h1 h2 h3 h4 h5
theorem actP_N (c : PC) (s : PV) (kind slot lba : Int) : (actP c s kind slot lba).N ≤ s.N + 1 := by
  unfold actP readP hitP enterP leaveP resetP
  repeat' split
  all_goals (first | exact Nat.le_refl _ | exact Nat.le_succ _ | (simp only []; first | exact Nat.le_refl _ | exact Nat.le_succ _))
end
end Go.Proofs.YtdbgehplmllgdaaGreat
