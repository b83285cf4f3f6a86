/- What the slots have, from one on, up to another one: the iterator. -/
import Derived.Test.YtbgknopjgohocaaGreatZD
import Derived.Test.YtbgknopjgohocaaGreatPp
import Derived.Test.YtbgknopjgohocaaGreatPb
import Derived.Deep.RegionLaw
namespace Go.Proofs.YtbgknopjgohocaaGreat
open Go.RowKit Go.Shelf
set_option linter.unusedVariables false
set_option maxRecDepth 100000
set_option maxHeartbeats 2000000
attribute [local go_sem] Oper.semAt_some

/-- An entry, of a slot and of what it has. -/
def entA (sl : Nat → Int) (i : Nat) : Array Value := #[.int .i64 (i : Int), .int .i64 (sl i - 1), .int .u64 (tgI (sl i))]
/-- The slots from one on, so many, that have blocks. -/
def usedR (sl : Nat → Int) (lo k : Nat) : List Nat := (List.range' lo k).filter (fun i => decide (sl i ≠ 0))
theorem usedR_next (sl : Nat → Int) (lo k : Nat) : usedR sl lo (k + 1) = usedR sl lo k ++ (if sl (lo + k) = 0 then [] else [lo + k]) := by
  unfold usedR
  rw [List.range'_concat, List.filter_append]
  congr 1
  by_cases h : sl (lo + k) = 0 <;> simp [h]
theorem usedR_len (sl : Nat → Int) (lo k : Nat) : (usedR sl lo k).length ≤ k := by
  have := List.length_filter_le (fun i => decide (sl i ≠ 0)) (List.range' lo k)
  rwa [List.length_range'] at this
theorem usedR_prefix (sl : Nat → Int) (lo : Nat) {k m : Nat} (h : k ≤ m) : usedR sl lo k <+: usedR sl lo m := by
  induction h with
  | refl => exact List.prefix_rfl
  | step _ ih => exact ih.trans ⟨_, (usedR_next sl lo _).symm⟩
theorem usedR_lt (sl : Nat → Int) (lo : Nat) {k m : Nat} (h : k < m) (hx : sl (lo + k) ≠ 0) : (usedR sl lo k).length < (usedR sl lo m).length := by
  have := (usedR_prefix sl lo (show k + 1 ≤ m from h)).length_le
  rw [usedR_next, if_neg hx] at this
  simp at this
  omega

section
variable {w : World} {b sb wb nb ns N : Nat} {P : PLS} {m : Int}
/-- What a slot has, as an entry. -/
theorem pl_At (h : Pl w b sb wb nb ns N P m) (k : Nat) (hk : k < ns) :
    Calls Tryz.prog 71 #[.pointer (some ⟨b, 0, none⟩), .int .i64 (k : Int)] w fun e w' =>
      e = .returned (.tuple #[.agg (if P.sl k = 0 then #[.int .i64 0, .int .i64 0, .int .u64 0] else entA P.sl k), .bool (suB (P.sl k)), .bool (decide (P.sl k ≠ 0))]) ∧ Below w.heap.size w w' := by
  have AT := Lib.hid (fun W (kk : Below w.heap.size w W) => pl_at (h.below kk) k hk)
  have r0 := h.i.s0 k hk
  have n1 := h.i.n1
  have r1 : P.sl k ≤ 512 := by have := h.i.s1 k hk; have := h.i.b1; omega
  unfold entA
  clear h
  generalize P.sl k = x at *
  have hn : (k : Int) ≤ 192 := by omega
  by_cases hx : x = 0
  · subst hx
    go_enter Tryz.func71, Tryz.ntmps71
    go_wp2_with fail
    refine (AT.out _ ((Below.refl w.heap.size w).alloc (Nat.le_refl _) _)).mono ?_
    rintro e w1 ⟨rfl, b1⟩
    have hy : w1.heap[w.heap.size]? = some (.cells #[.int .i64 0, .int .i64 0, .int .u64 0] 93) := (b1.block _ (by simp)).trans (heap_at w _ _ rfl)
    have B1 := Lib.hid (((Below.refl w.heap.size w).alloc (Nat.le_refl _) (.cells #[.int .i64 0, .int .i64 0, .int .u64 0] 93)).trans (b1.mono (by simp)))
    have HY := Lib.hid ((heap_past w1 (.cells #[.int .i64 0, .int .u64 0, .bool false] 160) w.heap.size (blk_lt' hy)).trans hy)
    have B2 := Lib.hid (B1.out.alloc B1.out.size (.cells #[.int .i64 0, .int .u64 0, .bool false] 160))
    have TH := Lib.hid (there_of (n := 3) HY.out (by decide))
    have x0 : (w1.alloc (.cells #[.int .i64 0, .int .u64 0, .bool false] 160)).cell? ⟨w1.heap.size, 0, none⟩ = some (.int .i64 0) := blk_cell' (heap_at w1 (.cells #[.int .i64 0, .int .u64 0, .bool false] 160) _ rfl) 0
    have L1 := Lib.hid (blk_lt' hy)
    clear b1 hy
    go_wp2_with (
      refine wpList_store_mid rfl 93 (.tmp 4) (.tmp 19) rfl w.heap.size 0 #[.int .i64 0, .int .i64 0, .int .u64 0] rfl rfl TH.out (by kernel_rfl) (by simp [Value.oneCell']) ?_
      obtain ⟨w3, hw3, C3, F3, K3, S3⟩ := cells_put HY.out #[.int .i64 0, .int .i64 0, .int .u64 0] (by decide)
      rw [hw3]
      have B3 := Lib.hid (((Keeps.of_below B2.out).trans K3 (fun j (hj : j = w.heap.size) => .inl (by omega))).below (Nat.le_refl _))
      have r0 := C3 0 _ rfl
      have r1 := C3 1 _ rfl
      have r2 := C3 2 _ rfl
      clear hw3 TH HY K3 C3 F3 S3 x0)
    refine bodyPost_ret (v := .tuple #[.agg #[.int .i64 0, .int .i64 0, .int .u64 0], .bool false, .bool false]) (by simp [results, Tryz.results71, go_sem, r0, r1, r2]) rfl ⟨rfl, B3.out⟩
  · have e0 : (x == 0) = false := beq_eq_false_iff_ne.2 hx
    have e1 : tgI x = 1 := if_neg hx
    have e2 : suB x = true := decide_eq_true hx
    have e3 : decide (x ≠ 0) = true := decide_eq_true hx
    rw [if_neg hx, e1, e2, e3]
    rw [e1, e2] at AT
    have q1 : x - 1 ≤ 512 := by omega
    have q2 : 0 ≤ x - 1 := by omega
    have qw : IntKind.i64.wrap (x - 1) = x - 1 := IntWalk.i64_in _ (by omega)
    clear hx e1 e2 e3
    go_enter Tryz.func71, Tryz.ntmps71
    go_wp2_with fail
    refine (AT.out _ ((Below.refl w.heap.size w).alloc (Nat.le_refl _) _)).mono ?_
    rintro e w1 ⟨rfl, b1⟩
    have hy : w1.heap[w.heap.size]? = some (.cells #[.int .i64 0, .int .i64 0, .int .u64 0] 93) := (b1.block _ (by simp)).trans (heap_at w _ _ rfl)
    have B1 := Lib.hid (((Below.refl w.heap.size w).alloc (Nat.le_refl _) (.cells #[.int .i64 0, .int .i64 0, .int .u64 0] 93)).trans (b1.mono (by simp)))
    have HY := Lib.hid ((heap_past w1 (.cells #[.int .i64 x, .int .u64 1, .bool true] 160) w.heap.size (blk_lt' hy)).trans hy)
    have B2 := Lib.hid (B1.out.alloc B1.out.size (.cells #[.int .i64 x, .int .u64 1, .bool true] 160))
    have TH := Lib.hid (there_of (n := 3) HY.out (by decide))
    have x0 : (w1.alloc (.cells #[.int .i64 x, .int .u64 1, .bool true] 160)).cell? ⟨w1.heap.size, 0, none⟩ = some (.int .i64 x) := blk_cell' (heap_at w1 (.cells #[.int .i64 x, .int .u64 1, .bool true] 160) _ rfl) 0
    have L1 := Lib.hid (blk_lt' hy)
    clear b1 hy
    have x1 : (w1.alloc (.cells #[.int .i64 x, .int .u64 1, .bool true] 160)).cell? ⟨w1.heap.size, 1, none⟩ = some (.int .u64 1) := blk_cell' (heap_at w1 (.cells #[.int .i64 x, .int .u64 1, .bool true] 160) _ rfl) 1
    have x2 : (w1.alloc (.cells #[.int .i64 x, .int .u64 1, .bool true] 160)).cell? ⟨w1.heap.size, 2, none⟩ = some (.bool true) := blk_cell' (heap_at w1 (.cells #[.int .i64 x, .int .u64 1, .bool true] 160) _ rfl) 2
    go_wp2_with fail
    obtain ⟨w2, hw2⟩ : ∃ w2, (w1.alloc (.cells #[.int .i64 x, .int .u64 1, .bool true] 160)) = w2 := ⟨_, rfl⟩
    have c1 : w2.heap.size = w1.heap.size + 1 := by rw [← hw2]; simp
    have y0 : w2.cell? ⟨w.heap.size, 0, none⟩ = some (.int .i64 0) := by rw [← hw2]; exact blk_cell' HY.out 0
    have y1 : w2.cell? ⟨w.heap.size, 1, none⟩ = some (.int .i64 0) := by rw [← hw2]; exact blk_cell' HY.out 1
    have y2 : w2.cell? ⟨w.heap.size, 2, none⟩ = some (.int .u64 0) := by rw [← hw2]; exact blk_cell' HY.out 2
    have g0 : w2.frozen? ⟨w.heap.size, 0, none⟩ = false := by rw [← hw2]; exact blk_free HY.out 0
    have g1 : w2.frozen? ⟨w.heap.size, 1, none⟩ = false := by rw [← hw2]; exact blk_free HY.out 1
    have g2 : w2.frozen? ⟨w.heap.size, 2, none⟩ = false := by rw [← hw2]; exact blk_free HY.out 2
    have HY2 := HY.out
    have B2' := B2.out
    rw [hw2] at x0 x1 x2 HY2 B2' ⊢
    obtain ⟨w3, hw3, C3, F3, K3, S3⟩ := cells_put HY2 #[.int .i64 (k : Int), .int .i64 (x - 1), .int .u64 1] (Nat.le_refl 3)
    have hw3 := Lib.hid (show ((w2.setCell ⟨w.heap.size, 0, none⟩ (.int .i64 (k : Int))).setCell ⟨w.heap.size, 1, none⟩ (.int .i64 (x - 1))).setCell ⟨w.heap.size, 2, none⟩ (.int .u64 1) = w3 from hw3)
    have B3 := Lib.hid (((Keeps.of_below B2').trans K3 (fun j (hj : j = w.heap.size) => .inl (by omega))).below (Nat.le_refl _))
    have r0 := Lib.hid (C3 0 _ rfl)
    have r1 := Lib.hid (C3 1 _ rfl)
    have r2 := Lib.hid (C3 2 _ rfl)
    have l1 : w.heap.size < w1.heap.size := L1.out
    have ne : (w1.heap.size == w.heap.size) = false := beq_eq_false_iff_ne.2 (by omega)
    have ne' : (w.heap.size == w1.heap.size) = false := beq_eq_false_iff_ne.2 (by omega)
    have ne2 : ¬ w1.heap.size = w.heap.size := by omega
    clear hw2 HY2 B2' C3 F3 K3 S3
    go_region_law (fail)
    all_goals (
      go_wp2_with fail
      try rw [hw3.out]
      refine bodyPost_ret (v := .tuple #[.agg #[.int .i64 (k : Int), .int .i64 (x - 1), .int .u64 1], .bool true, .bool true]) (by simp [results, Tryz.results71, go_sem, r0.out, r1.out, r2.out]) rfl ⟨rfl, B3.out.drew⟩)
end
end Go.Proofs.YtbgknopjgohocaaGreat
