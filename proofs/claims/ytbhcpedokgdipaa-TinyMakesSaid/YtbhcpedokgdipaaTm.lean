/- Which filters there are: the statement's walk. -/
import Derived.Test.YtbhcpedokgdipaaTl
import Derived.Test.YtbhcpedokgdipaaSkM
namespace Go.Proofs.Ytbhcpedokgdipaa
open Go.RowKit Fl
set_option linter.unusedVariables false

theorem ti_new_bad (w : World) (width sample seed : Int) (h : sample < 1 ∨ 1048576 < sample) :
    Calls Try.prog 29 #[.int .i64 width, .int .i64 sample, .int .u64 seed] w fun r w' => r = .returned (.tuple #[.pointer none, .int .i64 1]) ∧ w' = w := by
  by_cases h1 : sample < 1
  · go_enter Try.func29, Try.ntmps29
    go_wp2
    go_ret2
    exact ⟨rfl, rfl⟩
  · have h2 : 1048576 < sample := by omega
    go_enter Try.func29, Try.ntmps29
    go_wp2
    go_ret2
    exact ⟨rfl, rfl⟩

theorem ti_new_none (w : World) (width sample seed : Int) (hw : width < 1 ∨ 4096 < width) (m1 : 1 ≤ sample) (m2 : sample ≤ 1048576) :
    Calls Try.prog 29 #[.int .i64 width, .int .i64 sample, .int .u64 seed] w fun r w' => r = .returned (.tuple #[.pointer none, .int .i64 1]) ∧ w' = w := by
  have N := Lib.hid (new_none w width seed hw)
  have a1 : ¬ sample < 1 := by omega
  have a2 : ¬ 1048576 < sample := by omega
  clear hw
  go_enter Try.func29, Try.ntmps29
  go_wp2_with fail
  refine N.out.mono ?_
  rintro e w' ⟨rfl, rfl⟩
  go_wp2
  go_ret2
  exact ⟨rfl, rfl⟩

/-- A filter that is none. -/
def TVoid (w : World) (p : Option Addr) : Prop := Calls Try.prog 60 #[.pointer p] w fun e w' => e = .returned (.bool false) ∧ w = w'
theorem tvoid_nil (w : World) : TVoid w none := by
  show Calls _ _ _ _ _
  go_enter Try.func60, Try.ntmps60
  go_wp2
  go_ret
  exact ⟨rfl, rfl⟩
theorem tvoid_zero (w : World) (b : Nat) (h : w.cell? ⟨b, 4, none⟩ = some (.int .i64 0)) : TVoid w (some ⟨b, 0, none⟩) := by
  show Calls _ _ _ _ _
  go_enter Try.func60, Try.ntmps60
  go_wp2
  go_ret
  exact ⟨rfl, rfl⟩
theorem tvSee (w : World) (p : Option Addr) (key : Int) (h : TVoid w p) : Calls Try.prog 23 #[.pointer p, .int .u64 key] w fun e w' => e = .returned (.int .i64 0) ∧ w = w' := by
  have R := Lib.hid h
  clear h
  go_enter Try.func23, Try.ntmps23
  go_wp2_with fail
  refine (R.out).mono ?_
  rintro e w' ⟨rfl, rfl⟩
  go_wp2
  go_ret
  exact ⟨rfl, rfl⟩
theorem tvThink (w : World) (p : Option Addr) (key : Int) (h : TVoid w p) : Calls Try.prog 25 #[.pointer p, .int .u64 key] w fun e w' => e = .returned (.int .i64 0) ∧ w = w' := by
  have R := Lib.hid h
  clear h
  go_enter Try.func25, Try.ntmps25
  go_wp2_with fail
  refine (R.out).mono ?_
  rintro e w' ⟨rfl, rfl⟩
  go_wp2
  go_ret
  exact ⟨rfl, rfl⟩
theorem tvSeen (w : World) (p : Option Addr) (h : TVoid w p) : Calls Try.prog 27 #[.pointer p] w fun e w' => e = .returned (.int .i64 0) ∧ w = w' := by
  have R := Lib.hid h
  clear h
  go_enter Try.func27, Try.ntmps27
  go_wp2_with fail
  refine (R.out).mono ?_
  rintro e w' ⟨rfl, rfl⟩
  go_wp2
  go_ret
  exact ⟨rfl, rfl⟩
theorem over_zero (f : Nat) (hf : f = 4611686018427387904) : gtC (opC .mul (cn (floatOfInt .f64 0)) (cn f)) (cn (floatOfInt .f64 0)) = false := by subst hf; kernel_rfl
theorem tvAdmit (w : World) (p : Option Addr) (x y : Int) (h : TVoid w p) : Calls Try.prog 30 #[.pointer p, .int .u64 x, .int .u64 y, .float .f64 4611686018427387904] w fun e w' => e = .returned (.bool false) ∧ ∃ n, w' = w.drewN n := by
  have T1 := Lib.hid (tvThink w p x h)
  have T2 := Lib.hid (tvThink w p y h)
  have hne := ne_self 4611686018427387904 (by omega)
  have h0 : isN 4611686018427387904 = false := by decide
  rw [h0] at hne
  have OZ := Lib.hid (over_zero _ rfl)
  clear h h0
  go_enter Try.func30, Try.ntmps30
  go_wp2_with fail
  refine (T1.out).mono ?_
  rintro e w' ⟨rfl, rfl⟩
  go_wp2_with fail
  refine (T2.out).mono ?_
  rintro e w' ⟨rfl, rfl⟩
  go_wp2_with fail
  refine (over_any _ _ _ _).mono ?_
  rintro e w' ⟨rfl, n3, rfl⟩
  rw [OZ.out]
  go_wp2
  go_ret
  exact ⟨rfl, n3, rfl⟩

theorem ti_bad (w : World) (width sample seed : Int) (h : (width < 1 ∨ 4096 < width) ∨ (sample < 1 ∨ 1048576 < sample)) :
    Calls Try.prog 29 #[.int .i64 width, .int .i64 sample, .int .u64 seed] w fun r w' => r = .returned (.tuple #[.pointer none, .int .i64 1]) ∧ w' = w := by
  by_cases hs : sample < 1 ∨ 1048576 < sample
  · exact ti_new_bad w width sample seed hs
  · exact ti_new_none w width sample seed (h.resolve_right hs) (by omega) (by omega)

set_option maxRecDepth 100000 in
set_option maxHeartbeats 4000000 in
theorem tyMakes_w_lo (width sample seed key : Int) (w : World) (h : width < 1) :
    Calls Try.prog 7 #[.int .i64 width, .int .i64 sample, .int .u64 seed, .int .u64 key] w fun e w' => e = .returned (.bool true) ∧ Below w.heap.size w w' := by
  have N := Lib.hid (ti_bad w width sample seed (.inl (.inl h)))
  have h1 : width < 1 := h
  clear h
  go_enter Try.func7, Try.ntmps7
  go_wp2_with fail
  refine N.out.mono ?_
  rintro e w1 ⟨rfl, rfl⟩
  have VN := Lib.hid (fun W => tvoid_nil W)
  have VZ := Lib.hid (tvoid_zero (w1.alloc (.cells #[.pointer none, .pointer none, .int .u64 0, .int .i64 0, .int .i64 0] 58)) w1.heap.size (blk_cell' (heap_at _ _ _ rfl) 4))
  have c4 : (w1.alloc (.cells #[.pointer none, .pointer none, .int .u64 0, .int .i64 0, .int .i64 0] 58)).cell? ⟨w1.heap.size, 4, none⟩ = some (.int .i64 0) := blk_cell' (heap_at _ _ _ rfl) 4
  have C4 := Lib.hid c4
  clear c4
  go_wp2_with (first | (go_at_call 23; (with_reducible refine (tvSee _ _ key (VN.out _)).mono ?_); rintro e w' ⟨rfl, rfl⟩) | (go_at_call 23; (with_reducible refine (tvSee _ _ key VZ.out).mono ?_); rintro e w' ⟨rfl, rfl⟩) | (go_at_call 25; (with_reducible refine (tvThink _ _ key (VN.out _)).mono ?_); rintro e w' ⟨rfl, rfl⟩) | (go_at_call 25; (with_reducible refine (tvThink _ _ key VZ.out).mono ?_); rintro e w' ⟨rfl, rfl⟩) | (go_at_call 27; (with_reducible refine (tvSeen _ _ (VN.out _)).mono ?_); rintro e w' ⟨rfl, rfl⟩) | (go_at_call 27; (with_reducible refine (tvSeen _ _ VZ.out).mono ?_); rintro e w' ⟨rfl, rfl⟩))
  refine (tvAdmit _ _ key key (VN.out _)).mono ?_
  rintro e w2 ⟨rfl, n2, rfl⟩
  go_wp2_with fail
  refine (tvAdmit _ _ key key (tvoid_zero ((w1.alloc (.cells #[.pointer none, .pointer none, .int .u64 0, .int .i64 0, .int .i64 0] 58)).drewN n2) w1.heap.size C4.out)).mono ?_
  rintro e w3 ⟨rfl, n3, rfl⟩
  go_wp2_with fail
  refine (tyAwake _).mono ?_
  rintro e w6 ⟨rfl, b6⟩
  have B6 := Lib.hid b6
  clear b6
  go_wp2
  go_ret
  refine ⟨rfl, ?_⟩
  have b7 : Below w1.heap.size (w1.alloc (.cells #[.pointer none, .pointer none, .int .u64 0, .int .i64 0, .int .i64 0] 58)) w6 := ⟨B6.out.os, B6.out.tape, B6.out.output, B6.out.size, fun k hk => B6.out.block k (by simp; omega)⟩
  have b0 := (Below.refl w1.heap.size w1).alloc (Nat.le_refl _) (.cells #[.pointer none, .pointer none, .int .u64 0, .int .i64 0, .int .i64 0] 58)
  exact b0.trans b7

set_option maxRecDepth 100000 in
set_option maxHeartbeats 4000000 in
theorem tyMakes_w_hi (width sample seed key : Int) (w : World) (h : 4096 < width) :
    Calls Try.prog 7 #[.int .i64 width, .int .i64 sample, .int .u64 seed, .int .u64 key] w fun e w' => e = .returned (.bool true) ∧ Below w.heap.size w w' := by
  have N := Lib.hid (ti_bad w width sample seed (.inl (.inr h)))
  have h1 : 1 ≤ width := by omega
  have h2 : 4096 < width := h
  clear h
  go_enter Try.func7, Try.ntmps7
  go_wp2_with fail
  refine N.out.mono ?_
  rintro e w1 ⟨rfl, rfl⟩
  have VN := Lib.hid (fun W => tvoid_nil W)
  have VZ := Lib.hid (tvoid_zero (w1.alloc (.cells #[.pointer none, .pointer none, .int .u64 0, .int .i64 0, .int .i64 0] 58)) w1.heap.size (blk_cell' (heap_at _ _ _ rfl) 4))
  have c4 : (w1.alloc (.cells #[.pointer none, .pointer none, .int .u64 0, .int .i64 0, .int .i64 0] 58)).cell? ⟨w1.heap.size, 4, none⟩ = some (.int .i64 0) := blk_cell' (heap_at _ _ _ rfl) 4
  have C4 := Lib.hid c4
  clear c4
  go_wp2_with (first | (go_at_call 23; (with_reducible refine (tvSee _ _ key (VN.out _)).mono ?_); rintro e w' ⟨rfl, rfl⟩) | (go_at_call 23; (with_reducible refine (tvSee _ _ key VZ.out).mono ?_); rintro e w' ⟨rfl, rfl⟩) | (go_at_call 25; (with_reducible refine (tvThink _ _ key (VN.out _)).mono ?_); rintro e w' ⟨rfl, rfl⟩) | (go_at_call 25; (with_reducible refine (tvThink _ _ key VZ.out).mono ?_); rintro e w' ⟨rfl, rfl⟩) | (go_at_call 27; (with_reducible refine (tvSeen _ _ (VN.out _)).mono ?_); rintro e w' ⟨rfl, rfl⟩) | (go_at_call 27; (with_reducible refine (tvSeen _ _ VZ.out).mono ?_); rintro e w' ⟨rfl, rfl⟩))
  refine (tvAdmit _ _ key key (VN.out _)).mono ?_
  rintro e w2 ⟨rfl, n2, rfl⟩
  go_wp2_with fail
  refine (tvAdmit _ _ key key (tvoid_zero ((w1.alloc (.cells #[.pointer none, .pointer none, .int .u64 0, .int .i64 0, .int .i64 0] 58)).drewN n2) w1.heap.size C4.out)).mono ?_
  rintro e w3 ⟨rfl, n3, rfl⟩
  go_wp2_with fail
  refine (tyAwake _).mono ?_
  rintro e w6 ⟨rfl, b6⟩
  have B6 := Lib.hid b6
  clear b6
  go_wp2
  go_ret
  refine ⟨rfl, ?_⟩
  have b7 : Below w1.heap.size (w1.alloc (.cells #[.pointer none, .pointer none, .int .u64 0, .int .i64 0, .int .i64 0] 58)) w6 := ⟨B6.out.os, B6.out.tape, B6.out.output, B6.out.size, fun k hk => B6.out.block k (by simp; omega)⟩
  have b0 := (Below.refl w1.heap.size w1).alloc (Nat.le_refl _) (.cells #[.pointer none, .pointer none, .int .u64 0, .int .i64 0, .int .i64 0] 58)
  exact b0.trans b7

set_option maxRecDepth 100000 in
set_option maxHeartbeats 4000000 in
theorem tyMakes_s_lo (width sample seed key : Int) (w : World) (w1' : 1 ≤ width) (w2' : width ≤ 4096) (h : sample < 1) :
    Calls Try.prog 7 #[.int .i64 width, .int .i64 sample, .int .u64 seed, .int .u64 key] w fun e w' => e = .returned (.bool true) ∧ Below w.heap.size w w' := by
  have N := Lib.hid (ti_bad w width sample seed (.inr (.inl h)))
  have h1 : 1 ≤ width := w1'
  have h2 : width ≤ 4096 := w2'
  have h3 : sample < 1 := h
  clear h w1' w2'
  go_enter Try.func7, Try.ntmps7
  go_wp2_with fail
  refine N.out.mono ?_
  rintro e w1 ⟨rfl, rfl⟩
  have VN := Lib.hid (fun W => tvoid_nil W)
  have VZ := Lib.hid (tvoid_zero (w1.alloc (.cells #[.pointer none, .pointer none, .int .u64 0, .int .i64 0, .int .i64 0] 58)) w1.heap.size (blk_cell' (heap_at _ _ _ rfl) 4))
  have c4 : (w1.alloc (.cells #[.pointer none, .pointer none, .int .u64 0, .int .i64 0, .int .i64 0] 58)).cell? ⟨w1.heap.size, 4, none⟩ = some (.int .i64 0) := blk_cell' (heap_at _ _ _ rfl) 4
  have C4 := Lib.hid c4
  clear c4
  go_wp2_with (first | (go_at_call 23; (with_reducible refine (tvSee _ _ key (VN.out _)).mono ?_); rintro e w' ⟨rfl, rfl⟩) | (go_at_call 23; (with_reducible refine (tvSee _ _ key VZ.out).mono ?_); rintro e w' ⟨rfl, rfl⟩) | (go_at_call 25; (with_reducible refine (tvThink _ _ key (VN.out _)).mono ?_); rintro e w' ⟨rfl, rfl⟩) | (go_at_call 25; (with_reducible refine (tvThink _ _ key VZ.out).mono ?_); rintro e w' ⟨rfl, rfl⟩) | (go_at_call 27; (with_reducible refine (tvSeen _ _ (VN.out _)).mono ?_); rintro e w' ⟨rfl, rfl⟩) | (go_at_call 27; (with_reducible refine (tvSeen _ _ VZ.out).mono ?_); rintro e w' ⟨rfl, rfl⟩))
  refine (tvAdmit _ _ key key (VN.out _)).mono ?_
  rintro e w2 ⟨rfl, n2, rfl⟩
  go_wp2_with fail
  refine (tvAdmit _ _ key key (tvoid_zero ((w1.alloc (.cells #[.pointer none, .pointer none, .int .u64 0, .int .i64 0, .int .i64 0] 58)).drewN n2) w1.heap.size C4.out)).mono ?_
  rintro e w3 ⟨rfl, n3, rfl⟩
  go_wp2_with fail
  refine (tyAwake _).mono ?_
  rintro e w6 ⟨rfl, b6⟩
  have B6 := Lib.hid b6
  clear b6
  go_wp2
  go_ret
  refine ⟨rfl, ?_⟩
  have b7 : Below w1.heap.size (w1.alloc (.cells #[.pointer none, .pointer none, .int .u64 0, .int .i64 0, .int .i64 0] 58)) w6 := ⟨B6.out.os, B6.out.tape, B6.out.output, B6.out.size, fun k hk => B6.out.block k (by simp; omega)⟩
  have b0 := (Below.refl w1.heap.size w1).alloc (Nat.le_refl _) (.cells #[.pointer none, .pointer none, .int .u64 0, .int .i64 0, .int .i64 0] 58)
  exact b0.trans b7

set_option maxRecDepth 100000 in
set_option maxHeartbeats 4000000 in
theorem tyMakes_s_hi (width sample seed key : Int) (w : World) (w1' : 1 ≤ width) (w2' : width ≤ 4096) (h : 1048576 < sample) :
    Calls Try.prog 7 #[.int .i64 width, .int .i64 sample, .int .u64 seed, .int .u64 key] w fun e w' => e = .returned (.bool true) ∧ Below w.heap.size w w' := by
  have N := Lib.hid (ti_bad w width sample seed (.inr (.inr h)))
  have h1 : 1 ≤ width := w1'
  have h2 : width ≤ 4096 := w2'
  have h3 : 1 ≤ sample := by omega
  have h4 : 1048576 < sample := h
  clear h w1' w2'
  go_enter Try.func7, Try.ntmps7
  go_wp2_with fail
  refine N.out.mono ?_
  rintro e w1 ⟨rfl, rfl⟩
  have VN := Lib.hid (fun W => tvoid_nil W)
  have VZ := Lib.hid (tvoid_zero (w1.alloc (.cells #[.pointer none, .pointer none, .int .u64 0, .int .i64 0, .int .i64 0] 58)) w1.heap.size (blk_cell' (heap_at _ _ _ rfl) 4))
  have c4 : (w1.alloc (.cells #[.pointer none, .pointer none, .int .u64 0, .int .i64 0, .int .i64 0] 58)).cell? ⟨w1.heap.size, 4, none⟩ = some (.int .i64 0) := blk_cell' (heap_at _ _ _ rfl) 4
  have C4 := Lib.hid c4
  clear c4
  go_wp2_with (first | (go_at_call 23; (with_reducible refine (tvSee _ _ key (VN.out _)).mono ?_); rintro e w' ⟨rfl, rfl⟩) | (go_at_call 23; (with_reducible refine (tvSee _ _ key VZ.out).mono ?_); rintro e w' ⟨rfl, rfl⟩) | (go_at_call 25; (with_reducible refine (tvThink _ _ key (VN.out _)).mono ?_); rintro e w' ⟨rfl, rfl⟩) | (go_at_call 25; (with_reducible refine (tvThink _ _ key VZ.out).mono ?_); rintro e w' ⟨rfl, rfl⟩) | (go_at_call 27; (with_reducible refine (tvSeen _ _ (VN.out _)).mono ?_); rintro e w' ⟨rfl, rfl⟩) | (go_at_call 27; (with_reducible refine (tvSeen _ _ VZ.out).mono ?_); rintro e w' ⟨rfl, rfl⟩))
  refine (tvAdmit _ _ key key (VN.out _)).mono ?_
  rintro e w2 ⟨rfl, n2, rfl⟩
  go_wp2_with fail
  refine (tvAdmit _ _ key key (tvoid_zero ((w1.alloc (.cells #[.pointer none, .pointer none, .int .u64 0, .int .i64 0, .int .i64 0] 58)).drewN n2) w1.heap.size C4.out)).mono ?_
  rintro e w3 ⟨rfl, n3, rfl⟩
  go_wp2_with fail
  refine (tyAwake _).mono ?_
  rintro e w6 ⟨rfl, b6⟩
  have B6 := Lib.hid b6
  clear b6
  go_wp2
  go_ret
  refine ⟨rfl, ?_⟩
  have b7 : Below w1.heap.size (w1.alloc (.cells #[.pointer none, .pointer none, .int .u64 0, .int .i64 0, .int .i64 0] 58)) w6 := ⟨B6.out.os, B6.out.tape, B6.out.output, B6.out.size, fun k hk => B6.out.block k (by simp; omega)⟩
  have b0 := (Below.refl w1.heap.size w1).alloc (Nat.le_refl _) (.cells #[.pointer none, .pointer none, .int .u64 0, .int .i64 0, .int .i64 0] 58)
  exact b0.trans b7

set_option maxRecDepth 100000 in
set_option maxHeartbeats 4000000 in
theorem tyMakes_some (m n : Nat) (seed key : Int) (w : World) (m1 : 1 ≤ m) (m2 : m ≤ 4096) (n1 : 1 ≤ n) (n2 : n ≤ 1048576) (s0 : 0 ≤ seed) (s1 : seed ≤ 18446744073709551615) :
    Calls Try.prog 7 #[.int .i64 (m : Int), .int .i64 (n : Int), .int .u64 seed, .int .u64 key] w fun e w' => e = .returned (.bool true) ∧ Below w.heap.size w w' := by
  have N := Lib.hid (ti_new w m n seed m1 m2 n1 n2 s0 s1)
  have h1 : (1 : Int) ≤ (m : Int) := by omega
  have h2 : (m : Int) ≤ 4096 := by omega
  have h3 : (1 : Int) ≤ (n : Int) := by omega
  have h4 : (n : Int) ≤ 1048576 := by omega
  go_enter Try.func7, Try.ntmps7
  go_wp2_with fail
  refine N.out.mono ?_
  rintro e w1 ⟨b, rfl, g1, b1⟩
  have B1 := Lib.hid b1
  clear g1 b1
  have VN := Lib.hid (fun W => tvoid_nil W)
  have VZ := Lib.hid (tvoid_zero (w1.alloc (.cells #[.pointer none, .pointer none, .int .u64 0, .int .i64 0, .int .i64 0] 58)) w1.heap.size (blk_cell' (heap_at _ _ _ rfl) 4))
  have c4 : (w1.alloc (.cells #[.pointer none, .pointer none, .int .u64 0, .int .i64 0, .int .i64 0] 58)).cell? ⟨w1.heap.size, 4, none⟩ = some (.int .i64 0) := blk_cell' (heap_at _ _ _ rfl) 4
  have C4 := Lib.hid c4
  clear c4
  go_wp2_with (first | (go_at_call 23; (with_reducible refine (tvSee _ _ key (VN.out _)).mono ?_); rintro e w' ⟨rfl, rfl⟩) | (go_at_call 23; (with_reducible refine (tvSee _ _ key VZ.out).mono ?_); rintro e w' ⟨rfl, rfl⟩) | (go_at_call 25; (with_reducible refine (tvThink _ _ key (VN.out _)).mono ?_); rintro e w' ⟨rfl, rfl⟩) | (go_at_call 25; (with_reducible refine (tvThink _ _ key VZ.out).mono ?_); rintro e w' ⟨rfl, rfl⟩) | (go_at_call 27; (with_reducible refine (tvSeen _ _ (VN.out _)).mono ?_); rintro e w' ⟨rfl, rfl⟩) | (go_at_call 27; (with_reducible refine (tvSeen _ _ VZ.out).mono ?_); rintro e w' ⟨rfl, rfl⟩))
  refine (tvAdmit _ _ key key (VN.out _)).mono ?_
  rintro e w2 ⟨rfl, n2, rfl⟩
  go_wp2_with fail
  refine (tvAdmit _ _ key key (tvoid_zero ((w1.alloc (.cells #[.pointer none, .pointer none, .int .u64 0, .int .i64 0, .int .i64 0] 58)).drewN n2) w1.heap.size C4.out)).mono ?_
  rintro e w3 ⟨rfl, n3, rfl⟩
  go_wp2_with fail
  refine (tyAwake _).mono ?_
  rintro e w6 ⟨rfl, b6⟩
  have B6 := Lib.hid b6
  clear b6
  go_wp2
  go_ret
  refine ⟨rfl, ?_⟩
  have b7 : Below w1.heap.size (w1.alloc (.cells #[.pointer none, .pointer none, .int .u64 0, .int .i64 0, .int .i64 0] 58)) w6 := ⟨B6.out.os, B6.out.tape, B6.out.output, B6.out.size, fun k hk => B6.out.block k (by simp; omega)⟩
  have b0 := (Below.refl w1.heap.size w1).alloc (Nat.le_refl _) (.cells #[.pointer none, .pointer none, .int .u64 0, .int .i64 0, .int .i64 0] 58)
  exact B1.out.trans ((b0.trans b7).mono B1.out.size)

theorem tyMakes_walk (width sample seed key : Int) (w : World) (s0 : 0 ≤ seed) (s1 : seed ≤ 18446744073709551615) :
    Calls Try.prog 7 #[.int .i64 width, .int .i64 sample, .int .u64 seed, .int .u64 key] w fun e w' => e = .returned (.bool true) ∧ Below w.heap.size w w' := by
  by_cases h1 : width < 1
  · exact tyMakes_w_lo width sample seed key w h1
  by_cases h2 : 4096 < width
  · exact tyMakes_w_hi width sample seed key w h2
  by_cases h3 : sample < 1
  · exact tyMakes_s_lo width sample seed key w (by omega) (by omega) h3
  by_cases h4 : 1048576 < sample
  · exact tyMakes_s_hi width sample seed key w (by omega) (by omega) h4
  obtain ⟨m, rfl⟩ : ∃ m : Nat, width = (m : Int) := ⟨width.toNat, by omega⟩
  obtain ⟨n, rfl⟩ : ∃ m : Nat, sample = (m : Int) := ⟨sample.toNat, by omega⟩
  exact tyMakes_some m n seed key w (by omega) (by omega) (by omega) (by omega) s0 s1

end Go.Proofs.Ytbhcpedokgdipaa
