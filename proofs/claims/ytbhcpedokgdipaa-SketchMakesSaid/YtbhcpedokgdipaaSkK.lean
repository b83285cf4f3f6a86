/- Which sketches there are: the statement's walk. -/
import Derived.Test.YtbhcpedokgdipaaSkM
namespace Go.Proofs.Ytbhcpedokgdipaa
open Go.RowKit
set_option linter.unusedVariables false

theorem void_nil (w : World) : Void w none := real_nil w
theorem void_zero (w : World) (b : Nat) (h : w.cell? ⟨b, 1, none⟩ = some (.int .i64 0)) : Void w (some ⟨b, 0, none⟩) := real_zero w b h

set_option maxRecDepth 100000 in
set_option maxHeartbeats 4000000 in
theorem makes_none (width seed key : Int) (w : World) (hw : width < 1 ∨ 4096 < width) :
    Calls Try.prog 5 #[.int .i64 width, .int .u64 seed, .int .u64 key] w fun e w' => e = .returned (.bool true) ∧ Below w.heap.size w w' := by
  have N := Lib.hid (new_none w width seed hw)
  by_cases h1 : width < 1
  · clear hw
    go_enter Try.func5, Try.ntmps5
    go_wp2_with fail
    refine N.out.mono ?_
    rintro e w' ⟨rfl, rfl⟩
    have VN := Lib.hid (void_nil (w'.alloc (.cells #[.int .u64 0, .int .i64 0, .slice none 0 0, .slice none 0 0, .slice none 0 0, .slice none 0 0] 42)))
    have VZ := Lib.hid (void_zero (w'.alloc (.cells #[.int .u64 0, .int .i64 0, .slice none 0 0, .slice none 0 0, .slice none 0 0, .slice none 0 0] 42)) w'.heap.size (blk_cell' (heap_at _ _ _ rfl) 1))
    go_wp2_with (first | (go_at_call 20; (with_reducible refine (voidClear _ _ VN.out).mono ?_); rintro e w' ⟨rfl, rfl⟩) | (go_at_call 20; (with_reducible refine (voidClear _ _ VZ.out).mono ?_); rintro e w' ⟨rfl, rfl⟩) | (go_at_call 18; (with_reducible refine (voidAdd _ _ key VN.out).mono ?_); rintro e w' ⟨rfl, rfl⟩) | (go_at_call 18; (with_reducible refine (voidAdd _ _ key VZ.out).mono ?_); rintro e w' ⟨rfl, rfl⟩) | (go_at_call 15; (with_reducible refine (voidCount _ _ key VN.out).mono ?_); rintro e w' ⟨rfl, rfl⟩) | (go_at_call 15; (with_reducible refine (voidCount _ _ key VZ.out).mono ?_); rintro e w' ⟨rfl, rfl⟩) | (go_at_call 19; (with_reducible refine (voidHalve _ _ VN.out).mono ?_); rintro e w' ⟨rfl, rfl⟩) | (go_at_call 19; (with_reducible refine (voidHalve _ _ VZ.out).mono ?_); rintro e w' ⟨rfl, rfl⟩) | (go_at_call 21; (with_reducible refine (voidSum _ _ VN.out).mono ?_); rintro e w' ⟨rfl, rfl⟩) | (go_at_call 21; (with_reducible refine (voidSum _ _ VZ.out).mono ?_); rintro e w' ⟨rfl, rfl⟩) | (go_at_call 17; (with_reducible refine (skAwake _).mono ?_); rintro e w6 ⟨rfl, b6⟩))
    go_ret
    refine ⟨rfl, ?_⟩
    have b0 := (Below.refl w'.heap.size w').alloc (Nat.le_refl _) (.cells #[.int .u64 0, .int .i64 0, .slice none 0 0, .slice none 0 0, .slice none 0 0, .slice none 0 0] 42)
    exact b0.trans (b6.mono b0.size)
  · have h2 : 4096 < width := by omega
    have h3 : 1 ≤ width := by omega
    clear hw h1
    go_enter Try.func5, Try.ntmps5
    go_wp2_with fail
    refine N.out.mono ?_
    rintro e w' ⟨rfl, rfl⟩
    have VN := Lib.hid (void_nil (w'.alloc (.cells #[.int .u64 0, .int .i64 0, .slice none 0 0, .slice none 0 0, .slice none 0 0, .slice none 0 0] 42)))
    have VZ := Lib.hid (void_zero (w'.alloc (.cells #[.int .u64 0, .int .i64 0, .slice none 0 0, .slice none 0 0, .slice none 0 0, .slice none 0 0] 42)) w'.heap.size (blk_cell' (heap_at _ _ _ rfl) 1))
    go_wp2_with (first | (go_at_call 20; (with_reducible refine (voidClear _ _ VN.out).mono ?_); rintro e w' ⟨rfl, rfl⟩) | (go_at_call 20; (with_reducible refine (voidClear _ _ VZ.out).mono ?_); rintro e w' ⟨rfl, rfl⟩) | (go_at_call 18; (with_reducible refine (voidAdd _ _ key VN.out).mono ?_); rintro e w' ⟨rfl, rfl⟩) | (go_at_call 18; (with_reducible refine (voidAdd _ _ key VZ.out).mono ?_); rintro e w' ⟨rfl, rfl⟩) | (go_at_call 15; (with_reducible refine (voidCount _ _ key VN.out).mono ?_); rintro e w' ⟨rfl, rfl⟩) | (go_at_call 15; (with_reducible refine (voidCount _ _ key VZ.out).mono ?_); rintro e w' ⟨rfl, rfl⟩) | (go_at_call 19; (with_reducible refine (voidHalve _ _ VN.out).mono ?_); rintro e w' ⟨rfl, rfl⟩) | (go_at_call 19; (with_reducible refine (voidHalve _ _ VZ.out).mono ?_); rintro e w' ⟨rfl, rfl⟩) | (go_at_call 21; (with_reducible refine (voidSum _ _ VN.out).mono ?_); rintro e w' ⟨rfl, rfl⟩) | (go_at_call 21; (with_reducible refine (voidSum _ _ VZ.out).mono ?_); rintro e w' ⟨rfl, rfl⟩) | (go_at_call 17; (with_reducible refine (skAwake _).mono ?_); rintro e w6 ⟨rfl, b6⟩))
    go_ret
    refine ⟨rfl, ?_⟩
    have b0 := (Below.refl w'.heap.size w').alloc (Nat.le_refl _) (.cells #[.int .u64 0, .int .i64 0, .slice none 0 0, .slice none 0 0, .slice none 0 0, .slice none 0 0] 42)
    exact b0.trans (b6.mono b0.size)

set_option maxRecDepth 100000 in
set_option maxHeartbeats 4000000 in
theorem makes_some (m : Nat) (seed key : Int) (w : World) (m1 : 1 ≤ m) (m2 : m ≤ 4096) (s0 : 0 ≤ seed) (s1 : seed ≤ 18446744073709551615) (k0 : 0 ≤ key) (k1 : key ≤ 18446744073709551615) :
    Calls Try.prog 5 #[.int .i64 (m : Int), .int .u64 seed, .int .u64 key] w fun e w' => e = .returned (.bool true) ∧ Below w.heap.size w w' := by
  obtain ⟨pk, hpk⟩ : ∃ pk, pk = pickN seed key m := ⟨_, rfl⟩
  have hlt : ∀ r, pk r < m := fun r => by rw [hpk]; exact pickN_lt _ _ _ _ m1
  have N := Lib.hid (oNew w m seed m1 m2 s0 s1)
  have A := Lib.hid (fun (F : Nat → Prop) (w : World) (b : Nat) (c : Nat → Nat → Nat) (h : One F w b seed m c) => hpk ▸ oAdd h key k0 k1)
  have C := Lib.hid (fun (F : Nat → Prop) (w : World) (b : Nat) (c : Nat → Nat → Nat) (h : One F w b seed m c) => hpk ▸ oCount h key k0 k1)
  have hz : cntC (fun _ _ => 0) pk = 0 := by simp [cntC, least]
  clear hpk
  have VN := Lib.hid void_nil
  have HL := Lib.hid hlt
  have HZ := Lib.hid hz
  clear hlt hz
  have u1 : (1 : Int) ≤ (m : Int) := by omega
  have u2 : (m : Int) ≤ 4096 := by omega
  go_enter Try.func5, Try.ntmps5
  go_wp2_with fail
  refine N.out.mono ?_
  rintro e w1 ⟨rfl, h1, b1⟩
  have P1 := Lib.hid (h1.past (.cells #[.int .u64 0, .int .i64 0, .slice none 0 0, .slice none 0 0, .slice none 0 0, .slice none 0 0] 42))
  have VZ1 := Lib.hid (void_zero (w1.alloc (.cells #[.int .u64 0, .int .i64 0, .slice none 0 0, .slice none 0 0, .slice none 0 0, .slice none 0 0] 42)) w1.heap.size (blk_cell' (heap_at _ _ _ rfl) 1))
  have c1 : (w1.alloc (.cells #[.int .u64 0, .int .i64 0, .slice none 0 0, .slice none 0 0, .slice none 0 0, .slice none 0 0] 42)).cell? ⟨w1.heap.size, 1, none⟩ = some (.int .i64 0) := blk_cell' (heap_at _ _ _ rfl) 1
  have C1 := Lib.hid c1
  have B1 := Lib.hid (b1.alloc b1.size (.cells #[.int .u64 0, .int .i64 0, .slice none 0 0, .slice none 0 0, .slice none 0 0, .slice none 0 0] 42))
  clear h1 b1 c1
  go_wp2_with (first | (go_at_call 20; (with_reducible refine (voidClear _ _ (VN.out _)).mono ?_); rintro e w' ⟨rfl, rfl⟩) | (go_at_call 20; (with_reducible refine (voidClear _ _ VZ1.out).mono ?_); rintro e w' ⟨rfl, rfl⟩))
  refine (C.out _ _ _ _ P1.out).mono ?_
  rintro e w2 ⟨rfl, h2, k2⟩
  rw [HZ.out]
  have H2 := Lib.hid h2
  have K2 := Lib.hid k2
  clear h2 k2
  go_wp2_with fail
  refine (A.out _ _ _ _ H2.out).mono ?_
  rintro e w3 ⟨rfl, h3, k3⟩
  rw [cnt_one]
  have H3 := Lib.hid h3
  have K3 := Lib.hid (K2.out.trans k3 (fun n h => .inl h))
  clear h3 k3
  have VZ := Lib.hid (void_zero w3 w1.heap.size (K3.out.cell (a := ⟨w1.heap.size, 1, none⟩) C1.out (fun x => x (.inr rfl))))
  go_wp2_with fail
  refine (oSum H3.out).mono ?_
  rintro e w' ⟨rfl, rfl⟩
  rw [sum_one pk m HL.out]
  go_wp2_with (first | (go_at_call 20; (with_reducible refine (voidClear _ _ (VN.out _)).mono ?_); rintro e w' ⟨rfl, rfl⟩) | (go_at_call 20; (with_reducible refine (voidClear _ _ VZ.out).mono ?_); rintro e w' ⟨rfl, rfl⟩) | (go_at_call 18; (with_reducible refine (voidAdd _ _ key (VN.out _)).mono ?_); rintro e w' ⟨rfl, rfl⟩) | (go_at_call 18; (with_reducible refine (voidAdd _ _ key VZ.out).mono ?_); rintro e w' ⟨rfl, rfl⟩) | (go_at_call 15; (with_reducible refine (voidCount _ _ key (VN.out _)).mono ?_); rintro e w' ⟨rfl, rfl⟩) | (go_at_call 15; (with_reducible refine (voidCount _ _ key VZ.out).mono ?_); rintro e w' ⟨rfl, rfl⟩) | (go_at_call 19; (with_reducible refine (voidHalve _ _ (VN.out _)).mono ?_); rintro e w' ⟨rfl, rfl⟩) | (go_at_call 19; (with_reducible refine (voidHalve _ _ VZ.out).mono ?_); rintro e w' ⟨rfl, rfl⟩) | (go_at_call 21; (with_reducible refine (voidSum _ _ (VN.out _)).mono ?_); rintro e w' ⟨rfl, rfl⟩) | (go_at_call 21; (with_reducible refine (voidSum _ _ VZ.out).mono ?_); rintro e w' ⟨rfl, rfl⟩))
  refine (skAwake _).mono ?_
  rintro e w6 ⟨rfl, b6⟩
  go_wp2
  go_ret
  refine ⟨rfl, ?_⟩
  have k6 := K3.out.trans (Keeps.of_below b6) (fun n h => .inr (Nat.le_trans K3.out.size h))
  have b7 := (k6.mono (T := fun j => w.heap.size ≤ j) (fun n _ h => by
    by_cases hn : n < w.heap.size
    · exact absurd (.inl hn) h
    · omega)).below B1.out.size
  exact B1.out.trans b7

theorem makes_walk (width seed key : Int) (w : World) (s0 : 0 ≤ seed) (s1 : seed ≤ 18446744073709551615) (k0 : 0 ≤ key) (k1 : key ≤ 18446744073709551615) :
    Calls Try.prog 5 #[.int .i64 width, .int .u64 seed, .int .u64 key] w fun e w' => e = .returned (.bool true) ∧ Below w.heap.size w w' := by
  by_cases h : width < 1 ∨ 4096 < width
  · exact makes_none width seed key w h
  · obtain ⟨m, rfl⟩ : ∃ m : Nat, width = (m : Int) := ⟨width.toNat, by omega⟩
    exact makes_some m seed key w (by omega) (by omega) s0 s1 k0 k1

end Go.Proofs.Ytbhcpedokgdipaa
