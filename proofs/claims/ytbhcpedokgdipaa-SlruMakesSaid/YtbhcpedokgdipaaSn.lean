/- Which orders there are: the statement's walk. -/
import Derived.Test.YtbhcpedokgdipaaSb
namespace Go.Proofs.Ytbhcpedokgdipaa
open Go.RowKit Fl
set_option linter.unusedVariables false

theorem lists_bad (w : World) (n : Int) (h : n < 0 ∨ 1024 < n) :
    Calls Try.prog 69 #[.int .i64 n, .int .i64 2] w fun r w' => r = .returned (.tuple #[.pointer none, .int .i64 1]) ∧ w' = w := by
  by_cases h1 : n < 0
  · go_enter Try.func69, Try.ntmps69
    go_wp2
    go_ret2
    exact ⟨rfl, rfl⟩
  · have h2 : 1024 < n := by omega
    go_enter Try.func69, Try.ntmps69
    go_wp2
    go_ret2
    exact ⟨rfl, rfl⟩

theorem sl_new_bad (w : World) (n : Int) (f : Nat) (h : n < 0 ∨ 1024 < n) :
    Calls Try.prog 35 #[.int .i64 n, .float .f64 f] w fun r w' => r = .returned (.tuple #[.pointer none, .int .i64 1]) ∧ w' = w := by
  have N := Lib.hid (lists_bad w n h)
  clear h
  go_enter Try.func35, Try.ntmps35
  go_wp2_with fail
  refine N.out.mono ?_
  rintro e w' ⟨rfl, rfl⟩
  go_wp2
  go_ret2
  exact ⟨rfl, rfl⟩

/-- An order that is none. -/
def SVoid (w : World) (p : Option Addr) : Prop := Calls Try.prog 71 #[.pointer p] w fun e w' => e = .returned (.bool false) ∧ w = w'
theorem svoid_nil (w : World) : SVoid w none := by
  show Calls _ _ _ _ _
  go_enter Try.func71, Try.ntmps71
  go_wp2
  go_ret
  exact ⟨rfl, rfl⟩
theorem svoid_zero (w : World) (b : Nat) (h : w.cell? ⟨b, 0, none⟩ = some (.pointer none)) : SVoid w (some ⟨b, 0, none⟩) := by
  show Calls _ _ _ _ _
  go_enter Try.func71, Try.ntmps71
  go_wp2
  go_ret
  exact ⟨rfl, rfl⟩

theorem svEnter (w : World) (p : Option Addr) (m : Int) (h : SVoid w p) : Calls Try.prog 36 #[.pointer p, .int .i64 m] w fun e w' => e = .returned (.bool false) ∧ w = w' := by
  have R := Lib.hid h
  clear h
  go_enter Try.func36, Try.ntmps36
  go_wp2_with fail
  refine (R.out).mono ?_
  rintro e w' ⟨rfl, rfl⟩
  go_wp2
  go_ret
  exact ⟨rfl, rfl⟩
theorem svTouch (w : World) (p : Option Addr) (m : Int) (h : SVoid w p) : Calls Try.prog 37 #[.pointer p, .int .i64 m] w fun e w' => e = .returned (.bool false) ∧ w = w' := by
  have R := Lib.hid h
  clear h
  go_enter Try.func37, Try.ntmps37
  go_wp2_with fail
  refine (R.out).mono ?_
  rintro e w' ⟨rfl, rfl⟩
  go_wp2
  go_ret
  exact ⟨rfl, rfl⟩
theorem svLeave (w : World) (p : Option Addr) (m : Int) (h : SVoid w p) : Calls Try.prog 38 #[.pointer p, .int .i64 m] w fun e w' => e = .returned (.bool false) ∧ w = w' := by
  have R := Lib.hid h
  clear h
  go_enter Try.func38, Try.ntmps38
  go_wp2_with fail
  refine (R.out).mono ?_
  rintro e w' ⟨rfl, rfl⟩
  go_wp2
  go_ret
  exact ⟨rfl, rfl⟩
theorem svProtected (w : World) (p : Option Addr) (m : Int) (h : SVoid w p) : Calls Try.prog 39 #[.pointer p, .int .i64 m] w fun e w' => e = .returned (.bool false) ∧ w = w' := by
  have R := Lib.hid h
  clear h
  go_enter Try.func39, Try.ntmps39
  go_wp2_with fail
  refine (R.out).mono ?_
  rintro e w' ⟨rfl, rfl⟩
  go_wp2
  go_ret
  exact ⟨rfl, rfl⟩
theorem svLen (w : World) (p : Option Addr) (h : SVoid w p) : Calls Try.prog 42 #[.pointer p] w fun e w' => e = .returned (.int .i64 0) ∧ w = w' := by
  have R := Lib.hid h
  clear h
  go_enter Try.func42, Try.ntmps42
  go_wp2_with fail
  refine (R.out).mono ?_
  rintro e w' ⟨rfl, rfl⟩
  go_wp2
  go_ret
  exact ⟨rfl, rfl⟩
theorem svCap (w : World) (p : Option Addr) (h : SVoid w p) : Calls Try.prog 41 #[.pointer p] w fun e w' => e = .returned (.int .i64 0) ∧ w = w' := by
  have R := Lib.hid h
  clear h
  go_enter Try.func41, Try.ntmps41
  go_wp2_with fail
  refine (R.out).mono ?_
  rintro e w' ⟨rfl, rfl⟩
  go_wp2
  go_ret
  exact ⟨rfl, rfl⟩
theorem svVictim (w : World) (p : Option Addr) (h : SVoid w p) : Calls Try.prog 40 #[.pointer p] w fun e w' => e = .returned (.tuple #[.int .i64 0, .bool false]) ∧ w = w' := by
  have R := Lib.hid h
  clear h
  go_enter Try.func40, Try.ntmps40
  go_wp2_with fail
  refine (R.out).mono ?_
  rintro e w' ⟨rfl, rfl⟩
  go_wp2
  go_ret2
  exact ⟨rfl, rfl⟩
theorem svAll (w : World) (p : Option Addr) (h : SVoid (w.alloc (.cells #[.pointer p] 67)) p) : Calls Try.prog 44 #[.pointer p] w fun e w' => e = .returned (.slice none 0 0) ∧ w' = w.alloc (.cells #[.pointer p] 67) := by
  have R := Lib.hid h
  clear h
  go_enter Try.func44, Try.ntmps44
  go_wp2_with fail
  refine (R.out).mono ?_
  rintro e w' ⟨rfl, rfl⟩
  go_wp2
  go_ret
  exact ⟨rfl, rfl⟩

set_option maxRecDepth 100000 in
set_option maxHeartbeats 4000000 in
theorem slMakes_lo (n keep slot : Int) (w : World) (k0 : 0 ≤ keep) (k1 : keep ≤ 18446744073709551615) (h : n < 0) :
    Calls Try.prog 10 #[.int .i64 n, .int .u64 keep, .int .i64 slot] w fun e w' => e = .returned (.bool true) ∧ Below w.heap.size w w' := by
  have N := Lib.hid (sl_new_bad w n keep.toNat (by omega))
  have h1 : n < 0 := h
  clear h
  go_enter Try.func10, Try.ntmps10
  go_wp2_with fail
  refine N.out.mono ?_
  rintro e w1 ⟨rfl, rfl⟩
  have VN := Lib.hid (fun W => svoid_nil W)
  have c0 : (w1.alloc (.cells #[.pointer none, .int .i64 0, .int .i64 0] 78)).cell? ⟨w1.heap.size, 0, none⟩ = some (.pointer none) := blk_cell' (heap_at _ _ _ rfl) 0
  have c1 : ((w1.alloc (.cells #[.pointer none, .int .i64 0, .int .i64 0] 78)).alloc (.cells #[.pointer none] 67)).cell? ⟨w1.heap.size, 0, none⟩ = some (.pointer none) := (World.cell?_alloc_some _ _ _ (by rw [c0]; rfl)).trans c0
  have c2 : (((w1.alloc (.cells #[.pointer none, .int .i64 0, .int .i64 0] 78)).alloc (.cells #[.pointer none] 67)).alloc (.cells #[.pointer (some ⟨w1.heap.size, 0, none⟩)] 67)).cell? ⟨w1.heap.size, 0, none⟩ = some (.pointer none) := (World.cell?_alloc_some _ _ _ (by rw [c1]; rfl)).trans c1
  have VZ := Lib.hid (svoid_zero (w1.alloc (.cells #[.pointer none, .int .i64 0, .int .i64 0] 78)) w1.heap.size c0)
  have VZ2 := Lib.hid (svoid_zero (((w1.alloc (.cells #[.pointer none, .int .i64 0, .int .i64 0] 78)).alloc (.cells #[.pointer none] 67)).alloc (.cells #[.pointer (some ⟨w1.heap.size, 0, none⟩)] 67)) w1.heap.size c2)
  have B0 := Lib.hid ((((Below.refl w1.heap.size w1).alloc (Nat.le_refl _) (.cells #[.pointer none, .int .i64 0, .int .i64 0] 78)).alloc (by simp) (.cells #[.pointer none] 67)).alloc (by simp; omega) (.cells #[.pointer (some ⟨w1.heap.size, 0, none⟩)] 67))
  clear c0 c1 c2
  go_wp2_with (first | (go_at_call 40; (with_reducible refine (svVictim _ _ (VN.out _)).mono ?_); rintro e w' ⟨rfl, rfl⟩) | (go_at_call 40; (with_reducible refine (svVictim _ _ VZ.out).mono ?_); rintro e w' ⟨rfl, rfl⟩) | (go_at_call 36; (with_reducible refine (svEnter _ _ slot (VN.out _)).mono ?_); rintro e w' ⟨rfl, rfl⟩) | (go_at_call 36; (with_reducible refine (svEnter _ _ slot VZ.out).mono ?_); rintro e w' ⟨rfl, rfl⟩) | (go_at_call 37; (with_reducible refine (svTouch _ _ slot (VN.out _)).mono ?_); rintro e w' ⟨rfl, rfl⟩) | (go_at_call 37; (with_reducible refine (svTouch _ _ slot VZ.out).mono ?_); rintro e w' ⟨rfl, rfl⟩) | (go_at_call 38; (with_reducible refine (svLeave _ _ slot (VN.out _)).mono ?_); rintro e w' ⟨rfl, rfl⟩) | (go_at_call 38; (with_reducible refine (svLeave _ _ slot VZ.out).mono ?_); rintro e w' ⟨rfl, rfl⟩) | (go_at_call 39; (with_reducible refine (svProtected _ _ slot (VN.out _)).mono ?_); rintro e w' ⟨rfl, rfl⟩) | (go_at_call 39; (with_reducible refine (svProtected _ _ slot VZ.out).mono ?_); rintro e w' ⟨rfl, rfl⟩) | (go_at_call 42; (with_reducible refine (svLen _ _ (VN.out _)).mono ?_); rintro e w' ⟨rfl, rfl⟩) | (go_at_call 42; (with_reducible refine (svLen _ _ VZ.out).mono ?_); rintro e w' ⟨rfl, rfl⟩) | (go_at_call 41; (with_reducible refine (svCap _ _ (VN.out _)).mono ?_); rintro e w' ⟨rfl, rfl⟩) | (go_at_call 41; (with_reducible refine (svCap _ _ VZ.out).mono ?_); rintro e w' ⟨rfl, rfl⟩))
  refine (svAll _ _ (VN.out _)).mono ?_
  rintro e w2 ⟨rfl, rfl⟩
  go_wp2_with fail
  refine (svAll _ _ VZ2.out).mono ?_
  rintro e w2 ⟨rfl, rfl⟩
  go_wp2_with fail
  refine (slAwake _).mono ?_
  rintro e w6 ⟨rfl, b6⟩
  have B6 := Lib.hid (B0.out.trans (b6.mono B0.out.size))
  clear b6
  go_wp2
  go_ret
  exact ⟨rfl, B6.out⟩

set_option maxRecDepth 100000 in
set_option maxHeartbeats 4000000 in
theorem slMakes_hi (n keep slot : Int) (w : World) (k0 : 0 ≤ keep) (k1 : keep ≤ 18446744073709551615) (h : 1024 < n) :
    Calls Try.prog 10 #[.int .i64 n, .int .u64 keep, .int .i64 slot] w fun e w' => e = .returned (.bool true) ∧ Below w.heap.size w w' := by
  have N := Lib.hid (sl_new_bad w n keep.toNat (by omega))
  have h1 : 0 ≤ n := by omega
  have h2 : 1024 < n := h
  clear h
  go_enter Try.func10, Try.ntmps10
  go_wp2_with fail
  refine N.out.mono ?_
  rintro e w1 ⟨rfl, rfl⟩
  have VN := Lib.hid (fun W => svoid_nil W)
  have c0 : (w1.alloc (.cells #[.pointer none, .int .i64 0, .int .i64 0] 78)).cell? ⟨w1.heap.size, 0, none⟩ = some (.pointer none) := blk_cell' (heap_at _ _ _ rfl) 0
  have c1 : ((w1.alloc (.cells #[.pointer none, .int .i64 0, .int .i64 0] 78)).alloc (.cells #[.pointer none] 67)).cell? ⟨w1.heap.size, 0, none⟩ = some (.pointer none) := (World.cell?_alloc_some _ _ _ (by rw [c0]; rfl)).trans c0
  have c2 : (((w1.alloc (.cells #[.pointer none, .int .i64 0, .int .i64 0] 78)).alloc (.cells #[.pointer none] 67)).alloc (.cells #[.pointer (some ⟨w1.heap.size, 0, none⟩)] 67)).cell? ⟨w1.heap.size, 0, none⟩ = some (.pointer none) := (World.cell?_alloc_some _ _ _ (by rw [c1]; rfl)).trans c1
  have VZ := Lib.hid (svoid_zero (w1.alloc (.cells #[.pointer none, .int .i64 0, .int .i64 0] 78)) w1.heap.size c0)
  have VZ2 := Lib.hid (svoid_zero (((w1.alloc (.cells #[.pointer none, .int .i64 0, .int .i64 0] 78)).alloc (.cells #[.pointer none] 67)).alloc (.cells #[.pointer (some ⟨w1.heap.size, 0, none⟩)] 67)) w1.heap.size c2)
  have B0 := Lib.hid ((((Below.refl w1.heap.size w1).alloc (Nat.le_refl _) (.cells #[.pointer none, .int .i64 0, .int .i64 0] 78)).alloc (by simp) (.cells #[.pointer none] 67)).alloc (by simp; omega) (.cells #[.pointer (some ⟨w1.heap.size, 0, none⟩)] 67))
  clear c0 c1 c2
  go_wp2_with (first | (go_at_call 40; (with_reducible refine (svVictim _ _ (VN.out _)).mono ?_); rintro e w' ⟨rfl, rfl⟩) | (go_at_call 40; (with_reducible refine (svVictim _ _ VZ.out).mono ?_); rintro e w' ⟨rfl, rfl⟩) | (go_at_call 36; (with_reducible refine (svEnter _ _ slot (VN.out _)).mono ?_); rintro e w' ⟨rfl, rfl⟩) | (go_at_call 36; (with_reducible refine (svEnter _ _ slot VZ.out).mono ?_); rintro e w' ⟨rfl, rfl⟩) | (go_at_call 37; (with_reducible refine (svTouch _ _ slot (VN.out _)).mono ?_); rintro e w' ⟨rfl, rfl⟩) | (go_at_call 37; (with_reducible refine (svTouch _ _ slot VZ.out).mono ?_); rintro e w' ⟨rfl, rfl⟩) | (go_at_call 38; (with_reducible refine (svLeave _ _ slot (VN.out _)).mono ?_); rintro e w' ⟨rfl, rfl⟩) | (go_at_call 38; (with_reducible refine (svLeave _ _ slot VZ.out).mono ?_); rintro e w' ⟨rfl, rfl⟩) | (go_at_call 39; (with_reducible refine (svProtected _ _ slot (VN.out _)).mono ?_); rintro e w' ⟨rfl, rfl⟩) | (go_at_call 39; (with_reducible refine (svProtected _ _ slot VZ.out).mono ?_); rintro e w' ⟨rfl, rfl⟩) | (go_at_call 42; (with_reducible refine (svLen _ _ (VN.out _)).mono ?_); rintro e w' ⟨rfl, rfl⟩) | (go_at_call 42; (with_reducible refine (svLen _ _ VZ.out).mono ?_); rintro e w' ⟨rfl, rfl⟩) | (go_at_call 41; (with_reducible refine (svCap _ _ (VN.out _)).mono ?_); rintro e w' ⟨rfl, rfl⟩) | (go_at_call 41; (with_reducible refine (svCap _ _ VZ.out).mono ?_); rintro e w' ⟨rfl, rfl⟩))
  refine (svAll _ _ (VN.out _)).mono ?_
  rintro e w2 ⟨rfl, rfl⟩
  go_wp2_with fail
  refine (svAll _ _ VZ2.out).mono ?_
  rintro e w2 ⟨rfl, rfl⟩
  go_wp2_with fail
  refine (slAwake _).mono ?_
  rintro e w6 ⟨rfl, b6⟩
  have B6 := Lib.hid (B0.out.trans (b6.mono B0.out.size))
  clear b6
  go_wp2
  go_ret
  exact ⟨rfl, B6.out⟩

set_option maxRecDepth 100000 in
set_option maxHeartbeats 4000000 in
theorem slMakes_some (m : Nat) (keep slot : Int) (w : World) (k0 : 0 ≤ keep) (k1 : keep ≤ 18446744073709551615) (hm : m ≤ 1024) :
    Calls Try.prog 10 #[.int .i64 (m : Int), .int .u64 keep, .int .i64 slot] w fun e w' => e = .returned (.bool true) ∧ Below w.heap.size w w' := by
  obtain ⟨most, hmo⟩ : ∃ most : Nat, (most : Int) = shareI m keep.toNat := ⟨(shareI m keep.toNat).toNat, by have := shareI_bd m keep.toNat (by omega); omega⟩
  have N := Lib.hid (sl_new w m keep.toNat hm (by omega) most hmo)
  have h1 : (0 : Int) ≤ (m : Int) := by omega
  have h2 : (m : Int) ≤ 1024 := by omega
  clear hmo
  go_enter Try.func10, Try.ntmps10
  go_wp2_with fail
  refine N.out.mono ?_
  rintro e w1 ⟨b, rfl, g1, b1⟩
  have B1 := Lib.hid b1
  clear g1 b1
  have VN := Lib.hid (fun W => svoid_nil W)
  have c0 : (w1.alloc (.cells #[.pointer none, .int .i64 0, .int .i64 0] 78)).cell? ⟨w1.heap.size, 0, none⟩ = some (.pointer none) := blk_cell' (heap_at _ _ _ rfl) 0
  have c1 : ((w1.alloc (.cells #[.pointer none, .int .i64 0, .int .i64 0] 78)).alloc (.cells #[.pointer none] 67)).cell? ⟨w1.heap.size, 0, none⟩ = some (.pointer none) := (World.cell?_alloc_some _ _ _ (by rw [c0]; rfl)).trans c0
  have c2 : (((w1.alloc (.cells #[.pointer none, .int .i64 0, .int .i64 0] 78)).alloc (.cells #[.pointer none] 67)).alloc (.cells #[.pointer (some ⟨w1.heap.size, 0, none⟩)] 67)).cell? ⟨w1.heap.size, 0, none⟩ = some (.pointer none) := (World.cell?_alloc_some _ _ _ (by rw [c1]; rfl)).trans c1
  have VZ := Lib.hid (svoid_zero (w1.alloc (.cells #[.pointer none, .int .i64 0, .int .i64 0] 78)) w1.heap.size c0)
  have VZ2 := Lib.hid (svoid_zero (((w1.alloc (.cells #[.pointer none, .int .i64 0, .int .i64 0] 78)).alloc (.cells #[.pointer none] 67)).alloc (.cells #[.pointer (some ⟨w1.heap.size, 0, none⟩)] 67)) w1.heap.size c2)
  have B0 := Lib.hid ((((Below.refl w1.heap.size w1).alloc (Nat.le_refl _) (.cells #[.pointer none, .int .i64 0, .int .i64 0] 78)).alloc (by simp) (.cells #[.pointer none] 67)).alloc (by simp; omega) (.cells #[.pointer (some ⟨w1.heap.size, 0, none⟩)] 67))
  clear c0 c1 c2
  go_wp2_with (first | (go_at_call 40; (with_reducible refine (svVictim _ _ (VN.out _)).mono ?_); rintro e w' ⟨rfl, rfl⟩) | (go_at_call 40; (with_reducible refine (svVictim _ _ VZ.out).mono ?_); rintro e w' ⟨rfl, rfl⟩) | (go_at_call 36; (with_reducible refine (svEnter _ _ slot (VN.out _)).mono ?_); rintro e w' ⟨rfl, rfl⟩) | (go_at_call 36; (with_reducible refine (svEnter _ _ slot VZ.out).mono ?_); rintro e w' ⟨rfl, rfl⟩) | (go_at_call 37; (with_reducible refine (svTouch _ _ slot (VN.out _)).mono ?_); rintro e w' ⟨rfl, rfl⟩) | (go_at_call 37; (with_reducible refine (svTouch _ _ slot VZ.out).mono ?_); rintro e w' ⟨rfl, rfl⟩) | (go_at_call 38; (with_reducible refine (svLeave _ _ slot (VN.out _)).mono ?_); rintro e w' ⟨rfl, rfl⟩) | (go_at_call 38; (with_reducible refine (svLeave _ _ slot VZ.out).mono ?_); rintro e w' ⟨rfl, rfl⟩) | (go_at_call 39; (with_reducible refine (svProtected _ _ slot (VN.out _)).mono ?_); rintro e w' ⟨rfl, rfl⟩) | (go_at_call 39; (with_reducible refine (svProtected _ _ slot VZ.out).mono ?_); rintro e w' ⟨rfl, rfl⟩) | (go_at_call 42; (with_reducible refine (svLen _ _ (VN.out _)).mono ?_); rintro e w' ⟨rfl, rfl⟩) | (go_at_call 42; (with_reducible refine (svLen _ _ VZ.out).mono ?_); rintro e w' ⟨rfl, rfl⟩) | (go_at_call 41; (with_reducible refine (svCap _ _ (VN.out _)).mono ?_); rintro e w' ⟨rfl, rfl⟩) | (go_at_call 41; (with_reducible refine (svCap _ _ VZ.out).mono ?_); rintro e w' ⟨rfl, rfl⟩))
  refine (svAll _ _ (VN.out _)).mono ?_
  rintro e w2 ⟨rfl, rfl⟩
  go_wp2_with fail
  refine (svAll _ _ VZ2.out).mono ?_
  rintro e w2 ⟨rfl, rfl⟩
  go_wp2_with fail
  refine (slAwake _).mono ?_
  rintro e w6 ⟨rfl, b6⟩
  have B6 := Lib.hid (B0.out.trans (b6.mono B0.out.size))
  clear b6
  go_wp2
  go_ret
  exact ⟨rfl, B1.out.trans (B6.out.mono B1.out.size)⟩

theorem slMakes_walk (n keep slot : Int) (w : World) (k0 : 0 ≤ keep) (k1 : keep ≤ 18446744073709551615) :
    Calls Try.prog 10 #[.int .i64 n, .int .u64 keep, .int .i64 slot] w fun e w' => e = .returned (.bool true) ∧ Below w.heap.size w w' := by
  by_cases h1 : n < 0
  · exact slMakes_lo n keep slot w k0 k1 h1
  by_cases h2 : 1024 < n
  · exact slMakes_hi n keep slot w k0 k1 h2
  obtain ⟨m, rfl⟩ : ∃ m : Nat, n = (m : Int) := ⟨n.toNat, by omega⟩
  exact slMakes_some m keep slot w k0 k1 (by omega)

end Go.Proofs.Ytbhcpedokgdipaa
