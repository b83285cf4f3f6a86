/- What void devices and void powers answer (written by wip/tools/gen_vd.py). -/
import Derived.Test.YtlfeglnacphhlaaDv
namespace Go.Proofs.Ytlfeglnacphhlaa
open Go.RowKit Go.Maps
set_option linter.unusedVariables false

/-- A device that is none, or that nobody made. -/
def Vd (w : World) (v : Value) : Prop := v = .pointer none ∨ ∃ g, v = .pointer (some ⟨g, 0, none⟩) ∧ w.cell? ⟨g, 0, none⟩ = some (.pointer none)

section
variable {w : World} {v : Value}

theorem vd_real (h : Vd w v) : Calls Try.prog 45 #[v] w fun e w' => e = .returned (.bool false) ∧ w = w' := by
  rcases h with rfl | ⟨g, rfl, hc⟩
  · exact dv_none w
  · exact dv_odd hc

set_option maxRecDepth 100000 in
theorem vd_ready (h : Vd w v) : Calls Try.prog 32 #[v] w fun e w' => e = .returned (.int .i64 2) ∧ w = w' := by
  have VR := Lib.hid (vd_real h)
  go_enter Try.func32, Try.ntmps32
  go_wp2_with fail
  refine VR.out.mono ?_
  rintro e w' ⟨rfl, rfl⟩
  go_wp2_with fail
  go_ret
  exact ⟨rfl, rfl⟩

set_option maxRecDepth 100000 in
theorem vd_fail (h : Vd w v) (a b : Int) : Calls Try.prog 25 #[v, .int .u64 a, .int .u64 b] w fun e w' => e = .returned (.tuple #[]) ∧ w = w' := by
  have VR := Lib.hid (vd_real h)
  go_enter Try.func25, Try.ntmps25
  go_wp2_with fail
  refine VR.out.mono ?_
  rintro e w' ⟨rfl, rfl⟩
  go_wp2_with fail
  go_end0
  exact ⟨rfl, rfl⟩

set_option maxRecDepth 100000 in
theorem vd_read (h : Vd w v) (x : Int) : Calls Try.prog 27 #[v, .int .i64 x] w fun e w' => e = .returned (.tuple #[.slice none 0 0, .int .i64 2]) ∧ w = w' := by
  have VR := Lib.hid (vd_ready h)
  go_enter Try.func27, Try.ntmps27
  go_wp2_with fail
  refine VR.out.mono ?_
  rintro e w' ⟨rfl, rfl⟩
  go_wp2_with fail
  go_ret2
  exact ⟨rfl, rfl⟩

set_option maxRecDepth 100000 in
theorem vd_crash (h : Vd w v) (q f : Value) : Calls Try.prog 16 #[v, q, f] w fun e w' => e = .returned (.tuple #[.pointer none, .int .i64 2]) ∧ w = w' := by
  have VR := Lib.hid (vd_real h)
  go_enter Try.func16, Try.ntmps16
  go_wp2_with fail
  refine VR.out.mono ?_
  rintro e w' ⟨rfl, rfl⟩
  go_wp2_with fail
  go_ret2
  exact ⟨rfl, rfl⟩

set_option maxRecDepth 100000 in
theorem vd_peek (h : Vd w v) (x : Int) : Calls Try.prog 20 #[v, .int .i64 x] w fun e w' => e = .returned (.tuple #[.slice none 0 0, .bool false]) ∧ w = w' := by
  have VR := Lib.hid (vd_real h)
  go_enter Try.func20, Try.ntmps20
  go_wp2_with fail
  refine VR.out.mono ?_
  rintro e w' ⟨rfl, rfl⟩
  go_wp2_with fail
  go_ret2
  exact ⟨rfl, rfl⟩

set_option maxRecDepth 100000 in
theorem vd_write (h : Vd w v) (x : Int) (c : Value) : Calls Try.prog 11 #[v, .int .i64 x, c] w fun e w' => e = .returned (.int .i64 2) ∧ w = w' := by
  have VR := Lib.hid (vd_ready h)
  go_enter Try.func11, Try.ntmps11
  go_wp2_with fail
  refine VR.out.mono ?_
  rintro e w' ⟨rfl, rfl⟩
  go_wp2_with fail
  go_ret
  exact ⟨rfl, rfl⟩

set_option maxRecDepth 100000 in
theorem vd_flush (h : Vd w v) : Calls Try.prog 9 #[v] w fun e w' => e = .returned (.int .i64 2) ∧ w = w' := by
  have VR := Lib.hid (vd_ready h)
  go_enter Try.func9, Try.ntmps9
  go_wp2_with fail
  refine VR.out.mono ?_
  rintro e w' ⟨rfl, rfl⟩
  go_wp2_with fail
  go_ret
  exact ⟨rfl, rfl⟩

set_option maxRecDepth 100000 in
theorem vd_rot (h : Vd w v) (x y z : Int) : Calls Try.prog 28 #[v, .int .i64 x, .int .i64 y, .int .u32 z] w fun e w' => e = .returned (.int .i64 2) ∧ w = w' := by
  have VR := Lib.hid (vd_real h)
  go_enter Try.func28, Try.ntmps28
  go_wp2_with fail
  refine VR.out.mono ?_
  rintro e w' ⟨rfl, rfl⟩
  go_wp2_with fail
  go_ret
  exact ⟨rfl, rfl⟩

set_option maxRecDepth 100000 in
theorem vd_rotten (h : Vd w v) (x : Int) : Calls Try.prog 29 #[v, .int .i64 x] w fun e w' => e = .returned (.bool false) ∧ w = w' := by
  have VR := Lib.hid (vd_real h)
  go_enter Try.func29, Try.ntmps29
  go_wp2_with fail
  refine VR.out.mono ?_
  rintro e w' ⟨rfl, rfl⟩
  go_wp2_with fail
  go_ret
  exact ⟨rfl, rfl⟩

set_option maxRecDepth 100000 in
theorem vd_size (h : Vd w v) : Calls Try.prog 21 #[v] w fun e w' => e = .returned (.int .i64 0) ∧ w = w' := by
  have VR := Lib.hid (vd_real h)
  go_enter Try.func21, Try.ntmps21
  go_wp2_with fail
  refine VR.out.mono ?_
  rintro e w' ⟨rfl, rfl⟩
  go_wp2_with fail
  go_ret
  exact ⟨rfl, rfl⟩

set_option maxRecDepth 100000 in
theorem vd_loose (h : Vd w v) : Calls Try.prog 22 #[v] w fun e w' => e = .returned (.slice none 0 0) ∧ w = w' := by
  have VR := Lib.hid (vd_real h)
  go_enter Try.func22, Try.ntmps22
  go_wp2_with fail
  refine VR.out.mono ?_
  rintro e w' ⟨rfl, rfl⟩
  go_wp2_with fail
  go_ret
  exact ⟨rfl, rfl⟩

set_option maxRecDepth 100000 in
theorem vp_cut (w : World) : Calls Try.prog 26 #[.pointer none] w fun e w' => e = .returned (.tuple #[]) ∧ w = w' := by
  have VR := Lib.hid (pow_none w)
  go_enter Try.func26, Try.ntmps26
  go_wp2_with fail
  refine VR.out.mono ?_
  rintro e w' ⟨rfl, rfl⟩
  go_wp2_with fail
  go_end0
  exact ⟨rfl, rfl⟩

set_option maxRecDepth 100000 in
theorem vp_done (w : World) : Calls Try.prog 13 #[.pointer none] w fun e w' => e = .returned (.int .i64 0) ∧ w = w' := by
  have VR := Lib.hid (pow_none w)
  go_enter Try.func13, Try.ntmps13
  go_wp2_with fail
  refine VR.out.mono ?_
  rintro e w' ⟨rfl, rfl⟩
  go_wp2_with fail
  go_ret
  exact ⟨rfl, rfl⟩

set_option maxRecDepth 100000 in
theorem vp_down (w : World) : Calls Try.prog 10 #[.pointer none] w fun e w' => e = .returned (.bool true) ∧ w = w' := by
  have VR := Lib.hid (pow_none w)
  go_enter Try.func10, Try.ntmps10
  go_wp2_with fail
  refine VR.out.mono ?_
  rintro e w' ⟨rfl, rfl⟩
  go_wp2_with fail
  go_ret
  exact ⟨rfl, rfl⟩

set_option maxRecDepth 100000 in
theorem vp_fuse (w : World) (n : Int) : Calls Try.prog 8 #[.pointer none, .int .i64 n] w fun e w' => e = .returned (.int .i64 2) ∧ w = w' := by
  have VR := Lib.hid (pow_none w)
  go_enter Try.func8, Try.ntmps8
  go_wp2_with fail
  refine VR.out.mono ?_
  rintro e w' ⟨rfl, rfl⟩
  go_wp2_with fail
  go_ret
  exact ⟨rfl, rfl⟩

set_option maxRecDepth 100000 in
theorem vp_real {g : Nat} (hc : w.cell? ⟨g, 0, none⟩ = some (.bool false)) : Calls Try.prog 31 #[.pointer (some ⟨g, 0, none⟩)] w fun e w' => e = .returned (.bool false) ∧ w = w' := by
  go_enter Try.func31, Try.ntmps31
  go_wp2_with fail
  go_ret
  exact ⟨rfl, rfl⟩

/-- A power that is none, or that nobody made. -/
def Vp (w : World) (v : Value) : Prop := v = .pointer none ∨ ∃ g, v = .pointer (some ⟨g, 0, none⟩) ∧ w.cell? ⟨g, 0, none⟩ = some (.bool false)
theorem vp_real2 (h : Vp w v) : Calls Try.prog 31 #[v] w fun e w' => e = .returned (.bool false) ∧ w = w' := by
  rcases h with rfl | ⟨g, rfl, hc⟩
  · exact pow_none w
  · exact vp_real hc

set_option maxRecDepth 100000 in
theorem vp_new (h : Vp w v) : Calls Try.prog 24 #[.int .i64 1, v] w fun e w' => e = .returned (.tuple #[.pointer none, .int .i64 2]) ∧ w = w' := by
  have VR := Lib.hid (vp_real2 h)
  go_enter Try.func24, Try.ntmps24
  go_wp2_with fail
  refine VR.out.mono ?_
  rintro e w' ⟨rfl, rfl⟩
  go_wp2_with fail
  go_ret2
  exact ⟨rfl, rfl⟩

set_option maxRecDepth 100000 in
theorem new_arg (w : World) (v : Value) (n : Int) (hn : n < 0 ∨ 4096 < n) : Calls Try.prog 24 #[.int .i64 n, v] w fun e w' => e = .returned (.tuple #[.pointer none, .int .i64 1]) ∧ w = w' := by
  rcases hn with hn | hn
  · go_enter Try.func24, Try.ntmps24
    go_wp2_with fail
    go_ret2
    exact ⟨rfl, rfl⟩
  · have h2 : ¬ n < 0 := by omega
    go_enter Try.func24, Try.ntmps24
    go_wp2_with fail
    go_ret2
    exact ⟨rfl, rfl⟩
end

end Go.Proofs.Ytlfeglnacphhlaa
