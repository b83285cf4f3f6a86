/- Which sketches there are: the statement's walk. -/
import Derived.Test.YtbhcpedokgdipaaSkO
namespace Go.Proofs.Ytbhcpedokgdipaa
open Go.RowKit
set_option linter.unusedVariables false

theorem new_none (w : World) (width seed : Int) (h : width < 1 ∨ 4096 < width) :
    Calls Try.prog 12 #[.int .i64 width, .int .u64 seed] w fun e w' => e = .returned (.tuple #[.pointer none, .int .i64 1]) ∧ w' = w := by
  by_cases h1 : width < 1
  · go_enter Try.func12, Try.ntmps12
    go_wp2
    go_ret2
    exact ⟨rfl, rfl⟩
  · have h2 : 4096 < width := by omega
    go_enter Try.func12, Try.ntmps12
    go_wp2
    go_ret2
    exact ⟨rfl, rfl⟩

theorem real_nil (w : World) : Calls Try.prog 54 #[.pointer none] w fun e w' => e = .returned (.bool false) ∧ w = w' := by
  go_enter Try.func54, Try.ntmps54
  go_wp2
  go_ret
  exact ⟨rfl, rfl⟩

theorem real_zero (w : World) (b : Nat) (h : w.cell? ⟨b, 1, none⟩ = some (.int .i64 0)) : Calls Try.prog 54 #[.pointer (some ⟨b, 0, none⟩)] w fun e w' => e = .returned (.bool false) ∧ w = w' := by
  go_enter Try.func54, Try.ntmps54
  go_wp2
  go_ret
  exact ⟨rfl, rfl⟩

/-- A sketch that is none: nil, or of no width. -/
def Void (w : World) (p : Option Addr) : Prop := Calls Try.prog 54 #[.pointer p] w fun e w' => e = .returned (.bool false) ∧ w = w'

theorem voidAdd (w : World) (p : Option Addr) (key : Int) (h : Void w p) : Calls Try.prog 18 #[.pointer p, .int .u64 key] w fun e w' => e = .returned (.int .i64 0) ∧ w = w' := by
  have R := Lib.hid h
  clear h
  go_enter Try.func18, Try.ntmps18
  go_wp2_with fail
  refine (R.out).mono ?_
  rintro e w' ⟨rfl, rfl⟩
  go_wp2
  go_ret
  exact ⟨rfl, rfl⟩

theorem voidCount (w : World) (p : Option Addr) (key : Int) (h : Void w p) : Calls Try.prog 15 #[.pointer p, .int .u64 key] w fun e w' => e = .returned (.int .i64 0) ∧ w = w' := by
  have R := Lib.hid h
  clear h
  go_enter Try.func15, Try.ntmps15
  go_wp2_with fail
  refine (R.out).mono ?_
  rintro e w' ⟨rfl, rfl⟩
  go_wp2
  go_ret
  exact ⟨rfl, rfl⟩

theorem voidHalve (w : World) (p : Option Addr) (h : Void w p) : Calls Try.prog 19 #[.pointer p] w fun e w' => e = .returned (.int .i64 0) ∧ w = w' := by
  have R := Lib.hid h
  clear h
  go_enter Try.func19, Try.ntmps19
  go_wp2_with fail
  refine (R.out).mono ?_
  rintro e w' ⟨rfl, rfl⟩
  go_wp2
  go_ret
  exact ⟨rfl, rfl⟩

theorem voidSum (w : World) (p : Option Addr) (h : Void w p) : Calls Try.prog 21 #[.pointer p] w fun e w' => e = .returned (.int .i64 0) ∧ w = w' := by
  have R := Lib.hid h
  clear h
  go_enter Try.func21, Try.ntmps21
  go_wp2_with fail
  refine (R.out).mono ?_
  rintro e w' ⟨rfl, rfl⟩
  go_wp2
  go_ret
  exact ⟨rfl, rfl⟩

theorem voidClear (w : World) (p : Option Addr) (h : Void w p) : Calls Try.prog 20 #[.pointer p] w fun e w' => e = .returned (.tuple #[]) ∧ w = w' := by
  have R := Lib.hid h
  clear h
  go_enter Try.func20, Try.ntmps20
  go_wp2_with fail
  refine (R.out).mono ?_
  rintro e w' ⟨rfl, rfl⟩
  go_wp2
  refine bodyPost_ret (results_none rfl _ _ _) rfl ?_
  exact ⟨rfl, rfl⟩

end Go.Proofs.Ytbhcpedokgdipaa
