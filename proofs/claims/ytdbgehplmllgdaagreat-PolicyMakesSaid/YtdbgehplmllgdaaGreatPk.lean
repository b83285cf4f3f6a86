/- The page's example of chapter 26. -/
import Derived.Test.YtdbgehplmllgdaaGreatPn
namespace Go.Proofs.YtdbgehplmllgdaaGreat
open Go.RowKit Fl
open Scan hiding isN
set_option linter.unusedVariables false
set_option maxRecDepth 100000
set_option maxHeartbeats 1000000

def cfA : CF := ⟨9, 1, 1, 1, 0, 1, 0, 4607182418800017408, 4611686018427387904, 3⟩
def cA : PC := ⟨1, 0, 16, 10, 2, 1, 3, 4607182418800017408⟩
theorem cA_of : pcOf cfA = cA := by
  have h1 : shareI cfA.slots (keepF cfA.keep) = 0 := by kernel_rfl
  have h2 : shareI (4 * cfA.slots) (divG cfA.ghost) = 2 := by kernel_rfl
  unfold pcOf cA
  rw [h1, h2]
  rfl
def sA1 : PV := (enterP cA pv0 0 5).2
def sA2 : PV := readP cA sA1 5
def sA3 : PV := readP cA sA2 5
def sA4 : PV := readP cA sA3 7
def sA5 : PV := (leaveP cA sA4 0 true).2
def sA6 : PV := (enterP cA sA5 0 7).2
theorem aw_1 : (enterP cA pv0 0 5).1 = true := by kernel_rfl
theorem aw_7 : thinkP cA sA4 7 = 1 := by kernel_rfl
theorem aw_5 : thinkP cA sA4 5 = 2 := by kernel_rfl
theorem aw_w : welP cA sA4 7 = false := by kernel_rfl
theorem aw_l : (leaveP cA sA4 0 true).1 = true := by kernel_rfl
theorem aw_e : (enterP cA sA5 0 7).1 = true := by kernel_rfl
theorem aw_v : vicN sA6 = 0 ∧ vicL sA6 = 7 ∧ anyP sA6 = true := ⟨by kernel_rfl, by kernel_rfl, by kernel_rfl⟩
theorem aw_k : welP cA sA6 5 = true := by kernel_rfl
theorem aw_N : sA1.N < 1000000 ∧ sA2.N < 1000000 ∧ sA3.N < 1000000 ∧ sA4.N < 1000000 := by decide

theorem poAwake (w : World) : Calls Tryz.prog 23 #[] w fun r w' => r = .returned (.bool true) ∧ Below w.heap.size w w' := by
  have NW := Lib.hid (show ∀ W, Calls Tryz.prog 10 #[.agg #[.int .i64 9, .int .i64 1, .int .i64 1, .int .i64 1, .int .i64 0, .int .u64 1, .float .f64 0, .float .f64 4607182418800017408, .float .f64 4611686018427387904, .int .i64 3]] W (fun e w' => ∃ b, e = .returned (.tuple #[.pointer (some ⟨b, 0, none⟩), .int .i64 0]) ∧ PoO b cA pv0 (New W w') w' ∧ Below W.heap.size W w') from fun W => by
    have := po_new cfA ⟨by decide, by decide, by decide, by decide, by decide⟩ (by decide) W
    rw [cA_of] at this
    exact this)
  have E1 := Lib.hid (fun (b : Nat) (W : World) (x : Run1 (PoO b cA pv0) w W) => show Calls Tryz.prog 16 #[.pointer (some ⟨b, 0, none⟩), .int .i64 0, .int .i64 5] W (fun e w' => e = .returned (.bool true) ∧ Run1 (PoO b cA sA1) w w') from aw_1 ▸ Run1.step x (fun A g o => po_enter g o 0 5 ⟨by decide, by decide⟩))
  have R1 := Lib.hid (fun (b : Nat) (W : World) (x : Run1 (PoO b cA sA1) w W) => show Calls Tryz.prog 14 #[.pointer (some ⟨b, 0, none⟩), .int .i64 5] W (fun e w' => e = .returned (.bool sA2.scan) ∧ Run1 (PoO b cA sA2) w w') from Run1.step x (fun A g o => po_read g o aw_N.1 5 ⟨by decide, by decide⟩))
  have R2 := Lib.hid (fun (b : Nat) (W : World) (x : Run1 (PoO b cA sA2) w W) => show Calls Tryz.prog 14 #[.pointer (some ⟨b, 0, none⟩), .int .i64 5] W (fun e w' => e = .returned (.bool sA3.scan) ∧ Run1 (PoO b cA sA3) w w') from Run1.step x (fun A g o => po_read g o aw_N.2.1 5 ⟨by decide, by decide⟩))
  have R3 := Lib.hid (fun (b : Nat) (W : World) (x : Run1 (PoO b cA sA3) w W) => show Calls Tryz.prog 14 #[.pointer (some ⟨b, 0, none⟩), .int .i64 7] W (fun e w' => e = .returned (.bool sA4.scan) ∧ Run1 (PoO b cA sA4) w w') from Run1.step x (fun A g o => po_read g o aw_N.2.2.1 7 ⟨by decide, by decide⟩))
  have T7 := Lib.hid (fun (b : Nat) (W : World) (x : Run1 (PoO b cA sA4) w W) => show Calls Tryz.prog 19 #[.pointer (some ⟨b, 0, none⟩), .int .i64 7] W (fun e w' => e = .returned (.int .i64 1) ∧ Run1 (PoO b cA sA4) w w') from by
    have := Run1.step x (fun A g o => po_think g o 7)
    rw [aw_7] at this
    exact this)
  have T5 := Lib.hid (fun (b : Nat) (W : World) (x : Run1 (PoO b cA sA4) w W) => show Calls Tryz.prog 19 #[.pointer (some ⟨b, 0, none⟩), .int .i64 5] W (fun e w' => e = .returned (.int .i64 2) ∧ Run1 (PoO b cA sA4) w w') from by
    have := Run1.step x (fun A g o => po_think g o 5)
    rw [aw_5] at this
    exact this)
  have W7 := Lib.hid (fun (b : Nat) (W : World) (x : Run1 (PoO b cA sA4) w W) => show Calls Tryz.prog 18 #[.pointer (some ⟨b, 0, none⟩), .int .i64 7] W (fun e w' => e = .returned (.bool false) ∧ Run1 (PoO b cA sA4) w w') from by
    have := Run1.step x (fun A g o => po_welcome g o 7)
    rw [aw_w] at this
    exact this)
  have L0 := Lib.hid (fun (b : Nat) (W : World) (x : Run1 (PoO b cA sA4) w W) => show Calls Tryz.prog 17 #[.pointer (some ⟨b, 0, none⟩), .int .i64 0, .bool true] W (fun e w' => e = .returned (.bool true) ∧ Run1 (PoO b cA sA5) w w') from by
    have := Run1.step x (fun A g o => po_leave g o aw_N.2.2.2 0 true)
    rw [aw_l] at this
    exact this)
  have E2 := Lib.hid (fun (b : Nat) (W : World) (x : Run1 (PoO b cA sA5) w W) => show Calls Tryz.prog 16 #[.pointer (some ⟨b, 0, none⟩), .int .i64 0, .int .i64 7] W (fun e w' => e = .returned (.bool true) ∧ Run1 (PoO b cA sA6) w w') from by
    have := Run1.step x (fun A g o => po_enter g o 0 7 ⟨by decide, by decide⟩)
    rw [aw_e] at this
    exact this)
  have V6 := Lib.hid (fun (b : Nat) (W : World) (x : Run1 (PoO b cA sA6) w W) => show Calls Tryz.prog 13 #[.pointer (some ⟨b, 0, none⟩)] W (fun e w' => e = .returned (.tuple #[.int .i64 0, .int .i64 7, .bool true]) ∧ Run1 (PoO b cA sA6) w w') from by
    obtain ⟨⟨p, hx⟩, hc, hs⟩ := x.1
    have := po_victim hx hc
    rw [aw_v.1, aw_v.2.1, aw_v.2.2] at this
    exact this.mono fun e w' ⟨he, hb⟩ => ⟨he, x.keep hb⟩)
  have W5 := Lib.hid (fun (b : Nat) (W : World) (x : Run1 (PoO b cA sA6) w W) => show Calls Tryz.prog 18 #[.pointer (some ⟨b, 0, none⟩), .int .i64 5] W (fun e w' => e = .returned (.bool true) ∧ Run1 (PoO b cA sA6) w w') from by
    have := Run1.step x (fun A g o => po_welcome g o 5)
    rw [aw_k] at this
    exact this)
  generalize sA1 = s1 at *
  generalize sA2 = s2 at *
  generalize sA3 = s3 at *
  generalize sA4 = s4 at *
  generalize sA5 = s5 at *
  generalize sA6 = s6 at *
  go_enter Tryz.func23, Tryz.ntmps23
  go_wp2_with fail
  refine (NW.out _).mono ?_
  rintro e w1 ⟨b, rfl, g1, b1⟩
  have G1 := Lib.hid (show Run1 (PoO b cA pv0) w w1 from ⟨g1, b1⟩)
  clear g1 b1
  go_wp2_with fail
  refine (E1.out _ _ G1.out).mono ?_
  rintro e w2 ⟨rfl, g2⟩
  have G2 := Lib.hid g2
  clear g2
  go_wp2_with fail
  refine (R1.out _ _ G2.out).mono ?_
  rintro e w3 ⟨rfl, g3⟩
  have G3 := Lib.hid g3
  clear g3
  go_wp2_with fail
  refine (R2.out _ _ G3.out).mono ?_
  rintro e w4 ⟨rfl, g4⟩
  have G4 := Lib.hid g4
  clear g4
  go_wp2_with fail
  refine (R3.out _ _ G4.out).mono ?_
  rintro e w5 ⟨rfl, g5⟩
  have G5 := Lib.hid g5
  clear g5
  go_wp2_with fail
  refine (T7.out _ _ G5.out).mono ?_
  rintro e w6 ⟨rfl, g6⟩
  have G6 := Lib.hid g6
  clear g6
  go_wp2_with fail
  refine (T5.out _ _ G6.out).mono ?_
  rintro e w7 ⟨rfl, g7⟩
  have G7 := Lib.hid g7
  clear g7
  go_wp2_with fail
  refine (W7.out _ _ G7.out).mono ?_
  rintro e w8 ⟨rfl, g8⟩
  have G8 := Lib.hid g8
  clear g8
  go_wp2_with fail
  refine (L0.out _ _ G8.out).mono ?_
  rintro e w9 ⟨rfl, g9⟩
  have G9 := Lib.hid g9
  clear g9
  go_wp2_with fail
  refine (E2.out _ _ G9.out).mono ?_
  rintro e w10 ⟨rfl, g10⟩
  have G10 := Lib.hid g10
  clear g10
  go_wp2_with fail
  refine (V6.out _ _ G10.out).mono ?_
  rintro e w11 ⟨rfl, g11⟩
  have G11 := Lib.hid g11
  clear g11
  go_wp2_with fail
  refine (W5.out _ _ G11.out).mono ?_
  rintro e w12 ⟨rfl, g12⟩
  have G12 := Lib.hid g12
  clear g12
  go_wp2
  go_ret
  exact ⟨rfl, G12.out.2⟩
end Go.Proofs.YtdbgehplmllgdaaGreat
