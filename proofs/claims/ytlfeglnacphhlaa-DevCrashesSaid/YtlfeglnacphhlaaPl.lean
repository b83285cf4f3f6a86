/- DevPlays. -/
import Derived.Test.YtlfeglnacphhlaaTd
import Derived.Test.YtlfeglnacphhlaaTs
namespace Go.Proofs.Ytlfeglnacphhlaa
open Go.RowKit Go.Maps
set_option linter.unusedVariables false

/-- What stands behind j acts. -/
def PlS (w0 wr : World) (t j : Nat) : Prop := ∃ p q dd ee ps s, RigO w0 wr t p q dd ee ps ps s s ∧ ∀ k, k < 2 → (s k).lim ≤ j

theorem PlS.old {w0 wr : World} {t j : Nat} (h : PlS w0 wr t j) : Below w0.heap.size w0 wr := by
  obtain ⟨p, q, dd, ee, ps, s, hr, _⟩ := h
  exact hr.old
theorem PlS.below {w0 wr w' : World} {t j : Nat} (h : PlS w0 wr t j) (b : Below wr.heap.size wr w') : PlS w0 w' t j := by
  obtain ⟨p, q, dd, ee, ps, s, hr, hl⟩ := h
  exact ⟨p, q, dd, ee, ps, s, hr.below b, hl⟩
theorem PlS.do {w0 wr : World} {t j : Nat} {x : ActV} (h : PlS w0 wr t j) (ok : ActOk w0 x) (hj : j < 100) :
    Calls Try.prog 15 #[.pointer (some ⟨t, 0, none⟩), argA x] wr fun e w' => e = .returned (.bool true) ∧ PlS w0 w' t (j + 1) := by
  obtain ⟨p, q, dd, ee, ps, s, hr, hl⟩ := h
  refine (two_do hr ok (fun k hk => by have := hl k hk; omega)).mono fun e w' ⟨p', q', dd', ee', ps', s', he, hr', hl'⟩ => ⟨he, p', q', dd', ee', ps', s', hr', fun k hk => ?_⟩
  have h1 := hl k hk
  have h2 := hl' k hk
  omega
theorem PlS.same {w0 wr : World} {t j : Nat} (h : PlS w0 wr t j) (hj : j ≤ 100) :
    Calls Try.prog 23 #[.pointer (some ⟨t, 0, none⟩)] wr fun e w' => e = .returned (.bool true) ∧ PlS w0 w' t j := by
  have hh := h
  obtain ⟨p, q, dd, ee, ps, s, hr, hl⟩ := h
  exact (two_same hr (fun k hk => by have := hl k hk; omega)).mono fun e w' ⟨he, b⟩ => ⟨he, hh.below b⟩

theorem PlS.begin (w : World) (n m : Nat) (hn : n ≤ 4096) (hm : m ≤ 4096) :
    Calls Try.prog 7 #[.int .i64 (n : Int), .int .i64 (m : Int)] w fun e w' => ∃ t, e = .returned (.tuple #[.pointer (some ⟨t, 0, none⟩), .bool true]) ∧ PlS w w' t 0 :=
  (law_begin w n m hn hm).mono fun e w' ⟨t, p, q, dd, ee, he, hr⟩ => ⟨t, he, p, q, dd, ee, newP, _, hr, fun k hk => Nat.le_refl _⟩

/-- The cells of an act of a row. -/
theorem Act8.cells {w : World} {a : Option Addr} {n : Nat} {X : Nat → ActV} (h : Act8 w a n X) {j : Nat} (hj : j < n) : ∃ b off, a = some ⟨b, off, none⟩ ∧ ∀ W, Below w.heap.size w W →
    W.cell? ⟨b, off + j * 11, none⟩ = some (.int .i64 (X j).kind) ∧ W.cell? ⟨b, off + j * 11 + 1, none⟩ = some (.int .i64 (X j).ofw) ∧ W.cell? ⟨b, off + j * 11 + 2, none⟩ = some (.int .i64 (X j).at_) ∧ W.cell? ⟨b, off + j * 11 + 3, none⟩ = some (.int .i64 (X j).n) ∧
    W.cell? ⟨b, off + j * 11 + 4, none⟩ = some (.int .i64 (X j).bit) ∧ W.cell? ⟨b, off + j * 11 + 5, none⟩ = some (.int .u32 (X j).turn) ∧ W.cell? ⟨b, off + j * 11 + 6, none⟩ = some (.int .u64 (X j).a) ∧ W.cell? ⟨b, off + j * 11 + 7, none⟩ = some (.int .u64 (X j).b) ∧
    W.cell? ⟨b, off + j * 11 + 8, none⟩ = some (.int .u8 (X j).fill) ∧ W.cell? ⟨b, off + j * 11 + 9, none⟩ = some (.int .i64 (X j).size) ∧ W.cell? ⟨b, off + j * 11 + 10, none⟩ = some (X j).fv := by
  obtain ⟨b, off, ha, hc⟩ := h.2 (by omega)
  refine ⟨b, off, ha, fun W hb => ?_⟩
  have k := Keeps.of_below hb
  exact ⟨k.old (hc j hj 0 (by omega)), k.old (hc j hj 1 (by omega)), k.old (hc j hj 2 (by omega)), k.old (hc j hj 3 (by omega)), k.old (hc j hj 4 (by omega)), k.old (hc j hj 5 (by omega)), k.old (hc j hj 6 (by omega)), k.old (hc j hj 7 (by omega)), k.old (hc j hj 8 (by omega)), k.old (hc j hj 9 (by omega)), k.old (hc j hj 10 (by omega))⟩

set_option maxRecDepth 100000 in
set_option maxHeartbeats 4000000 in
theorem devPlays_walk (n m : Int) (a : Option Addr) (len cap : Nat) (X : Nat → ActV) (w : World) (n0 : 0 ≤ n) (n1 : n ≤ 255) (m0 : 0 ≤ m) (m1 : m ≤ 255) (ha : Act8 w a len X) (hl : len ≤ cap) (hcm : cap ≤ 9223372036854775807) :
    Calls Try.prog 5 #[.int .u8 n, .int .u8 m, .slice a len cap] w fun e w' => e = .returned (.bool true) ∧ Below w.heap.size w w' := by
  have HA := Lib.hid ha
  have HL := Lib.hid (show len ≤ 9223372036854775807 by omega)
  obtain ⟨N, hN⟩ : ∃ N : Nat, n % 10 = (N : Int) := ⟨(n % 10).toNat, by omega⟩
  obtain ⟨M, hM⟩ : ∃ M : Nat, m % 10 = (M : Int) := ⟨(m % 10).toNat, by omega⟩
  have hr : n.tmod 10 = (N : Int) := by rw [Int.tmod_eq_emod_of_nonneg n0]; exact hN
  have hr' : m.tmod 10 = (M : Int) := by rw [Int.tmod_eq_emod_of_nonneg m0]; exact hM
  have hN1 : (N : Int) < 10 := by omega
  have hM1 : (M : Int) < 10 := by omega
  have BG := Lib.hid (PlS.begin w N M (by omega) (by omega))
  clear ha hl hcm hN hM
  go_enter Try.func5, Try.ntmps5
  go_wp2_with fail
  refine BG.out.mono ?_
  rintro e w1 ⟨t, rfl, P1⟩
  have P1 := Lib.hid P1
  clear BG hr hr'
  go_wp2_with fail
  go_loopw [9] (fun i wr => ∃ j : Nat, j ≤ len ∧ j ≤ 40 ∧ i = .int .i64 (j : Int) ∧ PlS w wr t j) (fun i _ => len - (intOf i).toNat)
  case atStart => exact ⟨0, Nat.zero_le _, Nat.zero_le _, rfl, P1.out⟩
  case round =>
    obtain ⟨j, hj, hj40, rfl, P⟩ := hrel
    have HP := Lib.hid P
    by_cases h1 : (j : Int) < (len : Int)
    · by_cases h2 : (j : Int) < 40
      · obtain ⟨b, off, rfl, hc⟩ := HA.out.cells (j := j) (by omega)
        obtain ⟨q0, q1, q2, q3, q4, q5, q6, q7, q8, q9, q10⟩ := hc wr P.old
        have HJ := Lib.hid (show j < 40 ∧ j + 1 ≤ len by omega)
        have DO := Lib.hid (P.do (HA.out.1 j (by omega)) (by omega))
        unfold argA at DO
        generalize (X j).kind = k0 at *
        generalize (X j).ofw = k1 at *
        generalize (X j).at_ = k2 at *
        generalize (X j).n = k3 at *
        generalize (X j).bit = k4 at *
        generalize (X j).turn = k5 at *
        generalize (X j).a = k6 at *
        generalize (X j).b = k7 at *
        generalize (X j).fill = k8 at *
        generalize (X j).size = k9 at *
        generalize (X j).fv = k10 at *
        clear P hc
        go_wp2_with fail
        refine DO.out.mono ?_
        rintro e w2 ⟨rfl, P2⟩
        have SA := Lib.hid (P2.same (by have := HJ.out; omega))
        clear P2 DO q0 q1 q2 q3 q4 q5 q6 q7 q8 q9 q10
        go_wp2_with fail
        refine SA.out.mono ?_
        rintro e w3 ⟨rfl, P3⟩
        have P3 := Lib.hid P3
        clear SA
        go_wp2
        go_roundw
        case rel => exact ⟨j + 1, HJ.out.2, HJ.out.1, by simp, P3.out⟩
        case measure => have := HJ.out.2; simp only [intOf]; omega
      · have h3 : decide ((j : Int) < 40) = false := decide_eq_false h2
        have SA := Lib.hid (P.same (by omega))
        clear HA P h2
        go_wp2_with fail
        refine SA.out.mono ?_
        rintro e w2 ⟨rfl, P2⟩
        have AW := Lib.hid (law_awake w2)
        have OL := Lib.hid P2.old
        clear P2 SA
        go_wp2_with fail
        refine AW.out.mono ?_
        rintro e w9 ⟨rfl, b9⟩
        have OL := Lib.hid (OL.out.trans (b9.mono OL.out.size))
        clear b9
        go_wp2_with fail
        go_ret
        exact ⟨rfl, OL.out⟩
    · have h3 : decide (j < len) = false := decide_eq_false (by omega)
      have SA := Lib.hid (P.same (by omega))
      clear HA P h1
      go_wp2_with fail
      refine SA.out.mono ?_
      rintro e w2 ⟨rfl, P2⟩
      have AW := Lib.hid (law_awake w2)
      have OL := Lib.hid P2.old
      clear P2 SA
      go_wp2_with fail
      refine AW.out.mono ?_
      rintro e w9 ⟨rfl, b9⟩
      have OL := Lib.hid (OL.out.trans (b9.mono OL.out.size))
      clear b9
      go_wp2_with fail
      go_ret
      exact ⟨rfl, OL.out⟩

end Go.Proofs.Ytlfeglnacphhlaa
