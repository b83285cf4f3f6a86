/- What the document's functions of chapter 24 answer. -/
import Derived.Test.YtlilnffcnjajdaaScanPlain
namespace Go.Proofs.Ytlilnffcnjajdaa
open Go.RowKit Scan

theorem ret_int {k : IntKind} {a b : Int} (h : a = b) : Ending.returned (.int k a) = .returned (.int k b) := by rw [h]
theorem ret_bool {a b : Bool} (h : a = b) : Ending.returned (.bool a) = .returned (.bool b) := by rw [h]

theorem rRow_any (b off n c : Nat) (z : Nat → Int) (w : World) (hn : 1 ≤ n) (hn2 : n ≤ 4611686018427387904) (hz : ∀ i, i < n → -9223372036854775808 ≤ z i ∧ z i ≤ 9223372036854775807)
    (hc : ∀ i, i < n → w.cell? ⟨b, off + i, none⟩ = some (.int .i64 (z i))) :
    Calls Try.prog 15 #[.slice (some ⟨b, off, none⟩) n c] w fun e w' => e = .returned (.int .i64 (rowN z n)) ∧ ∃ m, w' = w.drewN m := by
  go_enter Try.func15, Try.ntmps15
  go_wp2
  go_loopw [3, 4] (fun r i wr => ∃ j m : Nat, j < n ∧ i = .int .i64 (j : Int) ∧ r = .int .i64 ((n : Int) - j - 1) ∧ (rowN z n : Int) = (n : Int) - j - 1 + rowN z (j + 1) ∧ wr = w.drewN m) (fun _ i _ => (intOf i + 1).toNat)
  case atStart => exact ⟨n - 1, 0, by omega, by congr 1; omega, by congr 1; omega, by rw [show n - 1 + 1 = n from by omega]; omega, rfl⟩
  case round =>
    obtain ⟨j, m, hj, rfl, rfl, hrow, rfl⟩ := hrel
    have hrl := rowN_le z (j + 1)
    have hcj := hc j (by omega)
    have hzj := hz j (by omega)
    have hR := Lib.hid hrow
    clear hrow
    by_cases h0 : j = 0
    · have hr1 : Hid (rowN z (j + 1) = 1) := Lib.hid (rowN_stop (.inl h0))
      have e0 : ((j : Int) == 0) = true := by simp [h0]
      clear h0 hc
      go_wp2
      go_quiet (fail)
      go_wp2
      go_ret
      exact ⟨ret_int (by rw [hR.out, hr1.out]; omega), _, World.drewN_drewN _ _ _⟩
    · have e0 : ((j : Int) == 0) = false := by simpa using h0
      obtain ⟨i, hi⟩ : ∃ i, i + 1 = j := ⟨j - 1, by omega⟩
      have hcp := hc i (by omega)
      have hzp := hz i (by omega)
      have hin : i < n := by omega
      have hI := Lib.hid hi
      have w1 : IntKind.i64.wrap ((j : Int) - 1) = (i : Int) := by rw [IntWalk.i64_in _ (by omega)]; omega
      have hst : ∀ h : ¬ (z i + 1 = z j), rowN z (j + 1) = 1 := fun h => rowN_stop (.inr (by rw [show j - 1 = i from by omega]; exact h))
      have hgo : ∀ h : z i + 1 = z j, rowN z (j + 1) = rowN z (i + 1) + 1 := fun h => by rw [rowN_go h0 (by rw [show j - 1 = i from by omega]; exact h), hi]
      clear hi
      clear hc
      by_cases hg : z i + 1 = z j
      · have HR : Hid (rowN z (j + 1) = rowN z (i + 1) + 1) := Lib.hid (hgo hg)
        have e1 : (z j == -9223372036854775808) = false := by simp; omega
        have e2 : (z j - 1 != z i) = false := by simp; omega
        have w2 : IntKind.i64.wrap (z j - 1) = z j - 1 := IntWalk.i64_in _ (by omega)
        have HG := Lib.hid hg
        have H0 := Lib.hid h0
        clear hg h0 hst hgo
        go_wp2
        go_quiet (fail)
        go_wp2
        go_roundw
        case rel => exact ⟨i, _, hin, rfl, by have := hI.out; congr 1; omega, by have := hI.out; rw [hR.out, HR.out]; omega, rfl⟩
        case measure => have := hI.out; simp [intOf]; omega
      · have HR : Hid (rowN z (j + 1) = 1) := Lib.hid (hst hg)
        have HG := Lib.hid hg
        have H0 := Lib.hid h0
        by_cases e1 : (z j == -9223372036854775808) = true
        · clear hg h0 hst hgo
          go_wp2
          go_quiet (fail)
          go_wp2
          go_ret
          exact ⟨ret_int (by rw [hR.out, HR.out]; omega), _, World.drewN_drewN _ _ _⟩
        · have e1 : (z j == -9223372036854775808) = false := by simpa using e1
          have e3 : z j ≠ -9223372036854775808 := by simpa using e1
          have e2 : (z j - 1 != z i) = true := by simp; omega
          have w2 : IntKind.i64.wrap (z j - 1) = z j - 1 := IntWalk.i64_in _ (by omega)
          clear hg h0 e3 hst hgo
          go_wp2
          go_quiet (fail)
          go_wp2
          go_ret
          exact ⟨ret_int (by rw [hR.out, HR.out]; omega), _, World.drewN_drewN _ _ _⟩

theorem rIs_any (b off n c : Nat) (long : Int) (z : Nat → Int) (w : World) (hn : 1 ≤ n) (hn2 : n ≤ 4611686018427387904) (hz : ∀ i, i < n → -9223372036854775808 ≤ z i ∧ z i ≤ 9223372036854775807)
    (hc : ∀ i, i < n → w.cell? ⟨b, off + i, none⟩ = some (.int .i64 (z i))) :
    Calls Try.prog 13 #[.slice (some ⟨b, off, none⟩) n c, .int .i64 long] w fun e w' => e = .returned (.bool (isN z long n)) ∧ ∃ m, w' = w.drewN m := by
  have g := rRow_any b off n c z w hn hn2 hz hc
  have hI : Hid (isN z long n = decide (0 < long ∧ long ≤ rowN z n)) := Lib.hid rfl
  clear hz hc
  by_cases h : 0 < long
  · go_enter Try.func13, Try.ntmps13
    go_wp2_with (go_at_call 15; refine g.mono ?_; rintro e w' ⟨rfl, m, rfl⟩)
    go_ret
    exact ⟨ret_bool (by rw [hI.out]; simp [h]), _, rfl⟩
  · go_enter Try.func13, Try.ntmps13
    go_wp2
    go_ret
    exact ⟨ret_bool (by rw [hI.out]; simp; omega), 0, rfl⟩

theorem rScans_any (a : Option Addr) (n c : Nat) (long : Int) (z : Nat → Int) (w : World) (hnc : n ≤ c) (hn2 : n ≤ 4611686018427387904) (hz : ∀ i, i < n → -9223372036854775808 ≤ z i ∧ z i ≤ 9223372036854775807)
    (hc : 0 < n → ∃ b off, a = some ⟨b, off, none⟩ ∧ ∀ i, i < n → w.cell? ⟨b, off + i, none⟩ = some (.int .i64 (z i))) :
    Calls Try.prog 17 #[.slice a n c, .int .i64 long] w fun e w' => e = .returned (.int .i64 (scansN z long n)) ∧ ∃ m, w' = w.drewN m := by
  have hsl := scansN_le z long
  have HSL := Lib.hid hsl
  clear hsl
  go_enter Try.func17, Try.ntmps17
  go_wp2
  go_loopw [5, 6] (fun r i wr => ∃ k m : Nat, k ≤ n ∧ i = .int .i64 ((k : Int) + 1) ∧ r = .int .i64 (scansN z long k) ∧ wr = w.drewN m) (fun _ i _ => (n + 1 - (intOf i).toNat))
  case atStart => exact ⟨0, 0, by omega, rfl, rfl, rfl⟩
  case round =>
    obtain ⟨k, m, hk, rfl, rfl, rfl⟩ := hrel
    have hs1 := HSL.out k
    by_cases hkn : k < n
    · obtain ⟨b, off, rfl, hcs⟩ := hc (by omega)
      have g := rRow_any b off (k + 1) c z (w.drewN m) (by omega) (by omega) (fun i hi => hz i (by omega)) (fun i hi => hcs i (by omega))
      have G := Lib.hid g
      have HC := Lib.hid hc
      have HZ := Lib.hid hz
      have HCS := Lib.hid hcs
      have hkc : (k : Int) + 1 ≤ c := by omega
      clear g hc hz hcs
      by_cases h : 0 < long
      · by_cases he : ((rowN z (k + 1) : Int) == long) = true
        · have HS : Hid (scansN z long (k + 1) = scansN z long k + 1) := Lib.hid (by simp only [scansN]; rw [if_pos ⟨h, eq_of_beq he⟩])
          go_wp2_with (go_at_call 15; refine (G.out).mono ?_; rintro e w' ⟨rfl, m2, rfl⟩)
          go_roundw
          case rel => exact ⟨k + 1, _, by omega, by go_num, by rw [HS.out]; go_num, by first | rfl | exact World.drewN_drewN _ _ _⟩
          case measure => simp [intOf]; omega
        · have HS : Hid (scansN z long (k + 1) = scansN z long k) := Lib.hid (by simp only [scansN]; rw [if_neg (fun hh => he (by rw [hh.2]; simp))]; rfl)
          have he : ((rowN z (k + 1) : Int) == long) = false := by simpa using he
          go_wp2_with (go_at_call 15; refine (G.out).mono ?_; rintro e w' ⟨rfl, m2, rfl⟩)
          go_roundw
          case rel => exact ⟨k + 1, _, by omega, by go_num, by rw [HS.out], by first | rfl | exact World.drewN_drewN _ _ _⟩
          case measure => simp [intOf]; omega
      · have HS : Hid (scansN z long (k + 1) = scansN z long k) := Lib.hid (by simp only [scansN]; rw [if_neg (fun hh => h hh.1)]; rfl)
        go_wp2
        go_roundw
        case rel => exact ⟨k + 1, _, by omega, by go_num, by rw [HS.out], rfl⟩
        case measure => simp [intOf]; omega
    · have hkk : k = n := by omega
      subst hkk
      clear hc hz
      go_wp2
      go_ret
      exact ⟨rfl, _, rfl⟩

end Go.Proofs.Ytlilnffcnjajdaa
