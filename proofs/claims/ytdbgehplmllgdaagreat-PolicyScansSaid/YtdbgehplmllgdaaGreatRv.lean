/- slices.Reverse over a row of whole numbers. -/
import Derived.Test.YtdbgehplmllgdaaGreatArr
import Derived.BigRegion
namespace Go.Proofs.YtdbgehplmllgdaaGreat
open Go.RowKit
set_option linter.unusedVariables false

/-- A row behind k swaps from both ends. -/
def revF (z : Nat → Int) (n k i : Nat) : Int := if i < n ∧ (i < k ∨ n ≤ i + k) then z (n - 1 - i) else z i

theorem rev_any {w : World} {g L : Nat} {F : Nat → Value} {z : Nat → Int} (h : Arr w g 3 L F) (n cap : Nat) (hF : ∀ i, i < n → F i = .int .i64 (z i)) (hn : n ≤ L) (hn2 : n ≤ 1048576) :
    Calls Tryz.prog 120 #[.slice (some ⟨g, 0, none⟩) n cap] w fun e w' => e = .returned (.tuple #[]) ∧ Arr w' g 3 L (fun i => if i < n then .int .i64 (z (n - 1 - i)) else F i) ∧ Keeps (fun j => j = g) w w' := by
  have H := Lib.hid h
  have HF := Lib.hid hF
  have y1 : (n : Int) ≤ 1048576 := by omega
  clear h hF
  go_enter Tryz.func120, Tryz.ntmps120
  go_wp2
  go_loopw [2, 3] (fun i j wr => ∃ k : Nat, 2 * k ≤ n + 1 ∧ i = .int .i64 (k : Int) ∧ j = .int .i64 ((n : Int) - 1 - (k : Int)) ∧ Arr wr g 3 L (fun i => if i < n then .int .i64 (revF z n k i) else F i) ∧ Keeps (fun j => j = g) w wr) (fun i _ _ => n + 1 - (intOf i).toNat)
  case atStart => exact ⟨0, by omega, rfl, by simp, H.out.congr (fun i _ => by
    by_cases hi : i < n
    · rw [if_pos hi, HF.out i hi, revF, if_neg (by omega)]
    · rw [if_neg hi]), Keeps.refl _ _⟩
  case round =>
    obtain ⟨k, hk, rfl, rfl, ha, hkk⟩ := hrel
    by_cases hc : (k : Int) < (n : Int) - 1 - (k : Int)
    · have hkn : k < n := by omega
      have c1 : wr.cell? ⟨g, k, none⟩ = some (.int .i64 (z k)) := by
        have := ha.cell (i := k) (by omega)
        rw [this, if_pos (by omega), revF, if_neg (by omega)]
      obtain ⟨m, hm⟩ : ∃ m : Nat, n = m + 1 + k := ⟨n - 1 - k, by omega⟩
      have c2 : wr.cell? ⟨g, m, none⟩ = some (.int .i64 (z m)) := by
        have := ha.cell (i := m) (by omega)
        rw [this, if_pos (by omega), revF, if_neg (by omega)]
      have f1 := ha.free k
      have f2 := ha.free m
      have e1 : (n : Int) - 1 - (k : Int) = (m : Int) := by omega
      rw [e1] at hc ⊢
      have x1 : (k : Int) < (n : Int) := by omega
      have x2 : (m : Int) < (n : Int) := by omega
      have x3 : (k : Int) ≤ 1048576 := by omega
      have x4 : (m : Int) ≤ 1048576 := by omega
      have ne1 : k ≠ m := by omega
      have HA := Lib.hid ha
      have HK := Lib.hid hkk
      have HM := Lib.hid hm
      clear ha hkk hm e1
      go_wp2_with fail
      go_region
      all_goals
        go_wp2
        go_roundw
        case rel =>
          have hm := HM.out
          refine ⟨k + 1, by omega, by simp, by simp only [hm]; congr 1; push_cast; omega, ?_, ?_⟩
          · first
              | exact Arr.drewN (((HA.out.set k (.int .i64 (z m))).set m (.int .i64 (z k))).congr (fun i hi => by
                  unfold revF
                  by_cases ei : i = m
                  · subst ei; simp only [if_true]; rw [if_pos (by omega), if_pos (by omega), show n - 1 - i = k by omega]
                  · by_cases ek : i = k
                    · subst ek; simp only [if_true, ei, if_false]; rw [if_pos (by omega), if_pos (by omega), show n - 1 - i = m by omega]
                    · simp only [ei, ek, if_false]
                      by_cases hi' : i < n
                      · rw [if_pos hi', if_pos hi']
                        by_cases hh : i < n ∧ (i < k ∨ n ≤ i + k)
                        · rw [if_pos hh, if_pos (by omega)]
                        · rw [if_neg hh, if_neg (by omega)]
                      · rw [if_neg hi', if_neg hi'])) 1
              | exact Arr.drewN (((HA.out.set m (.int .i64 (z k))).set k (.int .i64 (z m))).congr (fun i hi => by
                  unfold revF
                  by_cases ek : i = k
                  · subst ek; simp only [if_true]; rw [if_pos (by omega), if_pos (by omega), show n - 1 - i = m by omega]
                  · by_cases ei : i = m
                    · subst ei; simp only [if_true, ek, if_false]; rw [if_pos (by omega), if_pos (by omega), show n - 1 - i = k by omega]
                    · simp only [ei, ek, if_false]
                      by_cases hi' : i < n
                      · rw [if_pos hi', if_pos hi']
                        by_cases hh : i < n ∧ (i < k ∨ n ≤ i + k)
                        · rw [if_pos hh, if_pos (by omega)]
                        · rw [if_neg hh, if_neg (by omega)]
                      · rw [if_neg hi', if_neg hi'])) 1
          · first
              | exact ((HK.out.setCell (p := ⟨g, k, none⟩) (.inl rfl) _).setCell (p := ⟨g, m, none⟩) (.inl rfl) _).drew
              | exact ((HK.out.setCell (p := ⟨g, m, none⟩) (.inl rfl) _).setCell (p := ⟨g, k, none⟩) (.inl rfl) _).drew
        case measure => simp only [intOf]; omega
    · have HA := Lib.hid ha
      have HK := Lib.hid hkk
      clear ha hkk
      have hc' : decide ((k : Int) < (n : Int) - 1 - (k : Int)) = false := decide_eq_false hc
      go_wp2
      go_end0
      refine ⟨rfl, HA.out.congr (fun i hi => ?_), HK.out⟩
      unfold revF
      by_cases hi : i < n
      · rw [if_pos hi, if_pos hi]
        by_cases hh : i < k ∨ n ≤ i + k
        · rw [if_pos ⟨hi, hh⟩]
        · rw [if_neg (fun x => hh x.2), show n - 1 - i = i by omega]
      · rw [if_neg hi, if_neg hi]

theorem rev_nil (w : World) :
    Calls Tryz.prog 120 #[.slice none 0 0] w fun e w' => e = .returned (.tuple #[]) ∧ w' = w := by
  go_enter Tryz.func120, Tryz.ntmps120
  go_wp2
  go_loop [2, 3] (fun i j => i = .int .i64 0 ∧ j = .int .i64 (-1)) (fun i _ => 1)
  case atStart => exact ⟨rfl, rfl⟩
  case round =>
    obtain ⟨rfl, rfl⟩ := hrel
    go_wp2
    go_end0
    exact ⟨rfl, rfl⟩

end Go.Proofs.YtdbgehplmllgdaaGreat
