/- slices.Equal of rows of 64 octets. -/
import Derived.Test.YtlfeglnacphhlaaTn
namespace Go.Proofs.Ytlfeglnacphhlaa
open Go.RowKit Go.Maps
set_option linter.unusedVariables false

theorem RdB.parts {w : World} {v : Value} {c : ByteArray} (h : RdB w v c) (hc : c.size = 64) : ∃ g o cp, v = .slice (some ⟨g, o, none⟩) 64 cp ∧ ∀ j, j < 64 → w.cell? ⟨g, o + j, none⟩ = some (.int .u8 (octN c j : Int)) := by
  rcases h with ⟨_, h⟩ | ⟨g, o, cp, hv, hb⟩
  · omega
  · rw [hc] at hv
    refine ⟨g, o, cp, hv, fun j hj => ?_⟩
    have h1 := hb j (by omega)
    have e := octF_at c j (by omega)
    unfold octF at e
    rw [h1]
    show some (Value.int .u8 (c[j].toNat : Int)) = _
    rw [← e]; rfl

theorem oct_ext {a b : ByteArray} (ha : a.size = 64) (hb : b.size = 64) (h : ∀ j, j < 64 → octN a j = octN b j) : a = b := by
  apply ByteArray.ext
  apply Array.ext
  · show a.size = b.size; omega
  · intro j h1 h2
    have h3 : j < 64 := by have : a.data.size = a.size := rfl; omega
    have := h j h3
    unfold octN at this
    rw [List.getD_eq_getElem?_getD, List.getD_eq_getElem?_getD, List.getElem?_eq_getElem (by simpa using h1), List.getElem?_eq_getElem (by simpa using h2)] at this
    simpa [UInt8.toNat_inj] using this

set_option maxRecDepth 100000 in
set_option maxHeartbeats 2000000 in
theorem eq_oct {w : World} {u v : Value} {a b : ByteArray} (hu : RdB w u a) (hv : RdB w v b) (ha : a.size = 64) (hb : b.size = 64) :
    Calls Try.prog 51 #[u, v] w fun e w' => e = .returned (.bool (decide (a = b))) ∧ ∃ n, w' = w.drewN n := by
  obtain ⟨g, o, cp, rfl, hc⟩ := hu.parts ha
  obtain ⟨g2, o2, cp2, rfl, hc2⟩ := hv.parts hb
  have C1 := Lib.hid hc
  have C2 := Lib.hid hc2
  have EX := Lib.hid (oct_ext ha hb)
  clear hu hv ha hb hc hc2
  go_enter Try.func51, Try.ntmps51
  go_wp2_with fail
  go_loopw [13, 5] (fun i _ wr => ∃ k : Nat, k ≤ 64 ∧ i = .int .i64 (k : Int) ∧ (∀ j, j < k → octN a j = octN b j) ∧ ∃ m, wr = w.drewN m) (fun i _ _ => 64 - (intOf i).toNat)
  case atStart => exact ⟨0, by omega, rfl, fun j hj => absurd hj (Nat.not_lt_zero j), 0, rfl⟩
  case round =>
    obtain ⟨k, hk, rfl, he, m, rfl⟩ := hrel
    by_cases h1 : (k : Int) < 64
    · have c1 := C1.out k (by omega)
      have c2 := C2.out k (by omega)
      have HE := Lib.hid he
      have HK := Lib.hid (show k + 1 ≤ 64 by omega)
      obtain ⟨x, hx⟩ : ∃ x, x = octN a k := ⟨_, rfl⟩
      obtain ⟨y, hy⟩ : ∃ y, y = octN b k := ⟨_, rfl⟩
      rw [← hx] at c1
      rw [← hy] at c2
      have kb : (k : Int) ≤ 64 := by omega
      by_cases exy : x = y
      · subst exy
        have HN := Lib.hid (show ∀ j, j < k + 1 → octN a j = octN b j from fun j hj => by
          by_cases e : j = k
          · rw [e, ← hx, ← hy]
          · exact he j (by omega))
        clear hk he hx hy
        go_wp2_with fail
        go_region
        all_goals
          go_wp2
          go_roundw
          case rel => exact ⟨k + 1, HK.out, by simp, HN.out, m + 1, rfl⟩
          case measure => have := HK.out; simp only [intOf]; omega
      · have e0 : ((x : Int) == (y : Int)) = false := by simp; omega
        have e1 : ¬ (x : Int) = (y : Int) := by omega
        have DN := Lib.hid (show decide (a = b) = false from decide_eq_false (fun e => exy (by rw [hx, hy, e])))
        clear hk he hx hy exy
        go_wp2_with fail
        go_region
        all_goals
          go_wp2
          go_ret
          exact ⟨by rw [DN.out]; rfl, m + 1, rfl⟩
    · obtain rfl : k = 64 := by omega
      have DN := Lib.hid (show decide (a = b) = true from decide_eq_true (EX.out he))
      clear hk he
      go_wp2
      go_ret
      exact ⟨by rw [DN.out]; rfl, m, rfl⟩

end Go.Proofs.Ytlfeglnacphhlaa
