/- Counters of four bits in words: plain laws. -/
import Derived.Test.YtbhcpedokgdipaaMix
import Derived.Laws.BitsAllLaws
namespace Go.Proofs.Ytbhcpedokgdipaa
open Go.RowKit
set_option linter.unusedVariables false

/-- The k-th counter of a word. -/
def nib (x k : Nat) : Nat := x / 2 ^ (4 * k) % 16
theorem nib_lt (x k : Nat) : nib x k < 16 := Nat.mod_lt _ (by omega)

theorem pow_split (a b : Nat) (h : b ≤ a) : 2 ^ (4 * a) = 2 ^ (4 * b) * 2 ^ (4 * (a - b)) := by
  rw [← Nat.pow_add]; congr 1; omega
theorem pow_four (k : Nat) : 2 ^ (4 * (k + 1)) = 2 ^ (4 * k) * 16 := by
  rw [show 4 * (k + 1) = 4 * k + 4 by omega, Nat.pow_add]

theorem nib_add {x j : Nat} (hx : x < 18446744073709551616) (hj : j < 16) (hn : nib x j < 15) :
    x + 2 ^ (4 * j) < 18446744073709551616 ∧ ∀ k, nib (x + 2 ^ (4 * j)) k = if k = j then nib x k + 1 else nib x k := by
  have hp : 0 < 2 ^ (4 * j) := Nat.pow_pos (by omega)
  have hd : (x + 2 ^ (4 * j)) / 2 ^ (4 * j) = x / 2 ^ (4 * j) + 1 := by rw [Nat.add_div_right _ hp]
  unfold nib at hn
  constructor
  · have hq : 2 ^ (4 * j) * 2 ^ (4 * (16 - j)) = 18446744073709551616 := by rw [← pow_split 16 j (by omega)]
    have h16 : 2 ^ (4 * (16 - j)) % 16 = 0 := by
      rw [show 4 * (16 - j) = 4 * (16 - j - 1) + 4 by omega, Nat.pow_add]; omega
    have h1 : x / 2 ^ (4 * j) < 2 ^ (4 * (16 - j)) := by
      rw [Nat.div_lt_iff_lt_mul hp, Nat.mul_comm (2 ^ (4 * (16 - j))) _, hq]; exact hx
    have h2 : x / 2 ^ (4 * j) + 1 < 2 ^ (4 * (16 - j)) := by omega
    have h3 : (x + 2 ^ (4 * j)) / 2 ^ (4 * j) < 2 ^ (4 * (16 - j)) := by rw [hd]; exact h2
    rw [Nat.div_lt_iff_lt_mul hp, Nat.mul_comm (2 ^ (4 * (16 - j))) _, hq] at h3
    exact h3
  · intro k
    unfold nib
    by_cases hkj : k = j
    · subst hkj; rw [if_pos rfl, hd]; omega
    · rw [if_neg hkj]
      rcases Nat.lt_or_ge k j with h | h
      · have hk : 0 < 2 ^ (4 * k) := Nat.pow_pos (by omega)
        rw [pow_split j k (by omega), Nat.add_mul_div_left _ _ hk]
        have h16 : 2 ^ (4 * (j - k)) % 16 = 0 := by
          rw [show 4 * (j - k) = 4 * (j - k - 1) + 4 by omega, Nat.pow_add]; omega
        omega
      · have e : 2 ^ (4 * k) = 2 ^ (4 * j) * 16 * 2 ^ (4 * (k - (j + 1))) := by
          rw [← pow_four, ← pow_split k (j + 1) (by omega)]
        rw [e, ← Nat.div_div_eq_div_mul, ← Nat.div_div_eq_div_mul, hd, ← Nat.div_div_eq_div_mul, ← Nat.div_div_eq_div_mul]
        congr 2
        omega

theorem nib_half {x k : Nat} (hk : k < 16) : nib (x / 2 &&& 8608480567731124087) k = nib x k / 2 := by
  have h1 : ∀ y, nib y k = (y >>> (4 * k)) &&& 15 := fun y => by rw [nib, nat_mask4, Nat.shiftRight_eq_div_pow]
  have hm : (8608480567731124087 >>> (4 * k)) &&& 15 = 7 := by
    have : ∀ k : Fin 16, (8608480567731124087 >>> (4 * k.val)) &&& 15 = 7 := by decide
    exact this ⟨k, hk⟩
  rw [h1, Nat.shiftRight_and_distrib, Nat.and_assoc, hm, nat_mask3, Nat.shiftRight_eq_div_pow, nib]
  rw [Nat.div_div_eq_div_mul, Nat.mul_comm, ← Nat.div_div_eq_div_mul]
  omega

theorem half_lt (x : Nat) : x / 2 &&& 8608480567731124087 < 18446744073709551616 := Nat.lt_of_le_of_lt Nat.and_le_right (by decide)

/-- The i-th counter of a row of words. -/
def cnt (W : Nat → Nat) (i : Nat) : Nat := nib (W (i / 16)) (i % 16)
theorem cnt_lt (W : Nat → Nat) (i : Nat) : cnt W i < 16 := nib_lt _ _

theorem cnt_more {W : Nat → Nat} {i : Nat} (hx : W (i / 16) < 18446744073709551616) (hn : cnt W i < 15) :
    W (i / 16) + 2 ^ (4 * (i % 16)) < 18446744073709551616 ∧
    ∀ k, cnt (fun q => if q = i / 16 then W (i / 16) + 2 ^ (4 * (i % 16)) else W q) k = if k = i then cnt W k + 1 else cnt W k := by
  obtain ⟨h1, h2⟩ := nib_add hx (Nat.mod_lt i (by omega)) hn
  refine ⟨h1, fun k => ?_⟩
  unfold cnt
  simp only
  by_cases hq : k / 16 = i / 16
  · rw [if_pos hq, h2]
    by_cases hm : k % 16 = i % 16
    · rw [if_pos hm, if_pos (by omega), hq]
    · rw [if_neg hm, if_neg (by rintro rfl; exact hm rfl), hq]
  · rw [if_neg hq, if_neg (by rintro rfl; exact hq rfl)]

theorem cnt_half (W : Nat → Nat) (i : Nat) : cnt (fun q => W q / 2 &&& 8608480567731124087) i = cnt W i / 2 := nib_half (Nat.mod_lt i (by omega))
theorem cnt_zero (i : Nat) : cnt (fun _ => 0) i = 0 := by simp [cnt, nib]

/-- What 'get' reckons. -/
theorem get_word (x k : Nat) (hx : x < 18446744073709551616) : wrap64 (bits BinOp.and IntKind.u64 ((x : Int) / ((2 ^ (4 * k) : Nat) : Int)) 15) = (nib x k : Int) := by
  have h : (x : Int) / ((2 ^ (4 * k) : Nat) : Int) = ((x / 2 ^ (4 * k) : Nat) : Int) := by norm_cast
  rw [h, show (15 : Int) = ((15 : Nat) : Int) from rfl, u64_and_nat _ _ (Nat.lt_of_le_of_lt (Nat.div_le_self _ _) hx) (by omega), nat_mask4]
  have := nib_lt x k
  unfold nib at this ⊢
  simp only [wrap64]
  omega

end Go.Proofs.Ytbhcpedokgdipaa
