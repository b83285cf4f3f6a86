/- Rounding to doubles is monotone; small whole numbers are exact; what a share of a number is. No condition beyond those stated. -/
import Derived.Test.YtbhcpedokgdipaaFlA
namespace Go.Proofs.Ytbhcpedokgdipaa.Fl
open Ieee

def R (n d : Nat) : Nat := Toward.even.cut false n d

/-- A power of two that nobody reckons out. -/
def P2 (k : Nat) : Nat := 2 ^ k
theorem P2_pos (k : Nat) : 0 < P2 k := Nat.two_pow_pos k
theorem P2_add (a b : Nat) : 2 ^ a * 2 ^ b = P2 (a + b) := (Nat.pow_add 2 a b).symm
theorem P2_at {a b c : Nat} (h : a + b = c) : 2 ^ a * 2 ^ b = P2 c := by rw [P2_add, h]
theorem P2_mul {a b c : Nat} (h : a + b = c) : P2 a * P2 b = P2 c := P2_at h
theorem P2_is (a : Nat) : 2 ^ a = P2 a := rfl
attribute [irreducible] P2

theorem log2_lt (n : Nat) : n < 2 ^ (n.log2 + 1) := Nat.lt_log2_self
theorem log2_le {n : Nat} (h : n ≠ 0) : 2 ^ n.log2 ≤ n := Nat.log2_self_le h

theorem R_spec (n d : Nat) : R n d = n / 2 ^ d + (if 2 ^ d < 2 * (n % 2 ^ d) ∨ (2 ^ d = 2 * (n % 2 ^ d) ∧ (n / 2 ^ d) % 2 = 1) then 1 else 0) := by
  unfold R Toward.cut
  simp only [Nat.shiftLeft_eq, Nat.one_mul]
  by_cases h : d ≤ n.log2 + 2
  · rw [Nat.min_eq_left h]
    generalize 2 ^ d = g
    congr 1
    by_cases hc : g < 2 * (n % g) ∨ (g = 2 * (n % g) ∧ (n / g) % 2 = 1)
    · rw [if_pos hc]
      have : (decide (g < 2 * (n % g)) || (g == 2 * (n % g) && n / g % 2 == 1)) = true := by simpa using hc
      rw [this]; rfl
    · rw [if_neg hc]
      have : (decide (g < 2 * (n % g)) || (g == 2 * (n % g) && n / g % 2 == 1)) = false := by
        rw [Bool.eq_false_iff]; intro hh; exact hc (by simpa using hh)
      rw [this]; rfl
  · rw [Nat.min_eq_right (by omega)]
    have h1 := log2_lt n
    have h2 : 2 ^ (n.log2 + 2) = 2 * 2 ^ (n.log2 + 1) := by rw [show n.log2 + 2 = (n.log2 + 1) + 1 from rfl, Nat.pow_succ]; omega
    have h3 : 2 ^ (n.log2 + 2) ≤ 2 ^ d := Nat.pow_le_pow_right (by omega) (by omega)
    have q1 : n / 2 ^ (n.log2 + 2) = 0 := Nat.div_eq_of_lt (by omega)
    have q2 : n % 2 ^ (n.log2 + 2) = n := Nat.mod_eq_of_lt (by omega)
    have q3 : n / 2 ^ d = 0 := Nat.div_eq_of_lt (by omega)
    have q4 : n % 2 ^ d = n := Nat.mod_eq_of_lt (by omega)
    rw [q1, q2, q3, q4]
    rw [if_neg (by omega)]
    have : (decide (2 ^ (n.log2 + 2) < 2 * n) || (2 ^ (n.log2 + 2) == 2 * n && 0 % 2 == 1)) = false := by simp; omega
    rw [this]; rfl

theorem R_mono {n m : Nat} (h : n ≤ m) (d : Nat) : R n d ≤ R m d := by
  rw [R_spec, R_spec]
  have hg : 0 < 2 ^ d := Nat.two_pow_pos d
  generalize 2 ^ d = g at *
  have hq : n / g ≤ m / g := Nat.div_le_div_right h
  have e1 := Nat.div_add_mod n g
  have e2 := Nat.div_add_mod m g
  by_cases he : n / g = m / g
  · rw [he] at e1 ⊢
    have : n % g ≤ m % g := by omega
    split <;> split <;> omega
  · split <;> split <;> omega

theorem R_le (n d : Nat) : n / 2 ^ d ≤ R n d ∧ R n d ≤ n / 2 ^ d + 1 := by
  rw [R_spec]; split <;> omega

theorem R_zero (n : Nat) : R n 0 = n := by
  rw [R_spec]; simp [Nat.mod_one]

theorem R_scale (n d c : Nat) : R (n * 2 ^ c) (d + c) = R n d := by
  rw [R_spec, R_spec, Nat.pow_add]
  have hc : 0 < 2 ^ c := Nat.two_pow_pos c
  generalize 2 ^ c = k at *
  generalize 2 ^ d = g
  rw [Nat.mul_div_mul_right _ _ hc, Nat.mul_mod_mul_right]
  have a1 : (g * k < 2 * (n % g * k)) ↔ (g < 2 * (n % g)) := by
    rw [← Nat.mul_assoc]; exact Nat.mul_lt_mul_right hc
  have a2 : (g * k = 2 * (n % g * k)) ↔ (g = 2 * (n % g)) := by
    rw [← Nat.mul_assoc]; exact Nat.mul_left_inj (by omega)
  simp only [a1, a2]

/-- The rung of the nearest double. -/
def near (m : Nat) (p : Int) : Nat :=
  if m = 0 then 0 else
  min (((max (p + m.log2 - 52) (-1074)) + 1074).toNat * 4503599627370496 + R (m <<< (p - (max (p + m.log2 - 52) (-1074))).toNat) ((max (p + m.log2 - 52) (-1074)) - p).toNat) 9218868437227405312

theorem least_eq : double.leastPlace = -1074 := by decide
theorem frac_eq : double.fractionBits = 52 := rfl

theorem word_false (r : Nat) : double.word false r = r := by unfold Format.word; simp

theorem nearest_near (m : Nat) (p : Int) : double.nearest false m p = near m p := by
  unfold Format.nearest near
  by_cases h : m = 0
  · rw [if_pos h, if_pos h, word_false]
  · rw [if_neg h, if_neg h]
    simp only [least_eq, frac_eq, dbl_binade, dbl_inf, word_false, Int.sub_neg]
    unfold R
    rfl

theorem near_le (m : Nat) (p : Int) : near m p ≤ 9218868437227405312 := by
  unfold near; split
  · omega
  · exact Nat.min_le_right _ _

theorem log2_mul (m c : Nat) (h : m ≠ 0) : (m * 2 ^ c).log2 = m.log2 + c := by
  have hc : 0 < 2 ^ c := Nat.two_pow_pos c
  have h1 := log2_le h
  have h2 := log2_lt m
  have hne : m * 2 ^ c ≠ 0 := by
    intro hh; rcases Nat.mul_eq_zero.1 hh with h3 | h3 <;> omega
  rw [Nat.log2_eq_iff hne]
  constructor
  · rw [Nat.pow_add]; exact Nat.mul_le_mul_right _ h1
  · rw [show m.log2 + c + 1 = (m.log2 + 1) + c from by omega, Nat.pow_add]; exact Nat.mul_lt_mul_of_pos_right h2 hc

/-- It hangs on the value alone. -/
theorem near_scale (m c : Nat) (p : Int) : near (m * 2 ^ c) p = near m (p + c) := by
  unfold near
  by_cases h : m = 0
  · subst h; simp
  · have hne : m * 2 ^ c ≠ 0 := by
      intro hh; rcases Nat.mul_eq_zero.1 hh with h3 | h3
      · exact h h3
      · have := Nat.two_pow_pos c; omega
    rw [if_neg h, if_neg hne, log2_mul m c h]
    have el : max (p + ((m.log2 + c : Nat) : Int) - 52) (-1074) = max (p + c + (m.log2 : Int) - 52) (-1074) := by omega
    rw [el]
    generalize max (p + c + (m.log2 : Int) - 52) (-1074) = last
    have key : R ((m * 2 ^ c) <<< (p - last).toNat) (last - p).toNat = R (m <<< (p + c - last).toNat) (last - (p + c)).toNat := by
      simp only [Nat.shiftLeft_eq]
      by_cases h1 : p + c ≤ last
      · rw [show (p - last).toNat = 0 from by omega, show (p + c - last).toNat = 0 from by omega, show (last - p).toNat = (last - (p + c)).toNat + c from by omega]
        rw [Nat.pow_zero, Nat.mul_one, Nat.mul_one, R_scale]
      · by_cases h2 : p ≤ last
        · rw [show (p - last).toNat = 0 from by omega, show (last - (p + c)).toNat = 0 from by omega, R_zero, Nat.pow_zero, Nat.mul_one]
          have e : c = (p + c - last).toNat + (last - p).toNat := by omega
          conv => lhs; rw [e]
          have := R_scale (m * 2 ^ (p + c - last).toNat) 0 (last - p).toNat
          rw [Nat.zero_add, R_zero, Nat.mul_assoc, ← Nat.pow_add] at this
          exact this
        · rw [show (last - p).toNat = 0 from by omega, show (last - (p + c)).toNat = 0 from by omega, R_zero, R_zero, Nat.mul_assoc, ← Nat.pow_add]
          congr 2
          omega
    simp only [key]


theorem log2_mono {m n : Nat} (h0 : m ≠ 0) (h : m ≤ n) : m.log2 ≤ n.log2 := by
  have h1 := log2_le h0
  have h2 := log2_lt n
  rcases Nat.lt_or_ge n.log2 m.log2 with h3 | h3
  · have : 2 ^ (n.log2 + 1) ≤ 2 ^ m.log2 := Nat.pow_le_pow_right (by omega) h3
    omega
  · exact h3

theorem R_big {n d : Nat} {B : Nat} (h : B * 2 ^ d ≤ n) : B ≤ R n d := by
  have := (R_le n d).1
  have h2 : B ≤ n / 2 ^ d := (Nat.le_div_iff_mul_le (Nat.two_pow_pos d)).2 h
  omega

theorem R_small {n d : Nat} {B : Nat} (h : n < B * 2 ^ d) : R n d ≤ B := by
  have := (R_le n d).2
  have h2 : n / 2 ^ d < B := (Nat.div_lt_iff_lt_mul (Nat.two_pow_pos d)).2 h
  omega

/-- Rounding is monotone, at one place. -/
theorem near_mono {m n : Nat} (h : m ≤ n) (p : Int) : near m p ≤ near n p := by
  unfold near
  by_cases h0 : m = 0
  · rw [if_pos h0]; omega
  have hn0 : n ≠ 0 := by omega
  rw [if_neg h0, if_neg hn0]
  have hl := log2_mono h0 h
  refine Nat.le_min.2 ⟨?_, Nat.min_le_right _ _⟩
  refine Nat.le_trans (Nat.min_le_left _ _) ?_
  generalize e1 : max (p + (m.log2 : Int) - 52) (-1074) = a
  generalize e2 : max (p + (n.log2 : Int) - 52) (-1074) = b
  by_cases hab : a = b
  · rw [hab]
    have := R_mono (show m <<< (p - b).toNat ≤ n <<< (p - b).toNat from by rw [Nat.shiftLeft_eq, Nat.shiftLeft_eq]; exact Nat.mul_le_mul_right _ h) (b - p).toNat
    omega
  · have hlt : a < b := by omega
    have hb : b = p + (n.log2 : Int) - 52 := by omega
    have ha : p + (m.log2 : Int) - 52 ≤ a := by omega
    have ham : -1074 ≤ a := by omega
    have n1 := log2_le hn0
    have m2 := log2_lt m
    have kb : 4503599627370496 ≤ R (n <<< (p - b).toNat) (b - p).toNat := by
      apply R_big
      rw [Nat.shiftLeft_eq]
      by_cases hc : n.log2 ≤ 52
      · rw [show (b - p).toNat = 0 from by omega, show (p - b).toNat = 52 - n.log2 from by omega, Nat.pow_zero, Nat.mul_one]
        have : (4503599627370496 : Nat) = 2 ^ n.log2 * 2 ^ (52 - n.log2) := by rw [← Nat.pow_add, show n.log2 + (52 - n.log2) = 52 from by omega]
        rw [this]; exact Nat.mul_le_mul_right _ n1
      · rw [show (p - b).toNat = 0 from by omega, Nat.pow_zero, Nat.mul_one]
        have : (4503599627370496 : Nat) * 2 ^ (b - p).toNat = 2 ^ n.log2 := by
          rw [show (4503599627370496 : Nat) = 2 ^ 52 from rfl, ← Nat.pow_add, show 52 + (b - p).toNat = n.log2 from by omega]
        omega
    have ka : R (m <<< (p - a).toNat) (a - p).toNat ≤ 9007199254740992 := by
      apply R_small
      rw [Nat.shiftLeft_eq]
      by_cases hc : a ≤ p
      · rw [show (a - p).toNat = 0 from by omega, Nat.pow_zero, Nat.mul_one]
        have h3 : m * 2 ^ (p - a).toNat < 2 ^ (m.log2 + 1) * 2 ^ (p - a).toNat := Nat.mul_lt_mul_of_pos_right m2 (Nat.two_pow_pos _)
        have h4 : 2 ^ (m.log2 + 1) * 2 ^ (p - a).toNat ≤ 2 ^ 53 := by rw [← Nat.pow_add]; exact Nat.pow_le_pow_right (by omega) (by omega)
        have h5 : (2 : Nat) ^ 53 = 9007199254740992 := rfl
        omega
      · rw [show (p - a).toNat = 0 from by omega, Nat.pow_zero, Nat.mul_one]
        have h4 : 2 ^ (m.log2 + 1) ≤ 2 ^ 53 * 2 ^ (a - p).toNat := by rw [← Nat.pow_add]; exact Nat.pow_le_pow_right (by omega) (by omega)
        have h5 : (2 : Nat) ^ 53 = 9007199254740992 := rfl
        omega
    have hs : (a + 1074).toNat + 1 ≤ (b + 1074).toNat := by omega
    omega

/-- A whole number of at most 53 digits is exact. -/
theorem near_exact {n : Nat} (h0 : n ≠ 0) (h : n < 9007199254740992) : mag (near n 0) = n * P2 1074 ∧ near n 0 < 9218868437227405312 := by
  have l1 := log2_le h0
  have l2 := log2_lt n
  have hl : n.log2 ≤ 52 := by
    rcases Nat.lt_or_ge 52 n.log2 with h3 | h3
    · have : 2 ^ 53 ≤ 2 ^ n.log2 := Nat.pow_le_pow_right (by omega) h3
      have h5 : (2 : Nat) ^ 53 = 9007199254740992 := rfl
      omega
    · exact h3
  have e : near n 0 = (n.log2 + 1022) * 4503599627370496 + n * 2 ^ (52 - n.log2) := by
    unfold near
    rw [if_neg h0, show max (0 + (n.log2 : Int) - 52) (-1074) = (n.log2 : Int) - 52 from by omega]
    rw [show (0 - ((n.log2 : Int) - 52)).toNat = 52 - n.log2 from by omega, show ((n.log2 : Int) - 52 - 0).toNat = 0 from by omega, R_zero, Nat.shiftLeft_eq, show ((n.log2 : Int) - 52 + 1074).toNat = n.log2 + 1022 from by omega]
    apply Nat.min_eq_left
    have h3 : n * 2 ^ (52 - n.log2) < 2 ^ (n.log2 + 1) * 2 ^ (52 - n.log2) := Nat.mul_lt_mul_of_pos_right l2 (Nat.two_pow_pos _)
    have h4 : 2 ^ (n.log2 + 1) * 2 ^ (52 - n.log2) = 2 ^ 53 := by rw [← Nat.pow_add, show n.log2 + 1 + (52 - n.log2) = 53 from by omega]
    have h5 : (2 : Nat) ^ 53 = 9007199254740992 := rfl
    omega
  have h3 : n * 2 ^ (52 - n.log2) < 9007199254740992 := by
    have h3 : n * 2 ^ (52 - n.log2) < 2 ^ (n.log2 + 1) * 2 ^ (52 - n.log2) := Nat.mul_lt_mul_of_pos_right l2 (Nat.two_pow_pos _)
    have h4 : 2 ^ (n.log2 + 1) * 2 ^ (52 - n.log2) = 2 ^ 53 := by rw [← Nat.pow_add, show n.log2 + 1 + (52 - n.log2) = 53 from by omega]
    have h5 : (2 : Nat) ^ 53 = 9007199254740992 := rfl
    omega
  have h6 : 4503599627370496 ≤ n * 2 ^ (52 - n.log2) := by
    have h7 : 2 ^ n.log2 * 2 ^ (52 - n.log2) ≤ n * 2 ^ (52 - n.log2) := Nat.mul_le_mul_right _ l1
    rw [← Nat.pow_add, show n.log2 + (52 - n.log2) = 52 from by omega] at h7
    exact h7
  refine ⟨?_, by omega⟩
  rw [e]
  have hq : (n.log2 + 1022) * 4503599627370496 + n * 2 ^ (52 - n.log2) = (n.log2 + 1023) * 4503599627370496 + (n * 2 ^ (52 - n.log2) - 4503599627370496) := by omega
  unfold mag
  rw [if_neg (by omega), hq]
  have g1 : ((n.log2 + 1023) * 4503599627370496 + (n * 2 ^ (52 - n.log2) - 4503599627370496)) % 4503599627370496 = n * 2 ^ (52 - n.log2) - 4503599627370496 := by omega
  have g2 : ((n.log2 + 1023) * 4503599627370496 + (n * 2 ^ (52 - n.log2) - 4503599627370496)) / 4503599627370496 - 1 = n.log2 + 1022 := by omega
  rw [g1, g2]
  have g3 : 4503599627370496 + (n * 2 ^ (52 - n.log2) - 4503599627370496) = n * 2 ^ (52 - n.log2) := Nat.add_sub_cancel' h6
  refine (congrArg (fun y => y * 2 ^ (n.log2 + 1022)) g3).trans ?_
  have g4 : 2 ^ (52 - n.log2) * 2 ^ (n.log2 + 1022) = P2 1074 := P2_at (by omega)
  calc n * 2 ^ (52 - n.log2) * 2 ^ (n.log2 + 1022) = n * (2 ^ (52 - n.log2) * 2 ^ (n.log2 + 1022)) := Nat.mul_assoc _ _ _
    _ = n * P2 1074 := by rw [g4]

/-- The whole part of a word that is not below 0. -/
theorem zero_cut (s : Bool) (n d : Nat) : Toward.zero.cut s n d = n / 2 ^ d := by
  unfold Toward.cut
  simp only [Nat.shiftLeft_eq, Nat.one_mul, Bool.toNat_false, Nat.add_zero]
  by_cases h : d ≤ n.log2 + 2
  · rw [Nat.min_eq_left h]
  · rw [Nat.min_eq_right (by omega)]
    have h1 := log2_lt n
    have h2 : 2 ^ (n.log2 + 2) = 2 * 2 ^ (n.log2 + 1) := by rw [show n.log2 + 2 = (n.log2 + 1) + 1 from rfl, Nat.pow_succ]; omega
    have h3 : 2 ^ (n.log2 + 2) ≤ 2 ^ d := Nat.pow_le_pow_right (by omega) (by omega)
    rw [Nat.div_eq_of_lt (by omega), Nat.div_eq_of_lt (by omega)]

theorem down_cut (n d : Nat) : Toward.down.cut false n d = n / 2 ^ d := by
  rw [← zero_cut false n d]
  unfold Toward.cut
  simp

theorem whole (r : Nat) : (dig r <<< (double.leastPlace + (up r : Nat)).toNat) / 2 ^ (-(double.leastPlace + (up r : Nat))).toNat = mag r / P2 1074 := by
  rw [mag_eq, least_eq, Nat.shiftLeft_eq]
  by_cases h : 1074 ≤ up r
  · rw [show (-(-1074 + (up r : Int))).toNat = 0 from by omega, Nat.pow_zero, Nat.div_one, show (-1074 + (up r : Int)).toNat = up r - 1074 from by omega]
    have e : dig r * 2 ^ up r = dig r * 2 ^ (up r - 1074) * P2 1074 := by
      rw [Nat.mul_assoc, P2_is (up r), P2_is (up r - 1074), P2_mul (c := up r) (by omega)]
    rw [e, Nat.mul_div_cancel _ (P2_pos 1074)]
  · rw [show (-1074 + (up r : Int)).toNat = 0 from by omega, Nat.pow_zero, Nat.mul_one, show (-(-1074 + (up r : Int))).toNat = 1074 - up r from by omega]
    have e : P2 1074 = 2 ^ (1074 - up r) * 2 ^ up r := (P2_at (by omega)).symm
    rw [e, Nat.mul_div_mul_right _ _ (Nat.two_pow_pos _)]

theorem rung_of_lt {x : Nat} (h : x < 9223372036854775808) : rung x = x := Nat.mod_eq_of_lt h
theorem neg_of_lt {x : Nat} (h : x < 9223372036854775808) : neg x = false := by unfold neg; simp; omega

/-- int(x) of a word from 0 on, below infinity. -/
theorem toInt_word {x : Nat} (h : x < 9218868437227405312) (hb : mag x / P2 1074 ≤ 9223372036854775807) : floatToIntVal .f64 x .i64 = some ((mag x / P2 1074 : Nat) : Int) := by
  unfold floatToIntVal
  change (match ((double.read x).toInt .zero) with | some n => _ | none => _) = _
  rw [read_num (by omega) (by rw [rung_of_lt (by omega)]; exact h), neg_of_lt (by omega), rung_of_lt (by omega)]
  simp only [Datum.toInt, Datum.integral, zero_cut, whole, signed, Nat.shiftLeft_zero, Bool.false_eq_true, if_false]
  generalize mag x / P2 1074 = k at *
  rw [if_pos]
  simp [IntKind.min, IntKind.max, IntKind.signed, IntKind.bits]
  omega

/-- Floor, of the same: the double of the whole part. -/
theorem floor_word {x : Nat} (h : x < 9218868437227405312) : FloatKind.f64.encode ((FloatKind.f64.decode x).integral .down) = near (mag x / P2 1074) 0 := by
  change double.write ((double.read x).integral .down) = _
  rw [read_num (by omega) (by rw [rung_of_lt (by omega)]; exact h), neg_of_lt (by omega), rung_of_lt (by omega)]
  simp only [Datum.integral, down_cut, whole, Format.write]
  exact nearest_near _ _

theorem ofInt_near (n : Nat) : floatOfInt .f64 (n : Int) = near n 0 := by
  unfold floatOfInt FloatKind.nearest
  change double.write (.number (decide ((n : Int) < 0)) (n : Int).natAbs 0) = _
  simp only [Format.write, Int.natAbs_natCast]
  have : decide ((n : Int) < 0) = false := by simp
  rw [this, nearest_near]

/-- A product of two words from 0 on, below infinity. -/
theorem mul_near {x q : Nat} (hx : x < 9218868437227405312) (hq : q < 9218868437227405312) : floatBits .mul .f64 x q = some (near (mag x * mag q) (-2148)) := by
  change double.mul x q = _
  unfold Format.mul
  rw [read_num (by omega) (by rw [rung_of_lt (by omega)]; exact hx), read_num (by omega) (by rw [rung_of_lt (by omega)]; exact hq), neg_of_lt (by omega), neg_of_lt (by omega), rung_of_lt (by omega), rung_of_lt (by omega)]
  simp only [Datum.product, Option.map_some, Format.write, Bool.xor_false, least_eq]
  rw [nearest_near, mag_eq x, mag_eq q]
  have := near_scale (dig x * dig q) (up x + up q) (-2148)
  rw [show dig x * 2 ^ up x * (dig q * 2 ^ up q) = dig x * dig q * 2 ^ (up x + up q) from by rw [Nat.pow_add]; simp only [Nat.mul_assoc, Nat.mul_left_comm], this]
  congr 2
  omega


theorem near_scaleP (m c : Nat) (p : Int) : near (m * P2 c) p = near m (p + c) := by rw [← P2_is]; exact near_scale m c p
theorem near_zero (p : Int) : near 0 p = 0 := rfl
theorem one_mag : mag 4607182418800017408 = P2 1074 := by
  have h := (near_exact (n := 1) (by omega) (by omega)).1
  have e : near 1 0 = 4607182418800017408 := by decide +kernel
  rw [e] at h
  simpa using h

/-- A share of n: the whole part of the product, rounded once. -/
def shareN (n q : Nat) : Nat := mag (near (mag (near n 0) * mag q) (-2148)) / P2 1074

theorem mag_le {r s : Nat} (h : r ≤ s) : mag r ≤ mag s := by
  rcases Nat.lt_or_eq_of_le h with h | h
  · exact Nat.le_of_lt (mag_lt h)
  · rw [h]; exact Nat.le_refl _

theorem shareN_mono (n : Nat) {q r : Nat} (h : q ≤ r) : shareN n q ≤ shareN n r :=
  Nat.div_le_div_right (mag_le (near_mono (Nat.mul_le_mul_left _ (mag_le h)) _))

theorem near_one {n : Nat} (h : n < 9007199254740992) : near (mag (near n 0) * mag 4607182418800017408) (-2148) = near n 0 := by
  by_cases h0 : n = 0
  · subst h0; rw [near_zero, mag_zero, Nat.zero_mul, near_zero]
  · rw [(near_exact h0 h).1, one_mag, Nat.mul_assoc, P2_mul (c := 2148) (by omega), near_scaleP]
    congr 1

theorem near_lt {n : Nat} (h : n < 9007199254740992) : near n 0 < 9218868437227405312 := by
  by_cases h0 : n = 0
  · subst h0; rw [near_zero]; omega
  · exact (near_exact h0 h).2

theorem mag_near {n : Nat} (h : n < 9007199254740992) : mag (near n 0) / P2 1074 = n := by
  by_cases h0 : n = 0
  · subst h0; rw [near_zero, mag_zero]; exact Nat.zero_div _
  · rw [(near_exact h0 h).1, Nat.mul_div_cancel _ (P2_pos 1074)]

theorem shareN_le {n q : Nat} (h : n < 9007199254740992) (hq : q ≤ 4607182418800017408) : shareN n q ≤ n := by
  refine Nat.le_trans (shareN_mono n hq) ?_
  unfold shareN
  rw [near_one h, mag_near h]
  exact Nat.le_refl _

theorem prod_lt {n q : Nat} (h : n < 9007199254740992) (hq : q ≤ 4607182418800017408) : near (mag (near n 0) * mag q) (-2148) < 9218868437227405312 := by
  refine Nat.lt_of_le_of_lt (near_mono (Nat.mul_le_mul_left _ (mag_le hq)) _) ?_
  rw [near_one h]
  exact near_lt h

end Go.Proofs.Ytbhcpedokgdipaa.Fl
