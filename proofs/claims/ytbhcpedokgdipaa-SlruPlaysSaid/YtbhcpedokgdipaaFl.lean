/- Doubles as words: which are NaN, how they stand in order (their keys, their ranks). No condition but that a word has 64 bits. -/
import Derived.Test.YtbhcpedokgdipaaHp
namespace Go.Proofs.Ytbhcpedokgdipaa.Fl
open Ieee

def isN (x : Nat) : Bool := decide (9218868437227405312 < x % 9223372036854775808)
def neg (x : Nat) : Bool := decide (9223372036854775808 ≤ x)
def rung (x : Nat) : Nat := x % 9223372036854775808
/-- The word as a signed rung. -/
def key (x : Nat) : Int := if neg x then -(rung x : Int) else rung x
def rank (x : Nat) : Nat := if isN x then 18446744073709551615 else if neg x then 18446744073709551615 - x else x + 9223372036854775808

theorem dbl_sw : double.signWeight = 9223372036854775808 := by decide
theorem dbl_binade : double.binade = 4503599627370496 := by decide
theorem dbl_inf : double.infRung = 9218868437227405312 := by decide

/-- The magnitude of a rung in units of the least place. -/
def mag (r : Nat) : Nat := if r < 4503599627370496 then r else (4503599627370496 + r % 4503599627370496) * 2 ^ (r / 4503599627370496 - 1)

theorem mag_lt {r s : Nat} (h : r < s) : mag r < mag s := by
  unfold mag
  by_cases hs : s < 4503599627370496
  · rw [if_pos hs, if_pos (by omega)]; exact h
  · rw [if_neg hs]
    have hs1 : 1 ≤ s / 4503599627370496 := by omega
    have p1 : 1 ≤ 2 ^ (s / 4503599627370496 - 1) := Nat.one_le_two_pow
    have q1 : 4503599627370496 + s % 4503599627370496 ≤ (4503599627370496 + s % 4503599627370496) * 2 ^ (s / 4503599627370496 - 1) := Nat.le_mul_of_pos_right _ p1
    by_cases hr : r < 4503599627370496
    · rw [if_pos hr]; omega
    · rw [if_neg hr]
      by_cases he : r / 4503599627370496 = s / 4503599627370496
      · rw [he]
        exact Nat.mul_lt_mul_of_pos_right (by omega) p1
      · have hlt : r / 4503599627370496 < s / 4503599627370496 := by omega
        have e1 : 2 ^ (s / 4503599627370496 - 1) = 2 ^ (r / 4503599627370496 - 1) * 2 ^ (s / 4503599627370496 - r / 4503599627370496) := by
          rw [← Nat.pow_add]; congr 1; omega
        have e2 : 2 ≤ 2 ^ (s / 4503599627370496 - r / 4503599627370496) := by
          have : 2 ^ 1 ≤ 2 ^ (s / 4503599627370496 - r / 4503599627370496) := Nat.pow_le_pow_right (by omega) (by omega)
          simpa using this
        have e0 : 0 < 2 ^ (r / 4503599627370496 - 1) := Nat.two_pow_pos _
        rw [e1]
        generalize 2 ^ (r / 4503599627370496 - 1) = A at *
        generalize 2 ^ (s / 4503599627370496 - r / 4503599627370496) = D at *
        have t : r % 4503599627370496 < 4503599627370496 := Nat.mod_lt _ (by omega)
        calc (4503599627370496 + r % 4503599627370496) * A < 9007199254740992 * A := Nat.mul_lt_mul_of_pos_right (by omega) e0
          _ = 4503599627370496 * (A * 2) := by omega
          _ ≤ 4503599627370496 * (A * D) := Nat.mul_le_mul_left _ (Nat.mul_le_mul_left _ e2)
          _ ≤ (4503599627370496 + s % 4503599627370496) * (A * D) := Nat.mul_le_mul_right _ (by omega)

/-- The digits and the place of a rung below infinity. -/
def dig (r : Nat) : Nat := if r < 4503599627370496 then r else 4503599627370496 + r % 4503599627370496
def up (r : Nat) : Nat := if r < 4503599627370496 then 0 else r / 4503599627370496 - 1
theorem mag_eq (r : Nat) : mag r = dig r * 2 ^ up r := by
  unfold mag dig up
  split <;> simp

theorem read_num {x : Nat} (hx : x < 18446744073709551616) (h : rung x < 9218868437227405312) : double.read x = .number (neg x) (dig (rung x)) (double.leastPlace + (up (rung x) : Nat)) := by
  have en : (x / 9223372036854775808 % 2 == 1) = neg x := by
    unfold neg
    rw [Bool.eq_iff_iff]; simp; omega
  unfold Format.read
  rw [dbl_sw, dbl_binade, dbl_inf]
  simp only [en]
  change (if rung x < 4503599627370496 then _ else _) = _
  unfold dig up
  by_cases h1 : rung x < 4503599627370496
  · simp [h1]; rfl
  · rw [if_neg h1, if_neg h1, if_neg h1]
    change (if rung x < 9218868437227405312 then _ else _) = _
    rw [if_pos h]
    rfl

theorem read_inf {x : Nat} (hx : x < 18446744073709551616) (h : rung x = 9218868437227405312) : double.read x = .infinity (neg x) := by
  have en : (x / 9223372036854775808 % 2 == 1) = neg x := by
    unfold neg
    rw [Bool.eq_iff_iff]; simp; omega
  unfold Format.read
  rw [dbl_sw, dbl_binade, dbl_inf]
  simp only [en]
  change (if rung x < 4503599627370496 then _ else if rung x < 9218868437227405312 then _ else if rung x = 9218868437227405312 then _ else _) = _
  rw [if_neg (by omega), if_neg (by omega), if_pos h]

theorem read_nan {x : Nat} (h : isN x = true) : ∃ s t, double.read x = .nan s t := by
  have h' : 9218868437227405312 < rung x := by simpa [isN, rung] using h
  unfold Format.read
  rw [dbl_sw, dbl_binade, dbl_inf]
  change ∃ s t, (if rung x < 4503599627370496 then _ else if rung x < 9218868437227405312 then _ else if rung x = 9218868437227405312 then _ else _) = _
  rw [if_neg (by omega), if_neg (by omega), if_neg (by omega)]
  exact ⟨_, _, rfl⟩


theorem signed_scale (s : Bool) (m a c : Nat) : signed s m (a + c) = signed s m a * (2 ^ c : Nat) := by
  unfold signed
  rw [Nat.shiftLeft_eq, Nat.shiftLeft_eq, Nat.pow_add, ← Nat.mul_assoc]
  split
  · rw [Int.neg_mul, Int.natCast_mul]
  · rw [Int.natCast_mul]

theorem compare_scale (a b : Int) (c : Nat) : compare (a * (2 ^ c : Nat)) (b * (2 ^ c : Nat)) = compare a b := by
  have hc : (0 : Int) < (2 ^ c : Nat) := by have := Nat.two_pow_pos c; omega
  simp only [compare, compareOfLessAndEq]
  have h1 : (a * (2 ^ c : Nat) < b * (2 ^ c : Nat)) ↔ a < b := Int.mul_lt_mul_right hc
  have h2 : (a * (2 ^ c : Nat) = b * (2 ^ c : Nat)) ↔ a = b := Int.mul_eq_mul_right_iff (by omega)
  simp only [h1, h2]

/-- The value of a word below infinity in units of the least place. -/
def val (x : Nat) : Int := if neg x then -(mag (rung x) : Int) else mag (rung x)

theorem signed_val (x : Nat) : signed (neg x) (dig (rung x)) (up (rung x)) = val x := by
  unfold signed val
  rw [Nat.shiftLeft_eq, ← mag_eq]

theorem order_num {x y : Nat} (hx : x < 18446744073709551616) (hy : y < 18446744073709551616) (h : rung x < 9218868437227405312) (k : rung y < 9218868437227405312) : double.order x y = some (compare (val x) (val y)) := by
  unfold Format.order
  rw [read_num hx h, read_num hy k]
  simp only [Datum.order]
  congr 1
  rw [← signed_val, ← signed_val]
  by_cases hle : up (rung x) ≤ up (rung y)
  · have e : min (double.leastPlace + (up (rung x) : Nat)) (double.leastPlace + (up (rung y) : Nat)) = double.leastPlace + (up (rung x) : Nat) := by omega
    rw [e, show (double.leastPlace + (up (rung x) : Nat) - (double.leastPlace + (up (rung x) : Nat))).toNat = 0 from by omega, show (double.leastPlace + (up (rung y) : Nat) - (double.leastPlace + (up (rung x) : Nat))).toNat = up (rung y) - up (rung x) from by omega]
    rw [← compare_scale _ _ (up (rung x)), ← signed_scale, ← signed_scale, show 0 + up (rung x) = up (rung x) from by omega, show up (rung y) - up (rung x) + up (rung x) = up (rung y) from by omega]
  · have e : min (double.leastPlace + (up (rung x) : Nat)) (double.leastPlace + (up (rung y) : Nat)) = double.leastPlace + (up (rung y) : Nat) := by omega
    rw [e, show (double.leastPlace + (up (rung y) : Nat) - (double.leastPlace + (up (rung y) : Nat))).toNat = 0 from by omega, show (double.leastPlace + (up (rung x) : Nat) - (double.leastPlace + (up (rung y) : Nat))).toNat = up (rung x) - up (rung y) from by omega]
    rw [← compare_scale _ _ (up (rung y)), ← signed_scale, ← signed_scale, show 0 + up (rung y) = up (rung y) from by omega, show up (rung x) - up (rung y) + up (rung y) = up (rung x) from by omega]

theorem mag_mono {r s : Nat} : mag r < mag s ↔ r < s := by
  constructor
  · intro h
    rcases Nat.lt_trichotomy r s with h1 | h1 | h1
    · exact h1
    · subst h1; omega
    · have := mag_lt h1; omega
  · exact mag_lt
theorem mag_inj {r s : Nat} : mag r = mag s ↔ r = s := by
  constructor
  · intro h
    rcases Nat.lt_trichotomy r s with h1 | h1 | h1
    · have := mag_lt h1; omega
    · exact h1
    · have := mag_lt h1; omega
  · intro h; rw [h]
theorem mag_zero : mag 0 = 0 := rfl

theorem compare_key {x y : Nat} : compare (val x) (val y) = compare (key x) (key y) := by
  unfold val key
  have a := @mag_mono (rung x) (rung y)
  have b := @mag_mono (rung y) (rung x)
  have c := @mag_inj (rung x) (rung y)
  have d := @mag_inj (rung x) 0
  have e := @mag_inj (rung y) 0
  rw [mag_zero] at d e
  simp only [compare, compareOfLessAndEq]
  generalize mag (rung x) = A at *
  generalize mag (rung y) = B at *
  cases neg x <;> cases neg y <;> simp <;> (repeat' split) <;> first | rfl | omega

/-- How two words stand to each other. -/
theorem order_spec {x y : Nat} (hx : x < 18446744073709551616) (hy : y < 18446744073709551616) :
    double.order x y = if isN x = true ∨ isN y = true then none else some (compare (key x) (key y)) := by
  by_cases nx : isN x = true
  · rw [if_pos (.inl nx)]
    obtain ⟨s, t, h⟩ := read_nan nx
    unfold Format.order; rw [h]; rfl
  by_cases ny : isN y = true
  · rw [if_pos (.inr ny)]
    obtain ⟨s, t, h⟩ := read_nan ny
    unfold Format.order; rw [h]
    cases double.read x <;> rfl
  rw [if_neg (by simp [nx, ny])]
  have rx : rung x ≤ 9218868437227405312 := by simpa [isN, rung] using nx
  have ry : rung y ≤ 9218868437227405312 := by simpa [isN, rung] using ny
  by_cases ix : rung x = 9218868437227405312
  · by_cases iy : rung y = 9218868437227405312
    · unfold Format.order; rw [read_inf hx ix, read_inf hy iy]
      simp only [Datum.order, key, ix, iy]
      cases neg x <;> cases neg y <;> rfl
    · unfold Format.order; rw [read_inf hx ix, read_num hy (by omega)]
      simp only [Datum.order, key, ix, compare, compareOfLessAndEq]
      cases neg x <;> cases neg y <;> simp <;> (repeat' split) <;> first | rfl | omega
  · by_cases iy : rung y = 9218868437227405312
    · unfold Format.order; rw [read_num hx (by omega), read_inf hy iy]
      simp only [Datum.order, key, iy, compare, compareOfLessAndEq]
      cases neg x <;> cases neg y <;> simp <;> (repeat' split) <;> first | rfl | omega
    · rw [order_num hx hy (by omega) (by omega), compare_key]


/-- One float ahead of another, by ranks; whether they are one. -/
def ltB (a b : Nat) : Bool := decide (rank a < rank b)
def sameB (a b : Nat) : Bool := decide (rank a = rank b)

theorem isN_iff (x : Nat) : isN x = true ↔ 9218868437227405312 < rung x := by simp [isN, rung]
theorem neg_iff (x : Nat) : neg x = true ↔ 9223372036854775808 ≤ x := by simp [neg]

theorem rank_nan {x : Nat} (h : isN x = true) : rank x = 18446744073709551615 := by unfold rank; rw [if_pos h]

theorem rank_num {x : Nat} (hx : x < 18446744073709551616) (h : isN x = false) : rank x = if neg x then 9223372036854775807 - rung x else rung x + 9223372036854775808 := by
  unfold rank
  rw [if_neg (by rw [h]; simp)]
  have := neg_iff x
  unfold rung
  cases hn : neg x <;> simp [hn] at this ⊢ <;> omega

theorem rung_le {x : Nat} (h : isN x = false) : rung x ≤ 9218868437227405312 := by
  have := isN_iff x; rw [h] at this; simp at this; exact this

theorem rank_lt {x : Nat} (hx : x < 18446744073709551616) (h : isN x = false) : rank x < 18446744073709551615 := by
  rw [rank_num hx h]; have := rung_le h; split <;> omega

theorem rank_le (x : Nat) (hx : x < 18446744073709551616) : rank x ≤ 18446744073709551615 := by
  cases h : isN x
  · have := rank_lt hx h; omega
  · rw [rank_nan h]; omega

theorem ltB_nan_left {a b : Nat} (hb : b < 18446744073709551616) (h : isN a = true) : ltB a b = false := by
  unfold ltB; rw [rank_nan h]; have := rank_le b hb; simp; omega

theorem ltB_nan_right {a b : Nat} (ha : a < 18446744073709551616) (h : isN a = false) (h' : isN b = true) : ltB a b = true := by
  unfold ltB; rw [rank_nan h']; have := rank_lt ha h; simp; omega

theorem ltB_num {a b : Nat} (ha : a < 18446744073709551616) (hb : b < 18446744073709551616) (na : isN a = false) (nb : isN b = false) :
    ltB a b = (decide (key a < key b) || (decide (key a = key b) && neg a && !neg b)) := by
  unfold ltB key
  rw [rank_num ha na, rank_num hb nb]
  have ra := rung_le na
  have rb := rung_le nb
  rw [Bool.eq_iff_iff]
  cases neg a <;> cases neg b <;> simp <;> omega

theorem sameB_num {a b : Nat} (ha : a < 18446744073709551616) (hb : b < 18446744073709551616) (na : isN a = false) (nb : isN b = false) : sameB a b = decide (a = b) := by
  unfold sameB
  rw [rank_num ha na, rank_num hb nb]
  have ra := rung_le na
  have rb := rung_le nb
  have ia := neg_iff a
  have ib := neg_iff b
  rw [Bool.eq_iff_iff]
  unfold rung at *
  cases ha' : neg a <;> cases hb' : neg b <;> simp [ha', hb'] at ia ib ⊢ <;> omega

theorem cmp_lt {a b : Int} : (some (compare a b) == some Ordering.lt) = decide (a < b) := by
  simp only [compare, compareOfLessAndEq]; (repeat' split) <;> simp <;> omega
theorem cmp_eq {a b : Int} : (some (compare a b) == some Ordering.eq) = decide (a = b) := by
  simp only [compare, compareOfLessAndEq]; (repeat' split) <;> simp <;> omega
theorem cmp_gt {a b : Int} : (some (compare a b) == some Ordering.gt) = decide (b < a) := by
  simp only [compare, compareOfLessAndEq]; (repeat' split) <;> simp <;> omega

end Go.Proofs.Ytbhcpedokgdipaa.Fl
