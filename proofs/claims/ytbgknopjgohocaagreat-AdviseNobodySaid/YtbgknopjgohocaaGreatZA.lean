/- Several texts of this claim, one behind the other. -/
import Derived.Test.YtbgknopjgohocaaGreatRows
import Derived.WalkKit
import Derived.WalkLawsBesides
import Derived.WalkSpells
import Derived.Deep.QuietTactic
import Derived.BigQuiet
import Derived.Lib.Hide
import Derived.Laws.FloatArith

/- Words on memory that this project's proofs share: what a world keeps outside a set of blocks, what a block holds behind stores and new blocks. No condition beyond each statement's own. -/
namespace Go.Proofs.YtbgknopjgohocaaGreat
open Go.RowKit

/-- Outside the blocks of S, w' is as w was; new blocks may have come. -/
structure Keeps (S : Nat → Prop) (w w' : World) : Prop where
  os : w'.os = w.os
  tape : w'.tape = w.tape
  output : w'.output = w.output
  size : w.heap.size ≤ w'.heap.size
  block : ∀ k, k < w.heap.size → ¬ S k → w'.heap[k]? = w.heap[k]?

theorem Keeps.refl (S : Nat → Prop) (w : World) : Keeps S w w := ⟨rfl, rfl, rfl, Nat.le_refl _, fun _ _ _ => rfl⟩

theorem Keeps.trans {S T : Nat → Prop} {a b c : World} (h : Keeps S a b) (k : Keeps T b c) (hs : ∀ n, T n → S n ∨ a.heap.size ≤ n) : Keeps S a c :=
  ⟨k.os.trans h.os, k.tape.trans h.tape, k.output.trans h.output, Nat.le_trans h.size k.size, fun n hn hS =>
    (k.block n (Nat.lt_of_lt_of_le hn h.size) (fun ht => (hs n ht).elim hS (fun hle => by omega))).trans (h.block n hn hS)⟩

theorem Keeps.mono {S T : Nat → Prop} {w w' : World} (h : Keeps S w w') (hs : ∀ n, n < w.heap.size → S n → T n) : Keeps T w w' :=
  ⟨h.os, h.tape, h.output, h.size, fun n hn hT => h.block n hn (fun hS => hT (hs n hn hS))⟩

theorem Keeps.drewN {S : Nat → Prop} {w w' : World} (h : Keeps S w w') (n : Nat) : Keeps S w (w'.drewN n) := ⟨h.os, h.tape, h.output, h.size, h.block⟩
theorem Keeps.drew {S : Nat → Prop} {w w' : World} (h : Keeps S w w') : Keeps S w w'.drew := ⟨h.os, h.tape, h.output, h.size, h.block⟩

theorem Keeps.alloc {S : Nat → Prop} {w w' : World} (h : Keeps S w w') (o : Obj) : Keeps S w (w'.alloc o) :=
  ⟨h.os, h.tape, h.output, by have := h.size; simp only [World.size_alloc]; omega, fun n hn hS => by
    rw [Below.heap_alloc _ _ _ (Nat.lt_of_lt_of_le hn h.size)]; exact h.block n hn hS⟩

theorem Keeps.setCell {S : Nat → Prop} {w w' : World} (h : Keeps S w w') {p : Addr} (hp : S p.block ∨ w.heap.size ≤ p.block) (u : Value) : Keeps S w (w'.setCell p u) :=
  ⟨h.os, h.tape, h.output, by simpa only [World.size_setCell] using h.size, fun n hn hS => by
    rw [Below.heap_setCell _ _ _ _ (by rintro rfl; exact hp.elim hS (fun hle => by omega))]; exact h.block n hn hS⟩

theorem Keeps.below {w w' : World} {B : Nat} (h : Keeps (fun k => B ≤ k) w w') (hB : B ≤ w.heap.size) : Below B w w' :=
  ⟨h.os, h.tape, h.output, h.size, fun k hk => h.block k (by omega) (by omega)⟩

theorem Keeps.of_below {w w' : World} {B : Nat} (h : Below B w w') : Keeps (fun k => B ≤ k) w w' :=
  ⟨h.os, h.tape, h.output, h.size, fun k _ hk => h.block k (by omega)⟩

theorem Keeps.of_drewN {w w' : World} (S : Nat → Prop) (h : ∃ n, w' = w.drewN n) : Keeps S w w' := by
  obtain ⟨n, rfl⟩ := h; exact (Keeps.refl S w).drewN n

/-- S, and the blocks that came. -/
def Ext (S : Nat → Prop) (w w' : World) : Nat → Prop := fun k => S k ∨ (w.heap.size ≤ k ∧ k < w'.heap.size)

theorem blk_lt' {w : World} {b : Nat} {o : Obj} (h : w.heap[b]? = some o) : b < w.heap.size := (Array.getElem?_eq_some_iff.1 h).1

theorem Keeps.blk {S : Nat → Prop} {w w' : World} (h : Keeps S w w') {b : Nat} {o : Obj} (hb : w.heap[b]? = some o) (hS : ¬ S b) : w'.heap[b]? = some o :=
  (h.block b (blk_lt' hb) hS).trans hb

theorem Keeps.cell {S : Nat → Prop} {w w' : World} (h : Keeps S w w') {a : Addr} {v : Value} (hc : w.cell? a = some v) (hS : ¬ S a.block) : w'.cell? a = some v := by
  rw [← hc]
  exact World.cell?_of_block (w := w) (h.block a.block (World.block_lt_of_cell? w a hc) hS)

/-- What stood when the call began stands as it did. -/
theorem Keeps.old {w w' : World} (h : Keeps (fun j => w.heap.size ≤ j) w w') {a : Addr} {v : Value} (hc : w.cell? a = some v) : w'.cell? a = some v :=
  h.cell hc (Nat.not_le.2 (World.block_lt_of_cell? w _ hc))

/-! ### What a block holds -/
def setObj (i : Nat) (v : Value) : Obj → Obj
  | .cells c e f => .cells (c.setIfInBounds i v) e f
  | o => o

theorem heap_past (w : World) (o : Obj) (n : Nat) (h : n < w.heap.size) : (w.alloc o).heap[n]? = w.heap[n]? := Below.heap_alloc w o n h
theorem heap_at (w : World) (o : Obj) (n : Nat) (h : n = w.heap.size) : (w.alloc o).heap[n]? = some o := by subst h; exact heap_alloc_new w o
theorem heap_far (w : World) (m i n : Nat) (v : Value) (h : n ≠ m) : (w.setCell ⟨m, i, none⟩ v).heap[n]? = w.heap[n]? := Below.heap_setCell w _ v n h
theorem heap_set (w : World) (n i : Nat) (v : Value) : (w.setCell ⟨n, i, none⟩ v).heap[n]? = (w.heap[n]?).map (setObj i v) := by
  simp only [World.setCell, Array.getElem?_modify, if_true]
  cases w.heap[n]? with
  | none => rfl
  | some o => cases o <;> rfl
@[go_sem] theorem setCell_drewN (w : World) (n : Nat) (a : Addr) (v : Value) : (w.drewN n).setCell a v = (w.setCell a v).drewN n := rfl
@[go_sem] theorem alloc_drewN (w : World) (n : Nat) (o : Obj) : (w.drewN n).alloc o = (w.alloc o).drewN n := rfl
theorem heap_drew (w : World) : w.drew.heap = w.heap := rfl

theorem blk_cell' {w : World} {b : Nat} {cs : Array Value} {t : TypeId} {f : Nat × Nat} (h : w.heap[b]? = some (.cells cs t f)) : ∀ i, w.cell? ⟨b, i, none⟩ = cs[i]? := fun i => by simp [World.cell?, h]
theorem blk_free {w : World} {b : Nat} {cs : Array Value} {t : TypeId} (h : w.heap[b]? = some (.cells cs t (0, 0))) : ∀ i, w.frozen? ⟨b, i, none⟩ = false := fun i => by simp [World.frozen?, h]

end Go.Proofs.YtbgknopjgohocaaGreat


/- Doubles as words: which are NaN, how they stand in order (their keys, their ranks). No condition but that a word has 64 bits. -/
namespace Go.Proofs.YtbgknopjgohocaaGreat.Fl
open Ieee

def isN (x : Nat) : Bool := decide (9218868437227405312 < x % 9223372036854775808)
def neg (x : Nat) : Bool := decide (9223372036854775808 ≤ x)
def rung (x : Nat) : Nat := x % 9223372036854775808
/-- The word as a signed rung. -/
def key (x : Nat) : Int := if neg x then -(rung x : Int) else rung x
def rank (x : Nat) : Nat := if isN x then 18446744073709551615 else if neg x then 18446744073709551615 - x else x + 9223372036854775808

theorem dbl_sw : double.signWeight = 9223372036854775808 := by decide
theorem dbl_binade : double.binade = 4503599627370496 := by decide
theorem dbl_inf : double.infRung = 9218868437227405312 := by decide

/-- The magnitude of a rung in units of the least place. -/
def mag (r : Nat) : Nat := if r < 4503599627370496 then r else (4503599627370496 + r % 4503599627370496) * 2 ^ (r / 4503599627370496 - 1)

theorem mag_lt {r s : Nat} (h : r < s) : mag r < mag s := by
  unfold mag
  by_cases hs : s < 4503599627370496
  · rw [if_pos hs, if_pos (by omega)]; exact h
  · rw [if_neg hs]
    have hs1 : 1 ≤ s / 4503599627370496 := by omega
    have p1 : 1 ≤ 2 ^ (s / 4503599627370496 - 1) := Nat.one_le_two_pow
    have q1 : 4503599627370496 + s % 4503599627370496 ≤ (4503599627370496 + s % 4503599627370496) * 2 ^ (s / 4503599627370496 - 1) := Nat.le_mul_of_pos_right _ p1
    by_cases hr : r < 4503599627370496
    · rw [if_pos hr]; omega
    · rw [if_neg hr]
      by_cases he : r / 4503599627370496 = s / 4503599627370496
      · rw [he]
        exact Nat.mul_lt_mul_of_pos_right (by omega) p1
      · have hlt : r / 4503599627370496 < s / 4503599627370496 := by omega
        have e1 : 2 ^ (s / 4503599627370496 - 1) = 2 ^ (r / 4503599627370496 - 1) * 2 ^ (s / 4503599627370496 - r / 4503599627370496) := by
          rw [← Nat.pow_add]; congr 1; omega
        have e2 : 2 ≤ 2 ^ (s / 4503599627370496 - r / 4503599627370496) := by
          have : 2 ^ 1 ≤ 2 ^ (s / 4503599627370496 - r / 4503599627370496) := Nat.pow_le_pow_right (by omega) (by omega)
          simpa using this
        have e0 : 0 < 2 ^ (r / 4503599627370496 - 1) := Nat.two_pow_pos _
        rw [e1]
        generalize 2 ^ (r / 4503599627370496 - 1) = A at *
        generalize 2 ^ (s / 4503599627370496 - r / 4503599627370496) = D at *
        have t : r % 4503599627370496 < 4503599627370496 := Nat.mod_lt _ (by omega)
        calc (4503599627370496 + r % 4503599627370496) * A < 9007199254740992 * A := Nat.mul_lt_mul_of_pos_right (by omega) e0
          _ = 4503599627370496 * (A * 2) := by omega
          _ ≤ 4503599627370496 * (A * D) := Nat.mul_le_mul_left _ (Nat.mul_le_mul_left _ e2)
          _ ≤ (4503599627370496 + s % 4503599627370496) * (A * D) := Nat.mul_le_mul_right _ (by omega)

/-- The digits and the place of a rung below infinity. -/
def dig (r : Nat) : Nat := if r < 4503599627370496 then r else 4503599627370496 + r % 4503599627370496
def up (r : Nat) : Nat := if r < 4503599627370496 then 0 else r / 4503599627370496 - 1
theorem mag_eq (r : Nat) : mag r = dig r * 2 ^ up r := by
  unfold mag dig up
  split <;> simp

theorem read_num {x : Nat} (hx : x < 18446744073709551616) (h : rung x < 9218868437227405312) : double.read x = .number (neg x) (dig (rung x)) (double.leastPlace + (up (rung x) : Nat)) := by
  have en : (x / 9223372036854775808 % 2 == 1) = neg x := by
    unfold neg
    rw [Bool.eq_iff_iff]; simp; omega
  unfold Format.read
  rw [dbl_sw, dbl_binade, dbl_inf]
  simp only [en]
  change (if rung x < 4503599627370496 then _ else _) = _
  unfold dig up
  by_cases h1 : rung x < 4503599627370496
  · simp [h1]; rfl
  · rw [if_neg h1, if_neg h1, if_neg h1]
    change (if rung x < 9218868437227405312 then _ else _) = _
    rw [if_pos h]
    rfl

theorem read_inf {x : Nat} (hx : x < 18446744073709551616) (h : rung x = 9218868437227405312) : double.read x = .infinity (neg x) := by
  have en : (x / 9223372036854775808 % 2 == 1) = neg x := by
    unfold neg
    rw [Bool.eq_iff_iff]; simp; omega
  unfold Format.read
  rw [dbl_sw, dbl_binade, dbl_inf]
  simp only [en]
  change (if rung x < 4503599627370496 then _ else if rung x < 9218868437227405312 then _ else if rung x = 9218868437227405312 then _ else _) = _
  rw [if_neg (by omega), if_neg (by omega), if_pos h]

theorem read_nan {x : Nat} (h : isN x = true) : ∃ s t, double.read x = .nan s t := by
  have h' : 9218868437227405312 < rung x := by simpa [isN, rung] using h
  unfold Format.read
  rw [dbl_sw, dbl_binade, dbl_inf]
  change ∃ s t, (if rung x < 4503599627370496 then _ else if rung x < 9218868437227405312 then _ else if rung x = 9218868437227405312 then _ else _) = _
  rw [if_neg (by omega), if_neg (by omega), if_neg (by omega)]
  exact ⟨_, _, rfl⟩


theorem signed_scale (s : Bool) (m a c : Nat) : signed s m (a + c) = signed s m a * (2 ^ c : Nat) := by
  unfold signed
  rw [Nat.shiftLeft_eq, Nat.shiftLeft_eq, Nat.pow_add, ← Nat.mul_assoc]
  split
  · rw [Int.neg_mul, Int.natCast_mul]
  · rw [Int.natCast_mul]

theorem compare_scale (a b : Int) (c : Nat) : compare (a * (2 ^ c : Nat)) (b * (2 ^ c : Nat)) = compare a b := by
  have hc : (0 : Int) < (2 ^ c : Nat) := by have := Nat.two_pow_pos c; omega
  simp only [compare, compareOfLessAndEq]
  have h1 : (a * (2 ^ c : Nat) < b * (2 ^ c : Nat)) ↔ a < b := Int.mul_lt_mul_right hc
  have h2 : (a * (2 ^ c : Nat) = b * (2 ^ c : Nat)) ↔ a = b := Int.mul_eq_mul_right_iff (by omega)
  simp only [h1, h2]

/-- The value of a word below infinity in units of the least place. -/
def val (x : Nat) : Int := if neg x then -(mag (rung x) : Int) else mag (rung x)

theorem signed_val (x : Nat) : signed (neg x) (dig (rung x)) (up (rung x)) = val x := by
  unfold signed val
  rw [Nat.shiftLeft_eq, ← mag_eq]

theorem order_num {x y : Nat} (hx : x < 18446744073709551616) (hy : y < 18446744073709551616) (h : rung x < 9218868437227405312) (k : rung y < 9218868437227405312) : double.order x y = some (compare (val x) (val y)) := by
  unfold Format.order
  rw [read_num hx h, read_num hy k]
  simp only [Datum.order]
  congr 1
  rw [← signed_val, ← signed_val]
  by_cases hle : up (rung x) ≤ up (rung y)
  · have e : min (double.leastPlace + (up (rung x) : Nat)) (double.leastPlace + (up (rung y) : Nat)) = double.leastPlace + (up (rung x) : Nat) := by omega
    rw [e, show (double.leastPlace + (up (rung x) : Nat) - (double.leastPlace + (up (rung x) : Nat))).toNat = 0 from by omega, show (double.leastPlace + (up (rung y) : Nat) - (double.leastPlace + (up (rung x) : Nat))).toNat = up (rung y) - up (rung x) from by omega]
    rw [← compare_scale _ _ (up (rung x)), ← signed_scale, ← signed_scale, show 0 + up (rung x) = up (rung x) from by omega, show up (rung y) - up (rung x) + up (rung x) = up (rung y) from by omega]
  · have e : min (double.leastPlace + (up (rung x) : Nat)) (double.leastPlace + (up (rung y) : Nat)) = double.leastPlace + (up (rung y) : Nat) := by omega
    rw [e, show (double.leastPlace + (up (rung y) : Nat) - (double.leastPlace + (up (rung y) : Nat))).toNat = 0 from by omega, show (double.leastPlace + (up (rung x) : Nat) - (double.leastPlace + (up (rung y) : Nat))).toNat = up (rung x) - up (rung y) from by omega]
    rw [← compare_scale _ _ (up (rung y)), ← signed_scale, ← signed_scale, show 0 + up (rung y) = up (rung y) from by omega, show up (rung x) - up (rung y) + up (rung y) = up (rung x) from by omega]

theorem mag_mono {r s : Nat} : mag r < mag s ↔ r < s := by
  constructor
  · intro h
    rcases Nat.lt_trichotomy r s with h1 | h1 | h1
    · exact h1
    · subst h1; omega
    · have := mag_lt h1; omega
  · exact mag_lt
theorem mag_inj {r s : Nat} : mag r = mag s ↔ r = s := by
  constructor
  · intro h
    rcases Nat.lt_trichotomy r s with h1 | h1 | h1
    · have := mag_lt h1; omega
    · exact h1
    · have := mag_lt h1; omega
  · intro h; rw [h]
theorem mag_zero : mag 0 = 0 := rfl

theorem compare_key {x y : Nat} : compare (val x) (val y) = compare (key x) (key y) := by
  unfold val key
  have a := @mag_mono (rung x) (rung y)
  have b := @mag_mono (rung y) (rung x)
  have c := @mag_inj (rung x) (rung y)
  have d := @mag_inj (rung x) 0
  have e := @mag_inj (rung y) 0
  rw [mag_zero] at d e
  simp only [compare, compareOfLessAndEq]
  generalize mag (rung x) = A at *
  generalize mag (rung y) = B at *
  cases neg x <;> cases neg y <;> simp <;> (repeat' split) <;> first | rfl | omega

/-- How two words stand to each other. -/
theorem order_spec {x y : Nat} (hx : x < 18446744073709551616) (hy : y < 18446744073709551616) :
    double.order x y = if isN x = true ∨ isN y = true then none else some (compare (key x) (key y)) := by
  by_cases nx : isN x = true
  · rw [if_pos (.inl nx)]
    obtain ⟨s, t, h⟩ := read_nan nx
    unfold Format.order; rw [h]; rfl
  by_cases ny : isN y = true
  · rw [if_pos (.inr ny)]
    obtain ⟨s, t, h⟩ := read_nan ny
    unfold Format.order; rw [h]
    cases double.read x <;> rfl
  rw [if_neg (by simp [nx, ny])]
  have rx : rung x ≤ 9218868437227405312 := by simpa [isN, rung] using nx
  have ry : rung y ≤ 9218868437227405312 := by simpa [isN, rung] using ny
  by_cases ix : rung x = 9218868437227405312
  · by_cases iy : rung y = 9218868437227405312
    · unfold Format.order; rw [read_inf hx ix, read_inf hy iy]
      simp only [Datum.order, key, ix, iy]
      cases neg x <;> cases neg y <;> rfl
    · unfold Format.order; rw [read_inf hx ix, read_num hy (by omega)]
      simp only [Datum.order, key, ix, compare, compareOfLessAndEq]
      cases neg x <;> cases neg y <;> simp <;> (repeat' split) <;> first | rfl | omega
  · by_cases iy : rung y = 9218868437227405312
    · unfold Format.order; rw [read_num hx (by omega), read_inf hy iy]
      simp only [Datum.order, key, iy, compare, compareOfLessAndEq]
      cases neg x <;> cases neg y <;> simp <;> (repeat' split) <;> first | rfl | omega
    · rw [order_num hx hy (by omega) (by omega), compare_key]


/-- One float ahead of another, by ranks; whether they are one. -/
def ltB (a b : Nat) : Bool := decide (rank a < rank b)
def sameB (a b : Nat) : Bool := decide (rank a = rank b)

theorem isN_iff (x : Nat) : isN x = true ↔ 9218868437227405312 < rung x := by simp [isN, rung]
theorem neg_iff (x : Nat) : neg x = true ↔ 9223372036854775808 ≤ x := by simp [neg]

theorem rank_nan {x : Nat} (h : isN x = true) : rank x = 18446744073709551615 := by unfold rank; rw [if_pos h]

theorem rank_num {x : Nat} (hx : x < 18446744073709551616) (h : isN x = false) : rank x = if neg x then 9223372036854775807 - rung x else rung x + 9223372036854775808 := by
  unfold rank
  rw [if_neg (by rw [h]; simp)]
  have := neg_iff x
  unfold rung
  cases hn : neg x <;> simp [hn] at this ⊢ <;> omega

theorem rung_le {x : Nat} (h : isN x = false) : rung x ≤ 9218868437227405312 := by
  have := isN_iff x; rw [h] at this; simp at this; exact this

theorem rank_lt {x : Nat} (hx : x < 18446744073709551616) (h : isN x = false) : rank x < 18446744073709551615 := by
  rw [rank_num hx h]; have := rung_le h; split <;> omega

theorem rank_le (x : Nat) (hx : x < 18446744073709551616) : rank x ≤ 18446744073709551615 := by
  cases h : isN x
  · have := rank_lt hx h; omega
  · rw [rank_nan h]; omega

theorem ltB_nan_left {a b : Nat} (hb : b < 18446744073709551616) (h : isN a = true) : ltB a b = false := by
  unfold ltB; rw [rank_nan h]; have := rank_le b hb; simp; omega

theorem ltB_nan_right {a b : Nat} (ha : a < 18446744073709551616) (h : isN a = false) (h' : isN b = true) : ltB a b = true := by
  unfold ltB; rw [rank_nan h']; have := rank_lt ha h; simp; omega

theorem ltB_num {a b : Nat} (ha : a < 18446744073709551616) (hb : b < 18446744073709551616) (na : isN a = false) (nb : isN b = false) :
    ltB a b = (decide (key a < key b) || (decide (key a = key b) && neg a && !neg b)) := by
  unfold ltB key
  rw [rank_num ha na, rank_num hb nb]
  have ra := rung_le na
  have rb := rung_le nb
  rw [Bool.eq_iff_iff]
  cases neg a <;> cases neg b <;> simp <;> omega

theorem sameB_num {a b : Nat} (ha : a < 18446744073709551616) (hb : b < 18446744073709551616) (na : isN a = false) (nb : isN b = false) : sameB a b = decide (a = b) := by
  unfold sameB
  rw [rank_num ha na, rank_num hb nb]
  have ra := rung_le na
  have rb := rung_le nb
  have ia := neg_iff a
  have ib := neg_iff b
  rw [Bool.eq_iff_iff]
  unfold rung at *
  cases ha' : neg a <;> cases hb' : neg b <;> simp [ha', hb'] at ia ib ⊢ <;> omega

theorem cmp_lt {a b : Int} : (some (compare a b) == some Ordering.lt) = decide (a < b) := by
  simp only [compare, compareOfLessAndEq]; (repeat' split) <;> simp <;> omega
theorem cmp_eq {a b : Int} : (some (compare a b) == some Ordering.eq) = decide (a = b) := by
  simp only [compare, compareOfLessAndEq]; (repeat' split) <;> simp <;> omega
theorem cmp_gt {a b : Int} : (some (compare a b) == some Ordering.gt) = decide (b < a) := by
  simp only [compare, compareOfLessAndEq]; (repeat' split) <;> simp <;> omega

end Go.Proofs.YtbgknopjgohocaaGreat.Fl


/- What the calls on floats answer: order, same, rank. -/
namespace Go.Proofs.YtbgknopjgohocaaGreat
open Go.RowKit Fl
set_option linter.unusedVariables false

@[go_sem] theorem run_bits (a : Nat) (w : World) : (callFunc 51 #[.float .f64 a]).run Tryz.prog w = .ok (.value (.int .u64 a)) w := by
  rw [run_callFunc_extern (fn := Tryz.f51) (e := Extern.MathFloatBits.float64bits) Tryz.func51 (by kernel_rfl) (by kernel_rfl) (by kernel_rfl) (by kernel_rfl)]
  rfl

@[go_sem] theorem run_frombits (a : Int) (w : World) : (callFunc 17 #[.int .u64 a]).run Tryz.prog w = .ok (.value (.float .f64 a.toNat)) w := by
  rw [run_callFunc_extern (fn := Tryz.f17) (e := Extern.MathFloatBits.float64frombits) Tryz.func17 (by kernel_rfl) (by kernel_rfl) (by kernel_rfl) (by kernel_rfl)]
  rfl

theorem ord_at (a b : Nat) (ha : a < 18446744073709551616) (hb : b < 18446744073709551616) : FloatKind.f64.format.order a b = if isN a = true ∨ isN b = true then none else some (compare (key a) (key b)) := order_spec ha hb

theorem ord_self (a : Nat) (ha : a < 18446744073709551616) : FloatKind.f64.format.order a a = if isN a = true then none else some .eq := by
  rw [ord_at a a ha ha]
  by_cases n : isN a = true
  · simp [n]
  · simp [n, compare, compareOfLessAndEq]

theorem ne_self (a : Nat) (ha : a < 18446744073709551616) : (FloatKind.f64.format.order a a != some .eq) = isN a := by
  rw [ord_self a ha]; cases isN a <;> rfl

theorem nan_any (a : Nat) (ha : a < 18446744073709551616) (w : World) : Calls Tryz.prog 35 #[.float .f64 a] w fun e w' => e = .returned (.bool (isN a)) ∧ w = w' := by
  have HB := Lib.hid (ne_self a ha)
  clear ha
  go_enter Tryz.func35, Tryz.ntmps35
  go_wp2
  go_ret
  exact ⟨congrArg (fun x => Ending.returned (.bool x)) HB.out, rfl⟩

theorem signbit_any (a : Nat) (ha : a < 18446744073709551616) (w : World) : Calls Tryz.prog 36 #[.float .f64 a] w fun e w' => e = .returned (.bool (neg a)) ∧ w = w' := by
  have hs : decide (wrap64 (a : Int) < 0) = neg a := by
    unfold wrap64 neg; rw [Bool.eq_iff_iff]; simp; omega
  have HS := Lib.hid hs
  clear hs ha
  go_enter Tryz.func36, Tryz.ntmps36
  go_wp2
  go_ret
  exact ⟨congrArg (fun x => Ending.returned (.bool x)) HS.out, rfl⟩

theorem less_any (a b : Nat) (ha : a < 18446744073709551616) (hb : b < 18446744073709551616) (w : World) :
    Calls Tryz.prog 27 #[.float .f64 a, .float .f64 b] w fun e w' => e = .returned (.bool (ltB a b)) ∧ w = w' := by
  have n1 := Lib.hid (fun w => nan_any a ha w)
  have n2 := Lib.hid (fun w => nan_any b hb w)
  have s1 := Lib.hid (fun w => signbit_any a ha w)
  have s2 := Lib.hid (fun w => signbit_any b hb w)
  have ho := ord_at a b ha hb
  by_cases na : isN a = true
  · have HL := Lib.hid (ltB_nan_left hb na)
    clear ha hb ho
    go_enter Tryz.func27, Tryz.ntmps27
    go_wp2_with (go_at_call 35; refine (n1.out _).mono ?_; rintro e w' ⟨rfl, rfl⟩)
    go_ret
    exact ⟨congrArg (fun x => Ending.returned (.bool x)) HL.out.symm, rfl⟩
  · have na : isN a = false := by simpa using na
    by_cases nb : isN b = true
    · have HL := Lib.hid (ltB_nan_right ha na nb)
      clear ha hb ho
      go_enter Tryz.func27, Tryz.ntmps27
      go_wp2_with fail
      refine (n1.out _).mono ?_
      rintro e w' ⟨rfl, rfl⟩
      go_wp2_with fail
      refine (n2.out _).mono ?_
      rintro e w' ⟨rfl, rfl⟩
      go_wp2
      go_ret
      exact ⟨congrArg (fun x => Ending.returned (.bool x)) HL.out.symm, rfl⟩
    · have nb : isN b = false := by simpa using nb
      rw [na, nb] at ho
      simp only [Bool.false_eq_true, or_self, if_false] at ho
      have HL := Lib.hid (ltB_num ha hb na nb)
      have o1 : (FloatKind.f64.format.order a b == some .lt) = decide (key a < key b) := by rw [ho]; exact cmp_lt
      have o2 : (FloatKind.f64.format.order a b == some .eq) = decide (key a = key b) := by rw [ho]; exact cmp_eq
      clear ha hb ho
      by_cases k1 : key a < key b
      · have O1 : (FloatKind.f64.format.order a b == some .lt) = true := by rw [o1]; simpa using k1
        have HO := Lib.hid k1
        clear o1 o2 k1
        go_enter Tryz.func27, Tryz.ntmps27
        go_wp2_with fail
        refine (n1.out _).mono ?_
        rintro e w' ⟨rfl, rfl⟩
        go_wp2_with fail
        refine (n2.out _).mono ?_
        rintro e w' ⟨rfl, rfl⟩
        go_wp2
        go_ret
        exact ⟨congrArg (fun x => Ending.returned (.bool x)) (by rw [HL.out]; have := HO.out; simp [this]), rfl⟩
      · have O1 : (FloatKind.f64.format.order a b == some .lt) = false := by rw [o1]; simpa using k1
        have HO := Lib.hid k1
        by_cases k2 : key a = key b
        · have O2 : (FloatKind.f64.format.order a b == some .eq) = true := by rw [o2]; simpa using k2
          have HO2 := Lib.hid k2
          clear o1 o2 k1 k2
          cases sa : neg a <;> rw [sa] at s1
          · have SA := Lib.hid sa
            clear sa
            go_enter Tryz.func27, Tryz.ntmps27
            go_wp2_with fail
            refine (n1.out _).mono ?_
            rintro e w' ⟨rfl, rfl⟩
            go_wp2_with fail
            refine (n2.out _).mono ?_
            rintro e w' ⟨rfl, rfl⟩
            go_wp2_with fail
            refine (s1.out _).mono ?_
            rintro e w' ⟨rfl, rfl⟩
            go_wp2
            go_ret
            exact ⟨congrArg (fun x => Ending.returned (.bool x)) (by rw [HL.out, SA.out]; have := HO.out; simp [this]), rfl⟩
          · have SA := Lib.hid sa
            clear sa
            go_enter Tryz.func27, Tryz.ntmps27
            go_wp2_with fail
            refine (n1.out _).mono ?_
            rintro e w' ⟨rfl, rfl⟩
            go_wp2_with fail
            refine (n2.out _).mono ?_
            rintro e w' ⟨rfl, rfl⟩
            go_wp2_with fail
            refine (s1.out _).mono ?_
            rintro e w' ⟨rfl, rfl⟩
            go_wp2_with fail
            refine (s2.out _).mono ?_
            rintro e w' ⟨rfl, rfl⟩
            go_wp2
            go_ret
            exact ⟨congrArg (fun x => Ending.returned (.bool x)) (by rw [HL.out, SA.out]; have h1 := HO.out; have h2 := HO2.out; simp [h2]), rfl⟩
        · have O2 : (FloatKind.f64.format.order a b == some .eq) = false := by rw [o2]; simpa using k2
          have HO2 := Lib.hid k2
          clear o1 o2 k1 k2
          go_enter Tryz.func27, Tryz.ntmps27
          go_wp2_with fail
          refine (n1.out _).mono ?_
          rintro e w' ⟨rfl, rfl⟩
          go_wp2_with fail
          refine (n2.out _).mono ?_
          rintro e w' ⟨rfl, rfl⟩
          go_wp2
          go_ret
          exact ⟨congrArg (fun x => Ending.returned (.bool x)) (by rw [HL.out]; have h1 := HO.out; have h2 := HO2.out; simp [h1, h2]), rfl⟩


/-- A float between two others. -/
def fixB (f lo hi none : Nat) : Nat := if isN f then none else if ltB f lo then lo else if ltB hi f then hi else f

theorem fix_any (f lo hi no : Nat) (hf : f < 18446744073709551616) (hl : lo < 18446744073709551616) (hh : hi < 18446744073709551616) (w : World) :
    Calls Tryz.prog 101 #[.float .f64 f, .float .f64 lo, .float .f64 hi, .float .f64 no] w fun e w' => e = .returned (.float .f64 (fixB f lo hi no)) ∧ w = w' := by
  have n1 := Lib.hid (fun w => nan_any f hf w)
  have l1 := Lib.hid (fun w => less_any f lo hf hl w)
  have l2 := Lib.hid (fun w => less_any hi f hh hf w)
  have hF : fixB f lo hi no = if isN f then no else if ltB f lo then lo else if ltB hi f then hi else f := rfl
  clear hf hl hh
  cases h1 : isN f <;> rw [h1] at n1 hF
  · cases h2 : ltB f lo <;> rw [h2] at l1 hF
    · cases h3 : ltB hi f <;> rw [h3] at l2 hF
      all_goals
        have HF := Lib.hid hF
        clear h1 h2 h3 hF
        go_enter Tryz.func101, Tryz.ntmps101
        go_wp2_with fail
        refine (n1.out _).mono ?_
        rintro e w' ⟨rfl, rfl⟩
        go_wp2_with fail
        refine (l1.out _).mono ?_
        rintro e w' ⟨rfl, rfl⟩
        go_wp2_with fail
        refine (l2.out _).mono ?_
        rintro e w' ⟨rfl, rfl⟩
        go_wp2
        go_ret
        exact ⟨congrArg (fun x => Ending.returned (.float .f64 x)) (by rw [HF.out]; simp), rfl⟩
    · have HF := Lib.hid hF
      clear h1 h2 hF
      go_enter Tryz.func101, Tryz.ntmps101
      go_wp2_with fail
      refine (n1.out _).mono ?_
      rintro e w' ⟨rfl, rfl⟩
      go_wp2_with fail
      refine (l1.out _).mono ?_
      rintro e w' ⟨rfl, rfl⟩
      go_wp2
      go_ret
      exact ⟨congrArg (fun x => Ending.returned (.float .f64 x)) (by rw [HF.out]; simp), rfl⟩
  · have HF := Lib.hid hF
    clear h1 hF
    go_enter Tryz.func101, Tryz.ntmps101
    go_wp2_with fail
    refine (n1.out _).mono ?_
    rintro e w' ⟨rfl, rfl⟩
    go_wp2
    go_ret
    exact ⟨congrArg (fun x => Ending.returned (.float .f64 x)) (by rw [HF.out]; simp), rfl⟩

end Go.Proofs.YtbgknopjgohocaaGreat


/- Sums, products and quotients of doubles, where a NaN's bits are anybody's: what they are but for those. -/
namespace Go.Proofs.YtbgknopjgohocaaGreat
open Go.RowKit Fl
set_option linter.unusedVariables false
open Ieee

/-- A word, but none for all NaNs. -/
def cn (x : Nat) : Option Nat := if isN x then none else some x

theorem sameB_cn {a b : Nat} (ha : a < 18446744073709551616) (hb : b < 18446744073709551616) : sameB a b = decide (cn a = cn b) := by
  unfold cn
  cases na : isN a <;> cases nb : isN b <;> simp
  · rw [sameB_num ha hb na nb]
  · have h1 := rank_lt ha na; have h2 := rank_nan nb; unfold sameB; simp; omega
  · have h1 := rank_lt hb nb; have h2 := rank_nan na; unfold sameB; simp; omega
  · have h1 := rank_nan nb; have h2 := rank_nan na; unfold sameB; simp; omega

theorem word_num (s : Bool) {r : Nat} (h : r ≤ 9218868437227405312) : isN (double.word s r) = false ∧ double.word s r < 18446744073709551616 := by
  unfold isN Format.word
  rw [dbl_sw]
  cases s <;> simp <;> omega

theorem write_num {d : Datum} (h : d.isNaN = false) : isN (double.write d) = false ∧ double.write d < 18446744073709551616 := by
  cases d with
  | number s m e =>
    simp only [Format.write, Format.nearest]
    split
    · exact word_num _ (by omega)
    · rw [dbl_inf]; exact word_num _ (by omega)
  | infinity s => simp only [Format.write]; rw [dbl_inf]; exact word_num _ (by omega)
  | nan s t => simp [Datum.isNaN] at h

theorem sum_num {a b d : Datum} (h : a.sum b = some d) : d.isNaN = false := by
  cases a <;> cases b <;> simp only [Datum.sum] at h <;> (try split at h) <;> first | (cases h; rfl) | cases h
theorem product_num {a b d : Datum} (h : a.product b = some d) : d.isNaN = false := by
  cases a <;> cases b <;> simp only [Datum.product] at h <;> (try split at h) <;> first | (cases h; rfl) | cases h
theorem quotient_num {n : Nat} {a b d : Datum} (h : a.quotient n b = some d) : d.isNaN = false := by
  cases a <;> cases b <;> simp only [Datum.quotient] at h <;> (try split at h) <;> (try split at h) <;> first | (cases h; rfl) | cases h

theorem bits_num {op : BinOp} {x y r : Nat} (h : floatBits op .f64 x y = some r) : isN r = false ∧ r < 18446744073709551616 := by
  unfold floatBits at h
  split at h
  · change double.add x y = some r at h
    unfold Format.add at h
    obtain ⟨d, hd, rfl⟩ := Option.map_eq_some_iff.1 h
    exact write_num (sum_num hd)
  · change double.sub x y = some r at h
    unfold Format.sub at h
    obtain ⟨d, hd, rfl⟩ := Option.map_eq_some_iff.1 h
    exact write_num (sum_num hd)
  · change double.mul x y = some r at h
    unfold Format.mul at h
    obtain ⟨d, hd, rfl⟩ := Option.map_eq_some_iff.1 h
    exact write_num (product_num hd)
  · change double.div x y = some r at h
    unfold Format.div at h
    obtain ⟨d, hd, rfl⟩ := Option.map_eq_some_iff.1 h
    exact write_num (quotient_num hd)
  · cases h

theorem bits_nan {op : BinOp} {x y : Nat} (h : isN x = true ∨ isN y = true) : floatBits op .f64 x y = none := by
  unfold floatBits
  rcases h with h | h <;> obtain ⟨s, t, h⟩ := read_nan h
  · split
    · change double.add x y = none; unfold Format.add; rw [h]; rfl
    · change double.sub x y = none; unfold Format.sub; rw [h]; rfl
    · change double.mul x y = none; unfold Format.mul; rw [h]; rfl
    · change double.div x y = none; unfold Format.div; rw [h]; rfl
    · rfl
  · split
    · change double.add x y = none; unfold Format.add; rw [h]; cases double.read x <;> rfl
    · change double.sub x y = none; unfold Format.sub; rw [h]; cases double.read x <;> rfl
    · change double.mul x y = none; unfold Format.mul; rw [h]; cases double.read x <;> rfl
    · change double.div x y = none; unfold Format.div; rw [h]; cases double.read x <;> rfl
    · rfl

def opC (op : BinOp) (a b : Option Nat) : Option Nat := a.bind fun x => b.bind fun y => floatBits op .f64 x y

theorem opC_cn (op : BinOp) (x y : Nat) : opC op (cn x) (cn y) = floatBits op .f64 x y := by
  unfold opC cn
  cases nx : isN x <;> cases ny : isN y <;> simp
  · exact (bits_nan (.inr ny)).symm
  · exact (bits_nan (.inl nx)).symm
  · exact (bits_nan (.inl nx)).symm

/-- Whatever the operands: some word that is the result's, but for the bits of a NaN. -/
theorem run_arith {P : Program} (op : BinOp) (hop : op = .add ∨ op = .sub ∨ op = .mul ∨ op = .quo) (x y : Nat) (w : World) :
    ∃ r m, (∀ T, (binOp op T (.float .f64 x) (.float .f64 y)).run P w = .ok (.float .f64 r) (w.drewN m)) ∧ r < 18446744073709551616 ∧ cn r = opC op (cn x) (cn y) := by
  rw [opC_cn]
  cases h : floatBits op .f64 x y with
  | some r =>
    obtain ⟨h1, h2⟩ := bits_num h
    exact ⟨r, 0, fun T => run_float_arith w op T .f64 x y r h, h2, by unfold cn; rw [h1]; rfl⟩
  | none =>
    have hr : ∀ T, (binOp op T (.float .f64 x) (.float .f64 y)).run P w = .ok (.float .f64 ((Question.nanBits .f64 x y).cut (w.tape w.drawn (.nanBits .f64 x y)))) (w.drewN 1) := by
      intro T
      unfold floatBits at h
      rcases hop with rfl | rfl | rfl | rfl <;> simp only at h <;> simp [binOp, Op.floatArith, h, choose, Sem.run, Question.forced] <;> rfl
    have hc : isN ((Question.nanBits .f64 x y).cut (w.tape w.drawn (.nanBits .f64 x y))) = true ∧ (Question.nanBits .f64 x y).cut (w.tape w.drawn (.nanBits .f64 x y)) < 18446744073709551616 := by
      simp only [Question.cut]
      generalize w.tape w.drawn (.nanBits .f64 x y) = t
      unfold isN
      simp only [decide_eq_true_eq]
      have h2 : t % 2 = 0 ∨ t % 2 = 1 := by omega
      rcases h2 with h2 | h2 <;> rw [h2] <;> omega
    exact ⟨_, 1, hr, hc.2, by unfold cn; rw [hc.1]; rfl⟩

end Go.Proofs.YtbgknopjgohocaaGreat


/- Rounding to doubles is monotone; small whole numbers are exact; what a share of a number is. No condition beyond those stated. -/
namespace Go.Proofs.YtbgknopjgohocaaGreat.Fl
open Ieee

def R (n d : Nat) : Nat := Toward.even.cut false n d

/-- A power of two that nobody reckons out. -/
def P2 (k : Nat) : Nat := 2 ^ k
theorem P2_pos (k : Nat) : 0 < P2 k := Nat.two_pow_pos k
theorem P2_add (a b : Nat) : 2 ^ a * 2 ^ b = P2 (a + b) := (Nat.pow_add 2 a b).symm
theorem P2_at {a b c : Nat} (h : a + b = c) : 2 ^ a * 2 ^ b = P2 c := by rw [P2_add, h]
theorem P2_mul {a b c : Nat} (h : a + b = c) : P2 a * P2 b = P2 c := P2_at h
theorem P2_is (a : Nat) : 2 ^ a = P2 a := rfl
attribute [irreducible] P2

theorem log2_lt (n : Nat) : n < 2 ^ (n.log2 + 1) := Nat.lt_log2_self
theorem log2_le {n : Nat} (h : n ≠ 0) : 2 ^ n.log2 ≤ n := Nat.log2_self_le h

theorem R_spec (n d : Nat) : R n d = n / 2 ^ d + (if 2 ^ d < 2 * (n % 2 ^ d) ∨ (2 ^ d = 2 * (n % 2 ^ d) ∧ (n / 2 ^ d) % 2 = 1) then 1 else 0) := by
  unfold R Toward.cut
  simp only [Nat.shiftLeft_eq, Nat.one_mul]
  by_cases h : d ≤ n.log2 + 2
  · rw [Nat.min_eq_left h]
    generalize 2 ^ d = g
    congr 1
    by_cases hc : g < 2 * (n % g) ∨ (g = 2 * (n % g) ∧ (n / g) % 2 = 1)
    · rw [if_pos hc]
      have : (decide (g < 2 * (n % g)) || (g == 2 * (n % g) && n / g % 2 == 1)) = true := by simpa using hc
      rw [this]; rfl
    · rw [if_neg hc]
      have : (decide (g < 2 * (n % g)) || (g == 2 * (n % g) && n / g % 2 == 1)) = false := by
        rw [Bool.eq_false_iff]; intro hh; exact hc (by simpa using hh)
      rw [this]; rfl
  · rw [Nat.min_eq_right (by omega)]
    have h1 := log2_lt n
    have h2 : 2 ^ (n.log2 + 2) = 2 * 2 ^ (n.log2 + 1) := by rw [show n.log2 + 2 = (n.log2 + 1) + 1 from rfl, Nat.pow_succ]; omega
    have h3 : 2 ^ (n.log2 + 2) ≤ 2 ^ d := Nat.pow_le_pow_right (by omega) (by omega)
    have q1 : n / 2 ^ (n.log2 + 2) = 0 := Nat.div_eq_of_lt (by omega)
    have q2 : n % 2 ^ (n.log2 + 2) = n := Nat.mod_eq_of_lt (by omega)
    have q3 : n / 2 ^ d = 0 := Nat.div_eq_of_lt (by omega)
    have q4 : n % 2 ^ d = n := Nat.mod_eq_of_lt (by omega)
    rw [q1, q2, q3, q4]
    rw [if_neg (by omega)]
    have : (decide (2 ^ (n.log2 + 2) < 2 * n) || (2 ^ (n.log2 + 2) == 2 * n && 0 % 2 == 1)) = false := by simp; omega
    rw [this]; rfl

theorem R_mono {n m : Nat} (h : n ≤ m) (d : Nat) : R n d ≤ R m d := by
  rw [R_spec, R_spec]
  have hg : 0 < 2 ^ d := Nat.two_pow_pos d
  generalize 2 ^ d = g at *
  have hq : n / g ≤ m / g := Nat.div_le_div_right h
  have e1 := Nat.div_add_mod n g
  have e2 := Nat.div_add_mod m g
  by_cases he : n / g = m / g
  · rw [he] at e1 ⊢
    have : n % g ≤ m % g := by omega
    split <;> split <;> omega
  · split <;> split <;> omega

theorem R_le (n d : Nat) : n / 2 ^ d ≤ R n d ∧ R n d ≤ n / 2 ^ d + 1 := by
  rw [R_spec]; split <;> omega

theorem R_zero (n : Nat) : R n 0 = n := by
  rw [R_spec]; simp [Nat.mod_one]

theorem R_scale (n d c : Nat) : R (n * 2 ^ c) (d + c) = R n d := by
  rw [R_spec, R_spec, Nat.pow_add]
  have hc : 0 < 2 ^ c := Nat.two_pow_pos c
  generalize 2 ^ c = k at *
  generalize 2 ^ d = g
  rw [Nat.mul_div_mul_right _ _ hc, Nat.mul_mod_mul_right]
  have a1 : (g * k < 2 * (n % g * k)) ↔ (g < 2 * (n % g)) := by
    rw [← Nat.mul_assoc]; exact Nat.mul_lt_mul_right hc
  have a2 : (g * k = 2 * (n % g * k)) ↔ (g = 2 * (n % g)) := by
    rw [← Nat.mul_assoc]; exact Nat.mul_left_inj (by omega)
  simp only [a1, a2]

/-- The rung of the nearest double. -/
def near (m : Nat) (p : Int) : Nat :=
  if m = 0 then 0 else
  min (((max (p + m.log2 - 52) (-1074)) + 1074).toNat * 4503599627370496 + R (m <<< (p - (max (p + m.log2 - 52) (-1074))).toNat) ((max (p + m.log2 - 52) (-1074)) - p).toNat) 9218868437227405312

theorem least_eq : double.leastPlace = -1074 := by decide
theorem frac_eq : double.fractionBits = 52 := rfl

theorem word_false (r : Nat) : double.word false r = r := by unfold Format.word; simp

theorem nearest_near (m : Nat) (p : Int) : double.nearest false m p = near m p := by
  unfold Format.nearest near
  by_cases h : m = 0
  · rw [if_pos h, if_pos h, word_false]
  · rw [if_neg h, if_neg h]
    simp only [least_eq, frac_eq, dbl_binade, dbl_inf, word_false, Int.sub_neg]
    unfold R
    rfl

theorem near_le (m : Nat) (p : Int) : near m p ≤ 9218868437227405312 := by
  unfold near; split
  · omega
  · exact Nat.min_le_right _ _

theorem log2_mul (m c : Nat) (h : m ≠ 0) : (m * 2 ^ c).log2 = m.log2 + c := by
  have hc : 0 < 2 ^ c := Nat.two_pow_pos c
  have h1 := log2_le h
  have h2 := log2_lt m
  have hne : m * 2 ^ c ≠ 0 := by
    intro hh; rcases Nat.mul_eq_zero.1 hh with h3 | h3 <;> omega
  rw [Nat.log2_eq_iff hne]
  constructor
  · rw [Nat.pow_add]; exact Nat.mul_le_mul_right _ h1
  · rw [show m.log2 + c + 1 = (m.log2 + 1) + c from by omega, Nat.pow_add]; exact Nat.mul_lt_mul_of_pos_right h2 hc

/-- It hangs on the value alone. -/
theorem near_scale (m c : Nat) (p : Int) : near (m * 2 ^ c) p = near m (p + c) := by
  unfold near
  by_cases h : m = 0
  · subst h; simp
  · have hne : m * 2 ^ c ≠ 0 := by
      intro hh; rcases Nat.mul_eq_zero.1 hh with h3 | h3
      · exact h h3
      · have := Nat.two_pow_pos c; omega
    rw [if_neg h, if_neg hne, log2_mul m c h]
    have el : max (p + ((m.log2 + c : Nat) : Int) - 52) (-1074) = max (p + c + (m.log2 : Int) - 52) (-1074) := by omega
    rw [el]
    generalize max (p + c + (m.log2 : Int) - 52) (-1074) = last
    have key : R ((m * 2 ^ c) <<< (p - last).toNat) (last - p).toNat = R (m <<< (p + c - last).toNat) (last - (p + c)).toNat := by
      simp only [Nat.shiftLeft_eq]
      by_cases h1 : p + c ≤ last
      · rw [show (p - last).toNat = 0 from by omega, show (p + c - last).toNat = 0 from by omega, show (last - p).toNat = (last - (p + c)).toNat + c from by omega]
        rw [Nat.pow_zero, Nat.mul_one, Nat.mul_one, R_scale]
      · by_cases h2 : p ≤ last
        · rw [show (p - last).toNat = 0 from by omega, show (last - (p + c)).toNat = 0 from by omega, R_zero, Nat.pow_zero, Nat.mul_one]
          have e : c = (p + c - last).toNat + (last - p).toNat := by omega
          conv => lhs; rw [e]
          have := R_scale (m * 2 ^ (p + c - last).toNat) 0 (last - p).toNat
          rw [Nat.zero_add, R_zero, Nat.mul_assoc, ← Nat.pow_add] at this
          exact this
        · rw [show (last - p).toNat = 0 from by omega, show (last - (p + c)).toNat = 0 from by omega, R_zero, R_zero, Nat.mul_assoc, ← Nat.pow_add]
          congr 2
          omega
    simp only [key]


theorem log2_mono {m n : Nat} (h0 : m ≠ 0) (h : m ≤ n) : m.log2 ≤ n.log2 := by
  have h1 := log2_le h0
  have h2 := log2_lt n
  rcases Nat.lt_or_ge n.log2 m.log2 with h3 | h3
  · have : 2 ^ (n.log2 + 1) ≤ 2 ^ m.log2 := Nat.pow_le_pow_right (by omega) h3
    omega
  · exact h3

theorem R_big {n d : Nat} {B : Nat} (h : B * 2 ^ d ≤ n) : B ≤ R n d := by
  have := (R_le n d).1
  have h2 : B ≤ n / 2 ^ d := (Nat.le_div_iff_mul_le (Nat.two_pow_pos d)).2 h
  omega

theorem R_small {n d : Nat} {B : Nat} (h : n < B * 2 ^ d) : R n d ≤ B := by
  have := (R_le n d).2
  have h2 : n / 2 ^ d < B := (Nat.div_lt_iff_lt_mul (Nat.two_pow_pos d)).2 h
  omega

/-- Rounding is monotone, at one place. -/
theorem near_mono {m n : Nat} (h : m ≤ n) (p : Int) : near m p ≤ near n p := by
  unfold near
  by_cases h0 : m = 0
  · rw [if_pos h0]; omega
  have hn0 : n ≠ 0 := by omega
  rw [if_neg h0, if_neg hn0]
  have hl := log2_mono h0 h
  refine Nat.le_min.2 ⟨?_, Nat.min_le_right _ _⟩
  refine Nat.le_trans (Nat.min_le_left _ _) ?_
  generalize e1 : max (p + (m.log2 : Int) - 52) (-1074) = a
  generalize e2 : max (p + (n.log2 : Int) - 52) (-1074) = b
  by_cases hab : a = b
  · rw [hab]
    have := R_mono (show m <<< (p - b).toNat ≤ n <<< (p - b).toNat from by rw [Nat.shiftLeft_eq, Nat.shiftLeft_eq]; exact Nat.mul_le_mul_right _ h) (b - p).toNat
    omega
  · have hlt : a < b := by omega
    have hb : b = p + (n.log2 : Int) - 52 := by omega
    have ha : p + (m.log2 : Int) - 52 ≤ a := by omega
    have ham : -1074 ≤ a := by omega
    have n1 := log2_le hn0
    have m2 := log2_lt m
    have kb : 4503599627370496 ≤ R (n <<< (p - b).toNat) (b - p).toNat := by
      apply R_big
      rw [Nat.shiftLeft_eq]
      by_cases hc : n.log2 ≤ 52
      · rw [show (b - p).toNat = 0 from by omega, show (p - b).toNat = 52 - n.log2 from by omega, Nat.pow_zero, Nat.mul_one]
        have : (4503599627370496 : Nat) = 2 ^ n.log2 * 2 ^ (52 - n.log2) := by rw [← Nat.pow_add, show n.log2 + (52 - n.log2) = 52 from by omega]
        rw [this]; exact Nat.mul_le_mul_right _ n1
      · rw [show (p - b).toNat = 0 from by omega, Nat.pow_zero, Nat.mul_one]
        have : (4503599627370496 : Nat) * 2 ^ (b - p).toNat = 2 ^ n.log2 := by
          rw [show (4503599627370496 : Nat) = 2 ^ 52 from rfl, ← Nat.pow_add, show 52 + (b - p).toNat = n.log2 from by omega]
        omega
    have ka : R (m <<< (p - a).toNat) (a - p).toNat ≤ 9007199254740992 := by
      apply R_small
      rw [Nat.shiftLeft_eq]
      by_cases hc : a ≤ p
      · rw [show (a - p).toNat = 0 from by omega, Nat.pow_zero, Nat.mul_one]
        have h3 : m * 2 ^ (p - a).toNat < 2 ^ (m.log2 + 1) * 2 ^ (p - a).toNat := Nat.mul_lt_mul_of_pos_right m2 (Nat.two_pow_pos _)
        have h4 : 2 ^ (m.log2 + 1) * 2 ^ (p - a).toNat ≤ 2 ^ 53 := by rw [← Nat.pow_add]; exact Nat.pow_le_pow_right (by omega) (by omega)
        have h5 : (2 : Nat) ^ 53 = 9007199254740992 := rfl
        omega
      · rw [show (p - a).toNat = 0 from by omega, Nat.pow_zero, Nat.mul_one]
        have h4 : 2 ^ (m.log2 + 1) ≤ 2 ^ 53 * 2 ^ (a - p).toNat := by rw [← Nat.pow_add]; exact Nat.pow_le_pow_right (by omega) (by omega)
        have h5 : (2 : Nat) ^ 53 = 9007199254740992 := rfl
        omega
    have hs : (a + 1074).toNat + 1 ≤ (b + 1074).toNat := by omega
    omega

/-- A whole number of at most 53 digits is exact. -/
theorem near_exact {n : Nat} (h0 : n ≠ 0) (h : n < 9007199254740992) : mag (near n 0) = n * P2 1074 ∧ near n 0 < 9218868437227405312 := by
  have l1 := log2_le h0
  have l2 := log2_lt n
  have hl : n.log2 ≤ 52 := by
    rcases Nat.lt_or_ge 52 n.log2 with h3 | h3
    · have : 2 ^ 53 ≤ 2 ^ n.log2 := Nat.pow_le_pow_right (by omega) h3
      have h5 : (2 : Nat) ^ 53 = 9007199254740992 := rfl
      omega
    · exact h3
  have e : near n 0 = (n.log2 + 1022) * 4503599627370496 + n * 2 ^ (52 - n.log2) := by
    unfold near
    rw [if_neg h0, show max (0 + (n.log2 : Int) - 52) (-1074) = (n.log2 : Int) - 52 from by omega]
    rw [show (0 - ((n.log2 : Int) - 52)).toNat = 52 - n.log2 from by omega, show ((n.log2 : Int) - 52 - 0).toNat = 0 from by omega, R_zero, Nat.shiftLeft_eq, show ((n.log2 : Int) - 52 + 1074).toNat = n.log2 + 1022 from by omega]
    apply Nat.min_eq_left
    have h3 : n * 2 ^ (52 - n.log2) < 2 ^ (n.log2 + 1) * 2 ^ (52 - n.log2) := Nat.mul_lt_mul_of_pos_right l2 (Nat.two_pow_pos _)
    have h4 : 2 ^ (n.log2 + 1) * 2 ^ (52 - n.log2) = 2 ^ 53 := by rw [← Nat.pow_add, show n.log2 + 1 + (52 - n.log2) = 53 from by omega]
    have h5 : (2 : Nat) ^ 53 = 9007199254740992 := rfl
    omega
  have h3 : n * 2 ^ (52 - n.log2) < 9007199254740992 := by
    have h3 : n * 2 ^ (52 - n.log2) < 2 ^ (n.log2 + 1) * 2 ^ (52 - n.log2) := Nat.mul_lt_mul_of_pos_right l2 (Nat.two_pow_pos _)
    have h4 : 2 ^ (n.log2 + 1) * 2 ^ (52 - n.log2) = 2 ^ 53 := by rw [← Nat.pow_add, show n.log2 + 1 + (52 - n.log2) = 53 from by omega]
    have h5 : (2 : Nat) ^ 53 = 9007199254740992 := rfl
    omega
  have h6 : 4503599627370496 ≤ n * 2 ^ (52 - n.log2) := by
    have h7 : 2 ^ n.log2 * 2 ^ (52 - n.log2) ≤ n * 2 ^ (52 - n.log2) := Nat.mul_le_mul_right _ l1
    rw [← Nat.pow_add, show n.log2 + (52 - n.log2) = 52 from by omega] at h7
    exact h7
  refine ⟨?_, by omega⟩
  rw [e]
  have hq : (n.log2 + 1022) * 4503599627370496 + n * 2 ^ (52 - n.log2) = (n.log2 + 1023) * 4503599627370496 + (n * 2 ^ (52 - n.log2) - 4503599627370496) := by omega
  unfold mag
  rw [if_neg (by omega), hq]
  have g1 : ((n.log2 + 1023) * 4503599627370496 + (n * 2 ^ (52 - n.log2) - 4503599627370496)) % 4503599627370496 = n * 2 ^ (52 - n.log2) - 4503599627370496 := by omega
  have g2 : ((n.log2 + 1023) * 4503599627370496 + (n * 2 ^ (52 - n.log2) - 4503599627370496)) / 4503599627370496 - 1 = n.log2 + 1022 := by omega
  rw [g1, g2]
  have g3 : 4503599627370496 + (n * 2 ^ (52 - n.log2) - 4503599627370496) = n * 2 ^ (52 - n.log2) := Nat.add_sub_cancel' h6
  refine (congrArg (fun y => y * 2 ^ (n.log2 + 1022)) g3).trans ?_
  have g4 : 2 ^ (52 - n.log2) * 2 ^ (n.log2 + 1022) = P2 1074 := P2_at (by omega)
  calc n * 2 ^ (52 - n.log2) * 2 ^ (n.log2 + 1022) = n * (2 ^ (52 - n.log2) * 2 ^ (n.log2 + 1022)) := Nat.mul_assoc _ _ _
    _ = n * P2 1074 := by rw [g4]

/-- The whole part of a word that is not below 0. -/
theorem zero_cut (s : Bool) (n d : Nat) : Toward.zero.cut s n d = n / 2 ^ d := by
  unfold Toward.cut
  simp only [Nat.shiftLeft_eq, Nat.one_mul, Bool.toNat_false, Nat.add_zero]
  by_cases h : d ≤ n.log2 + 2
  · rw [Nat.min_eq_left h]
  · rw [Nat.min_eq_right (by omega)]
    have h1 := log2_lt n
    have h2 : 2 ^ (n.log2 + 2) = 2 * 2 ^ (n.log2 + 1) := by rw [show n.log2 + 2 = (n.log2 + 1) + 1 from rfl, Nat.pow_succ]; omega
    have h3 : 2 ^ (n.log2 + 2) ≤ 2 ^ d := Nat.pow_le_pow_right (by omega) (by omega)
    rw [Nat.div_eq_of_lt (by omega), Nat.div_eq_of_lt (by omega)]

theorem down_cut (n d : Nat) : Toward.down.cut false n d = n / 2 ^ d := by
  rw [← zero_cut false n d]
  unfold Toward.cut
  simp

theorem whole (r : Nat) : (dig r <<< (double.leastPlace + (up r : Nat)).toNat) / 2 ^ (-(double.leastPlace + (up r : Nat))).toNat = mag r / P2 1074 := by
  rw [mag_eq, least_eq, Nat.shiftLeft_eq]
  by_cases h : 1074 ≤ up r
  · rw [show (-(-1074 + (up r : Int))).toNat = 0 from by omega, Nat.pow_zero, Nat.div_one, show (-1074 + (up r : Int)).toNat = up r - 1074 from by omega]
    have e : dig r * 2 ^ up r = dig r * 2 ^ (up r - 1074) * P2 1074 := by
      rw [Nat.mul_assoc, P2_is (up r), P2_is (up r - 1074), P2_mul (c := up r) (by omega)]
    rw [e, Nat.mul_div_cancel _ (P2_pos 1074)]
  · rw [show (-1074 + (up r : Int)).toNat = 0 from by omega, Nat.pow_zero, Nat.mul_one, show (-(-1074 + (up r : Int))).toNat = 1074 - up r from by omega]
    have e : P2 1074 = 2 ^ (1074 - up r) * 2 ^ up r := (P2_at (by omega)).symm
    rw [e, Nat.mul_div_mul_right _ _ (Nat.two_pow_pos _)]

theorem rung_of_lt {x : Nat} (h : x < 9223372036854775808) : rung x = x := Nat.mod_eq_of_lt h
theorem neg_of_lt {x : Nat} (h : x < 9223372036854775808) : neg x = false := by unfold neg; simp; omega

/-- int(x) of a word from 0 on, below infinity. -/
theorem toInt_word {x : Nat} (h : x < 9218868437227405312) (hb : mag x / P2 1074 ≤ 9223372036854775807) : floatToIntVal .f64 x .i64 = some ((mag x / P2 1074 : Nat) : Int) := by
  unfold floatToIntVal
  change (match ((double.read x).toInt .zero) with | some n => _ | none => _) = _
  rw [read_num (by omega) (by rw [rung_of_lt (by omega)]; exact h), neg_of_lt (by omega), rung_of_lt (by omega)]
  simp only [Datum.toInt, Datum.integral, zero_cut, whole, signed, Nat.shiftLeft_zero, Bool.false_eq_true, if_false]
  generalize mag x / P2 1074 = k at *
  rw [if_pos]
  simp [IntKind.min, IntKind.max, IntKind.signed, IntKind.bits]
  omega

/-- Floor, of the same: the double of the whole part. -/
theorem floor_word {x : Nat} (h : x < 9218868437227405312) : FloatKind.f64.encode ((FloatKind.f64.decode x).integral .down) = near (mag x / P2 1074) 0 := by
  change double.write ((double.read x).integral .down) = _
  rw [read_num (by omega) (by rw [rung_of_lt (by omega)]; exact h), neg_of_lt (by omega), rung_of_lt (by omega)]
  simp only [Datum.integral, down_cut, whole, Format.write]
  exact nearest_near _ _

theorem ofInt_near (n : Nat) : floatOfInt .f64 (n : Int) = near n 0 := by
  unfold floatOfInt FloatKind.nearest
  change double.write (.number (decide ((n : Int) < 0)) (n : Int).natAbs 0) = _
  simp only [Format.write, Int.natAbs_natCast]
  have : decide ((n : Int) < 0) = false := by simp
  rw [this, nearest_near]

/-- A product of two words from 0 on, below infinity. -/
theorem mul_near {x q : Nat} (hx : x < 9218868437227405312) (hq : q < 9218868437227405312) : floatBits .mul .f64 x q = some (near (mag x * mag q) (-2148)) := by
  change double.mul x q = _
  unfold Format.mul
  rw [read_num (by omega) (by rw [rung_of_lt (by omega)]; exact hx), read_num (by omega) (by rw [rung_of_lt (by omega)]; exact hq), neg_of_lt (by omega), neg_of_lt (by omega), rung_of_lt (by omega), rung_of_lt (by omega)]
  simp only [Datum.product, Option.map_some, Format.write, Bool.xor_false, least_eq]
  rw [nearest_near, mag_eq x, mag_eq q]
  have := near_scale (dig x * dig q) (up x + up q) (-2148)
  rw [show dig x * 2 ^ up x * (dig q * 2 ^ up q) = dig x * dig q * 2 ^ (up x + up q) from by rw [Nat.pow_add]; simp only [Nat.mul_assoc, Nat.mul_left_comm], this]
  congr 2
  omega


theorem near_scaleP (m c : Nat) (p : Int) : near (m * P2 c) p = near m (p + c) := by rw [← P2_is]; exact near_scale m c p
theorem near_zero (p : Int) : near 0 p = 0 := rfl
theorem one_mag : mag 4607182418800017408 = P2 1074 := by
  have h := (near_exact (n := 1) (by omega) (by omega)).1
  have e : near 1 0 = 4607182418800017408 := by decide +kernel
  rw [e] at h
  simpa using h

/-- A share of n: the whole part of the product, rounded once. -/
def shareN (n q : Nat) : Nat := mag (near (mag (near n 0) * mag q) (-2148)) / P2 1074

theorem mag_le {r s : Nat} (h : r ≤ s) : mag r ≤ mag s := by
  rcases Nat.lt_or_eq_of_le h with h | h
  · exact Nat.le_of_lt (mag_lt h)
  · rw [h]; exact Nat.le_refl _

theorem shareN_mono (n : Nat) {q r : Nat} (h : q ≤ r) : shareN n q ≤ shareN n r :=
  Nat.div_le_div_right (mag_le (near_mono (Nat.mul_le_mul_left _ (mag_le h)) _))

theorem near_one {n : Nat} (h : n < 9007199254740992) : near (mag (near n 0) * mag 4607182418800017408) (-2148) = near n 0 := by
  by_cases h0 : n = 0
  · subst h0; rw [near_zero, mag_zero, Nat.zero_mul, near_zero]
  · rw [(near_exact h0 h).1, one_mag, Nat.mul_assoc, P2_mul (c := 2148) (by omega), near_scaleP]
    congr 1

theorem near_lt {n : Nat} (h : n < 9007199254740992) : near n 0 < 9218868437227405312 := by
  by_cases h0 : n = 0
  · subst h0; rw [near_zero]; omega
  · exact (near_exact h0 h).2

theorem mag_near {n : Nat} (h : n < 9007199254740992) : mag (near n 0) / P2 1074 = n := by
  by_cases h0 : n = 0
  · subst h0; rw [near_zero, mag_zero]; exact Nat.zero_div _
  · rw [(near_exact h0 h).1, Nat.mul_div_cancel _ (P2_pos 1074)]

theorem shareN_le {n q : Nat} (h : n < 9007199254740992) (hq : q ≤ 4607182418800017408) : shareN n q ≤ n := by
  refine Nat.le_trans (shareN_mono n hq) ?_
  unfold shareN
  rw [near_one h, mag_near h]
  exact Nat.le_refl _

theorem prod_lt {n q : Nat} (h : n < 9007199254740992) (hq : q ≤ 4607182418800017408) : near (mag (near n 0) * mag q) (-2148) < 9218868437227405312 := by
  refine Nat.lt_of_le_of_lt (near_mono (Nat.mul_le_mul_left _ (mag_le hq)) _) ?_
  rw [near_one h]
  exact near_lt h

end Go.Proofs.YtbgknopjgohocaaGreat.Fl


/- Shares, and products held against numbers: the calls that other chapters come to as well. -/
namespace Go.Proofs.YtbgknopjgohocaaGreat
open Go.RowKit Fl
set_option linter.unusedVariables false

theorem ret_bool' {a b : Bool} (h : a = b) : Ending.returned (.bool a) = .returned (.bool b) := by rw [h]

theorem floatOfInt_lt (n : Int) : floatOfInt .f64 n < 18446744073709551616 ∧ isN (floatOfInt .f64 n) = false := by
  have := write_num (d := .number (n < 0) n.natAbs 0) rfl
  exact ⟨this.2, this.1⟩

def gtC (a b : Option Nat) : Bool := match a, b with | some x, some y => decide (key y < key x) | _, _ => false

theorem gt_cn {x y : Nat} (hx : x < 18446744073709551616) (hy : y < 18446744073709551616) : (FloatKind.f64.format.order x y == some .gt) = gtC (cn x) (cn y) := by
  rw [ord_at x y hx hy]
  unfold cn gtC
  cases nx : isN x <;> cases ny : isN y <;> simp
  exact cmp_gt

theorem over_any (a b : Int) (f : Nat) (w : World) :
    Calls Tryz.prog 127 #[.int .i64 a, .float .f64 f, .int .i64 b] w fun e w' => e = .returned (.bool (gtC (opC .mul (cn (floatOfInt .f64 a)) (cn f)) (cn (floatOfInt .f64 b)))) ∧ ∃ n, w' = w.drewN n := by
  obtain ⟨r, m, h, hr, hc⟩ := run_arith (P := Tryz.prog) .mul (by simp) (floatOfInt .f64 a) f w
  have hg := gt_cn hr (floatOfInt_lt b).1
  rw [hc] at hg
  have HG := Lib.hid hg
  clear hr hc hg
  go_enter Tryz.func127, Tryz.ntmps127
  go_wp2
  go_ret
  exact ⟨ret_bool' HG.out, m, rfl⟩

theorem part_any (f : Nat) (hf : f < 18446744073709551616) (w : World) :
    Calls Tryz.prog 76 #[.float .f64 f] w fun e w' => e = .returned (.float .f64 (fixB f 0 4607182418800017408 0)) ∧ w = w' := by
  have l1 := Lib.hid (fun w => fix_any f 0 4607182418800017408 0 hf (by omega) (by omega) w)
  clear hf
  go_enter Tryz.func76, Tryz.ntmps76
  go_wp2_with fail
  refine (l1.out _).mono ?_
  rintro e w' ⟨rfl, rfl⟩
  go_wp2
  go_ret
  exact ⟨rfl, rfl⟩

def clampI (n lo hi : Int) : Int := if n < lo then lo else if hi < n then hi else n

theorem clamp_any (n lo hi : Int) (w : World) : Calls Tryz.prog 38 #[.int .i64 n, .int .i64 lo, .int .i64 hi] w fun e w' => e = .returned (.int .i64 (clampI n lo hi)) ∧ w = w' := by
  have hC : clampI n lo hi = if n < lo then lo else if hi < n then hi else n := rfl
  by_cases h1 : n < lo
  · rw [if_pos h1] at hC
    have HC := Lib.hid hC
    clear hC
    go_enter Tryz.func38, Tryz.ntmps38
    go_wp2
    go_ret
    exact ⟨congrArg (fun x : Int => Ending.returned (.int .i64 x)) HC.out.symm, rfl⟩
  · rw [if_neg h1] at hC
    by_cases h2 : hi < n
    · rw [if_pos h2] at hC
      have HC := Lib.hid hC
      clear hC
      go_enter Tryz.func38, Tryz.ntmps38
      go_wp2
      go_ret
      exact ⟨congrArg (fun x : Int => Ending.returned (.int .i64 x)) HC.out.symm, rfl⟩
    · rw [if_neg h2] at hC
      have HC := Lib.hid hC
      clear hC
      go_enter Tryz.func38, Tryz.ntmps38
      go_wp2
      go_ret
      exact ⟨congrArg (fun x : Int => Ending.returned (.int .i64 x)) HC.out.symm, rfl⟩

theorem share_at (n : Int) (f p : Nat) (k : Int) (hf : f < 18446744073709551616) (h1 : floatBits .mul .f64 (floatOfInt .f64 (clampI n 0 2147483648)) (fixB f 0 4607182418800017408 0) = some p) (h2 : floatToIntVal .f64 p .i64 = some k) (w : World) :
    Calls Tryz.prog 58 #[.int .i64 n, .float .f64 f] w fun e w' => e = .returned (.int .i64 k) ∧ w = w' := by
  have c1 := Lib.hid (fun w => clamp_any n 0 2147483648 w)
  have l1 := Lib.hid (fun w => part_any f hf w)
  have ra := fun w T => run_float_arith (P := Tryz.prog) w .mul T .f64 _ _ p h1
  have rc := fun w => run_convert_float_int (P := Tryz.prog) w 26 3 .f64 .i64 p k (by rw [Tryz.underlying26]; rfl) Tryz.underlying3 h2
  clear hf h1 h2
  go_enter Tryz.func58, Tryz.ntmps58
  go_wp2_with fail
  refine (c1.out _).mono ?_
  rintro e w' ⟨rfl, rfl⟩
  go_wp2_with fail
  refine (l1.out _).mono ?_
  rintro e w' ⟨rfl, rfl⟩
  go_wp2
  go_ret
  exact ⟨rfl, rfl⟩

theorem rank_nonneg {x : Nat} (h : x < 9218868437227405313) : rank x = x + 9223372036854775808 := by
  unfold rank
  rw [if_neg (by unfold isN; simp; omega), if_neg (by unfold neg; simp; omega)]

/-- A float fixed between 0 and 1. -/
theorem fix01 (f : Nat) (hf : f < 18446744073709551616) : fixB f 0 4607182418800017408 0 ≤ 4607182418800017408 := by
  unfold fixB
  cases h1 : isN f
  · cases h2 : ltB f 0
    · cases h3 : ltB 4607182418800017408 f
      · simp
        unfold ltB at h2 h3
        rw [rank_nonneg (x := 0) (by omega)] at h2
        rw [rank_nonneg (x := 4607182418800017408) (by omega)] at h3
        have h4 := rank_num hf h1
        have h5 := rung_le h1
        simp at h2 h3
        cases h6 : neg f
        · rw [h6] at h4
          have := neg_iff f; rw [h6] at this; simp at this
          have h7 : rung f = f := rung_of_lt this
          simp at h4; omega
        · rw [h6] at h4; simp at h4; omega
      · simp
    · simp
  · simp

theorem fix01_mono {a b : Nat} (ha : a < 18446744073709551616) (hb : b < 18446744073709551616) (na : isN a = false) (nb : isN b = false) (h : ltB a b = true) : fixB a 0 4607182418800017408 0 ≤ fixB b 0 4607182418800017408 0 := by
  have r0 : rank 0 = 9223372036854775808 := rank_nonneg (by omega)
  have r1 : rank 4607182418800017408 = 13830554455654793216 := rank_nonneg (by omega)
  have ra := rank_num ha na
  have rb := rank_num hb nb
  have ka : neg a = false → rung a = a := fun hh => by have := neg_iff a; rw [hh] at this; simp at this; exact rung_of_lt this
  have kb : neg b = false → rung b = b := fun hh => by have := neg_iff b; rw [hh] at this; simp at this; exact rung_of_lt this
  have la := rung_le na
  have lb := rung_le nb
  unfold fixB ltB at *
  rw [r0, r1, na, nb]
  simp only [decide_eq_true_eq, Bool.false_eq_true, if_false] at *
  cases hna : neg a <;> cases hnb : neg b <;> rw [hna] at ra ka <;> rw [hnb] at rb kb <;> simp at ra rb ka kb <;> (repeat' split) <;> omega

def shareI (n : Int) (f : Nat) : Int := (shareN (clampI n 0 2147483648).toNat (fixB f 0 4607182418800017408 0) : Nat)

theorem clampI_bd (n : Int) : 0 ≤ clampI n 0 2147483648 ∧ clampI n 0 2147483648 ≤ 2147483648 := by unfold clampI; (repeat' split) <;> omega

theorem share_mul (n : Int) (f : Nat) (hf : f < 18446744073709551616) : floatBits .mul .f64 (floatOfInt .f64 (clampI n 0 2147483648)) (fixB f 0 4607182418800017408 0) = some (near (mag (near (clampI n 0 2147483648).toNat 0) * mag (fixB f 0 4607182418800017408 0)) (-2148)) := by
  have hb := clampI_bd n
  have hq := fix01 f hf
  obtain ⟨m, hm⟩ : ∃ m : Nat, clampI n 0 2147483648 = m := ⟨(clampI n 0 2147483648).toNat, by omega⟩
  rw [hm, ofInt_near, Int.toNat_natCast]
  exact mul_near (near_lt (by omega)) (by omega)

theorem share_int (n : Int) (f : Nat) (hf : f < 18446744073709551616) : floatToIntVal .f64 (near (mag (near (clampI n 0 2147483648).toNat 0) * mag (fixB f 0 4607182418800017408 0)) (-2148)) .i64 = some (shareI n f) := by
  have hb := clampI_bd n
  have hq := fix01 f hf
  have h1 := prod_lt (n := (clampI n 0 2147483648).toNat) (q := fixB f 0 4607182418800017408 0) (by omega) hq
  have h2 := shareN_le (n := (clampI n 0 2147483648).toNat) (q := fixB f 0 4607182418800017408 0) (by omega) hq
  exact toInt_word h1 (by unfold shareN at h2; omega)

theorem share_any (n : Int) (f : Nat) (hf : f < 18446744073709551616) (w : World) :
    Calls Tryz.prog 58 #[.int .i64 n, .float .f64 f] w fun e w' => e = .returned (.int .i64 (shareI n f)) ∧ w = w' :=
  share_at n f _ _ hf (share_mul n f hf) (share_int n f hf) w

theorem shareI_bd (n : Int) (f : Nat) (hf : f < 18446744073709551616) : 0 ≤ shareI n f ∧ shareI n f ≤ max n 0 ∧ shareI n f ≤ 2147483648 := by
  have hb := clampI_bd n
  have hq := fix01 f hf
  have h2 := shareN_le (n := (clampI n 0 2147483648).toNat) (q := fixB f 0 4607182418800017408 0) (by omega) hq
  unfold shareI
  have h3 : clampI n 0 2147483648 ≤ max n 0 := by unfold clampI; (repeat' split) <;> omega
  omega

theorem shareI_mono (n : Int) {a b : Nat} (ha : a < 18446744073709551616) (hb : b < 18446744073709551616) (na : isN a = false) (nb : isN b = false) (h : ltB a b = true) : shareI n a ≤ shareI n b := by
  unfold shareI
  have := shareN_mono (clampI n 0 2147483648).toNat (fix01_mono ha hb na nb h)
  omega

end Go.Proofs.YtbgknopjgohocaaGreat
