/- The watch of chapter 24 as plain Lean: what a watch holds, what noting does, what the document says of all reads; that both agree. No condition. -/
import Derived.Test.YtlilnffcnjajdaaHp
namespace Go.Proofs.Ytlilnffcnjajdaa.Scan

structure Wt where
  long : Int
  last : Option Int
  row : Int
  scans : Int

def goes (last : Option Int) (lba : Int) : Bool :=
  match last with
  | none => false
  | some v => v != 9223372036854775807 && v + 1 == lba

def rowOf (x : Wt) (lba : Int) : Int := (if goes x.last lba then x.row else 0) + 1
def scansOf (x : Wt) (lba : Int) : Int := if 0 < x.long ∧ rowOf x lba = x.long then x.scans + 1 else x.scans
def note (x : Wt) (lba : Int) : Wt := { x with last := some lba, row := rowOf x lba, scans := scansOf x lba }
def isB (x : Wt) (lba : Int) : Bool := decide (0 < x.long ∧ x.long ≤ rowOf x lba)

/-- How many reads the row has behind k reads of z. -/
def rowN (z : Nat → Int) : Nat → Nat
  | 0 => 0
  | 1 => 1
  | k + 2 => if z k + 1 = z (k + 1) then rowN z (k + 1) + 1 else 1

def isN (z : Nat → Int) (long : Int) (k : Nat) : Bool := decide (0 < long ∧ long ≤ rowN z k)

def scansN (z : Nat → Int) (long : Int) : Nat → Nat
  | 0 => 0
  | k + 1 => scansN z long k + if 0 < long ∧ (rowN z (k + 1) : Int) = long then 1 else 0

theorem rowN_le (z : Nat → Int) : ∀ k, rowN z k ≤ k
  | 0 => by simp [rowN]
  | 1 => by simp [rowN]
  | k + 2 => by have := rowN_le z (k + 1); simp only [rowN]; split <;> omega

theorem scansN_le (z : Nat → Int) (long : Int) : ∀ k, scansN z long k ≤ k
  | 0 => by simp [scansN]
  | k + 1 => by have := scansN_le z long k; simp only [scansN]; split <;> omega

theorem rowN_stop {z : Nat → Int} {k : Nat} (h : k = 0 ∨ ¬ (z (k - 1) + 1 = z k)) : rowN z (k + 1) = 1 := by
  cases k with
  | zero => rfl
  | succ j => simp only [rowN]; exact if_neg (by rcases h with h | h; omega; simpa using h)

theorem rowN_go {z : Nat → Int} {k : Nat} (h0 : k ≠ 0) (h : z (k - 1) + 1 = z k) : rowN z (k + 1) = rowN z k + 1 := by
  cases k with
  | zero => omega
  | succ j => simp only [rowN]; exact if_pos (by simpa using h)

/-- The watch behind k reads of z, begun with some count of scans. -/
def after (long s0 : Int) (z : Nat → Int) (k : Nat) : Wt :=
  { long := long, last := if k = 0 then none else some (z (k - 1)), row := rowN z k, scans := s0 + scansN z long k }

theorem goes_z (z : Nat → Int) (k : Nat) (hz : z k ≤ 9223372036854775807) : goes (if k = 0 then none else some (z (k - 1))) (z k) = decide (k ≠ 0 ∧ z (k - 1) + 1 = z k) := by
  by_cases h : k = 0
  · simp [h, goes]
  · rw [if_neg h]
    simp only [goes]
    rw [Bool.eq_iff_iff]
    simp [h]
    omega

theorem rowOf_after (long s0 : Int) (z : Nat → Int) (k : Nat) (hz : z k ≤ 9223372036854775807) : rowOf (after long s0 z k) (z k) = rowN z (k + 1) := by
  unfold rowOf
  show (if goes (if k = 0 then none else some (z (k - 1))) (z k) = true then (rowN z k : Int) else 0) + 1 = _
  rw [goes_z z k hz]
  by_cases h : k ≠ 0 ∧ z (k - 1) + 1 = z k
  · rw [if_pos (by simpa using h), rowN_go h.1 h.2]; omega
  · rw [if_neg (by simpa using h), rowN_stop (by omega)]; omega

theorem note_after (long s0 : Int) (z : Nat → Int) (k : Nat) (hz : z k ≤ 9223372036854775807) : note (after long s0 z k) (z k) = after long s0 z (k + 1) := by
  unfold note scansOf
  rw [rowOf_after long s0 z k hz]
  simp only [after, scansN]
  congr 1
  show (if 0 < long ∧ (rowN z (k + 1) : Int) = long then s0 + scansN z long k + 1 else s0 + scansN z long k) = _
  split <;> omega

theorem isB_after (long s0 : Int) (z : Nat → Int) (k : Nat) (hz : z k ≤ 9223372036854775807) : isB (after long s0 z k) (z k) = isN z long (k + 1) := by
  unfold isB isN
  rw [rowOf_after long s0 z k hz]
  rfl

end Go.Proofs.Ytlilnffcnjajdaa.Scan
