/- The program's order of slots: each call on any slot; plain laws of rows; how a row of acts is read. -/
import Derived.Test.YtdbgehplmllgdaaGreatSb
import Derived.ProofKit
import Derived.Deep.Slices
namespace Go.Proofs.YtdbgehplmllgdaaGreat
open Go.RowKit Fl Go.Deep Go.ChangeShapes Go.WideShapes Go.ChangeAt
set_option linter.unusedVariables false

/-! ### Each call, on any number -/
abbrev RowS := Bool × List Nat × List Nat
def enS (n : Nat) (m : Int) (low high : List Nat) : RowS := if 0 ≤ m ∧ m < n then (true, wo m.toNat low ++ [m.toNat], wo m.toNat high) else (false, low, high)
def lvS (m : Int) (low high : List Nat) : RowS := if (inI m low || inI m high) = true then (true, wo m.toNat low, wo m.toNat high) else (false, low, high)
def toS (most : Nat) (m : Int) (low high : List Nat) : RowS := if (inI m low || inI m high) = true then (true, (touchL most m.toNat low high).1, (touchL most m.toNat low high).2) else (false, low, high)

section
variable {S : Nat → Prop} {w : World} {b n most : Nat} {low high : List Nat}

theorem SlO.same (h : SlO b n most low high S w) {w' : World} (e : w = w') : SlO b n most low high (Ext S w w') w' ∧ Keeps S w w' := by
  subst e
  exact ⟨Rep.mono h (fun k x => .inl x), Keeps.refl _ _⟩

theorem inI_or {m : Int} {low high : List Nat} : (inI m low || inI m high) = true ↔ ∃ k : Nat, m = (k : Int) ∧ (k ∈ low ∨ k ∈ high) := by
  unfold inI
  constructor
  · intro h
    simp at h
    rcases h with ⟨h0, h1⟩ | ⟨h0, h1⟩
    · exact ⟨m.toNat, by omega, .inl h1⟩
    · exact ⟨m.toNat, by omega, .inr h1⟩
  · rintro ⟨k, rfl, h⟩
    simp
    exact h

theorem sl_enter_any (h : SlO b n most low high S w) (m : Int) :
    Calls Tryz.prog 58 #[.pointer (some ⟨b, 0, none⟩), .int .i64 m] w fun e w' => e = .returned (.bool (enS n m low high).1) ∧ SlO b n most (enS n m low high).2.1 (enS n m low high).2.2 (Ext S w w') w' ∧ Keeps S w w' := by
  unfold enS
  by_cases hm : 0 ≤ m ∧ m < n
  · rw [if_pos hm]
    obtain ⟨k, rfl⟩ : ∃ k : Nat, m = (k : Int) := ⟨m.toNat, by omega⟩
    exact sl_enter h k (by omega)
  · rw [if_neg hm]
    exact (sl_enter_no h m hm).mono fun e w' ⟨he, hw⟩ => ⟨he, h.same hw⟩

theorem sl_leave_any (h : SlO b n most low high S w) (m : Int) :
    Calls Tryz.prog 60 #[.pointer (some ⟨b, 0, none⟩), .int .i64 m] w fun e w' => e = .returned (.bool (lvS m low high).1) ∧ SlO b n most (lvS m low high).2.1 (lvS m low high).2.2 (Ext S w w') w' ∧ Keeps S w w' := by
  have oi := h.oinv
  unfold lvS
  by_cases hi : (inI m low || inI m high) = true
  · rw [if_pos hi]
    obtain ⟨k, rfl, hk⟩ := inI_or.1 hi
    exact sl_leave h k (hk.elim (oi.ll k) (oi.hl k)) hk
  · rw [if_neg hi]
    by_cases hm : 0 ≤ m ∧ m < n
    · obtain ⟨k, rfl⟩ : ∃ k : Nat, m = (k : Int) := ⟨m.toNat, by omega⟩
      exact (sl_leave_none h k (by omega) (fun x => hi (inI_or.2 ⟨k, rfl, x⟩))).mono fun e w' ⟨he, hw⟩ => ⟨he, h.same hw⟩
    · exact (sl_leave_no h m hm).mono fun e w' ⟨he, hw⟩ => ⟨he, h.same hw⟩

theorem sl_touch_any (h : SlO b n most low high S w) (m : Int) :
    Calls Tryz.prog 57 #[.pointer (some ⟨b, 0, none⟩), .int .i64 m] w fun e w' => e = .returned (.bool (toS most m low high).1) ∧ SlO b n most (toS most m low high).2.1 (toS most m low high).2.2 (Ext S w w') w' ∧ Keeps S w w' := by
  have oi := h.oinv
  unfold toS
  by_cases hi : (inI m low || inI m high) = true
  · rw [if_pos hi]
    obtain ⟨k, rfl, hk⟩ := inI_or.1 hi
    exact sl_touch h k (hk.elim (oi.ll k) (oi.hl k)) hk
  · rw [if_neg hi]
    simp only [Bool.or_eq_true, not_or, Bool.not_eq_true] at hi
    exact (sl_touch_not h m hi.1 hi.2).mono fun e w' ⟨he, hw⟩ => ⟨he, h.same hw⟩
end

/-! ### Plain laws -/
theorem wo_le (m : Nat) (l : List Nat) : (wo m l).length ≤ l.length := List.length_filter_le _ _
theorem touch_cap (most m : Nat) (low high : List Nat) (h : high.length ≤ most) : (touchL most m low high).2.length ≤ most := by
  unfold touchL
  have := wo_le m high
  split
  · assumption
  · simp; omega
theorem touch_last (most m : Nat) (low high : List Nat) (h : high.length ≤ most) (h0 : 0 < most) : ∃ Q, (touchL most m low high).2 = Q ++ [m] := by
  unfold touchL
  have := wo_le m high
  split
  · exact ⟨_, rfl⟩
  · rename_i hx
    simp at hx
    cases hw : wo m high with
    | nil => rw [hw] at hx; simp at hx; omega
    | cons a l => exact ⟨l, rfl⟩
theorem head_ne {l h Q : List Nat} {m n : Nat} (oi : OInv n l h) (hq : h = Q ++ [m]) (hl : 1 < l.length + h.length) : (l ++ h).headD 0 ≠ m := by
  subst hq
  cases l with
  | nil =>
    cases Q with
    | nil => simp at hl
    | cons a Q =>
      show a ≠ m
      rintro rfl
      have := oi.h1
      simp at this
  | cons a l =>
    show a ≠ m
    rintro rfl
    exact oi.apart a (by simp) (by simp)
theorem enS_cap {n most : Nat} {m : Int} {low high : List Nat} (h : high.length ≤ most) : (enS n m low high).2.2.length ≤ most := by
  unfold enS
  have := wo_le m.toNat high
  split
  · show (wo m.toNat high).length ≤ most; omega
  · exact h
theorem lvS_cap {most : Nat} {m : Int} {low high : List Nat} (h : high.length ≤ most) : (lvS m low high).2.2.length ≤ most := by
  unfold lvS
  have := wo_le m.toNat high
  split
  · show (wo m.toNat high).length ≤ most; omega
  · exact h
theorem toS_cap {most : Nat} {m : Int} {low high : List Nat} (h : high.length ≤ most) : (toS most m low high).2.2.length ≤ most := by
  unfold toS
  split
  · exact touch_cap most _ low high h
  · exact h
theorem toS_last {n most : Nat} {m : Int} {low high : List Nat} (h : high.length ≤ most) (h0 : 0 < most) (ht : (toS most m low high).1 = true) (oi : OInv n (toS most m low high).2.1 (toS most m low high).2.2)
    (hl : 1 < (toS most m low high).2.1.length + (toS most m low high).2.2.length) : ((((toS most m low high).2.1 ++ (toS most m low high).2.2).headD 0 : Nat) : Int) ≠ m := by
  unfold toS at *
  by_cases hi : (inI m low || inI m high) = true
  · rw [if_pos hi] at *
    obtain ⟨k, rfl, hk⟩ := inI_or.1 hi
    obtain ⟨Q, hQ⟩ := touch_last most k low high h h0
    have := head_ne (m := k) oi hQ hl
    intro hx
    exact this (by exact_mod_cast hx)
  · rw [if_neg hi] at ht
    exact absurd ht (by simp)

def cntH (h : List Nat) (s : Nat) : Nat := ((List.range s).filter (fun x => decide (x ∈ h))).length
theorem cntH_succ (h : List Nat) (s : Nat) : cntH h (s + 1) = cntH h s + if s ∈ h then 1 else 0 := by
  unfold cntH
  rw [List.range_succ, List.filter_append, List.length_append]
  by_cases hs : s ∈ h <;> simp [hs]
theorem cntH_le (h : List Nat) (s : Nat) : cntH h s ≤ s := by
  have := List.length_filter_le (fun x => decide (x ∈ h)) (List.range s)
  rwa [List.length_range] at this
theorem cntH_full {h : List Nat} {n : Nat} (hn : h.Nodup) (hl : ∀ x ∈ h, x < n) : cntH h n = h.length := by
  unfold cntH
  refine List.Perm.length_eq ((List.perm_ext_iff_of_nodup ((List.nodup_range (n := n)).filter _) hn).2 fun a => ?_)
  simp
  exact hl a

theorem vic_cases {n : Nat} {l h : List Nat} (oi : OInv n l h) : ((l ++ h).isEmpty = true ∧ l.length + h.length = 0) ∨ ((l ++ h).isEmpty = false ∧ inI (((l ++ h).headD 0 : Nat) : Int) h = false) ∨
    ((l ++ h).isEmpty = false ∧ inI (((l ++ h).headD 0 : Nat) : Int) h = true ∧ l.length = 0) := by
  simp only [inI_nat]
  cases l with
  | nil =>
    cases h with
    | nil => exact .inl ⟨rfl, rfl⟩
    | cons a h => exact .inr (.inr ⟨rfl, decide_eq_true (List.mem_cons_self), rfl⟩)
  | cons a l => exact .inr (.inl ⟨rfl, decide_eq_false (oi.apart a List.mem_cons_self)⟩)

/-! ### A row of acts -/
def Act2 (w : World) (a : Option Addr) (n : Nat) (K Y : Nat → Int) : Prop :=
  0 < n → ∃ b off, a = some ⟨b, off, none⟩ ∧ ∀ i, i < n → w.cell? ⟨b, off + i * 2, none⟩ = some (.int .i64 (K i)) ∧ w.cell? ⟨b, off + i * 2 + 1, none⟩ = some (.int .i64 (Y i))

theorem cellsIntE : Tryz.prog.cellsOf 3 = 1 := by kernel_rfl
end Go.Proofs.YtdbgehplmllgdaaGreat
