/- Several texts of this claim, one behind the other. -/
import Derived.Test.YtbgknopjgohocaaGreatZD
import Derived.Test.YtbgknopjgohocaaGreatRv
import Derived.Test.YtbgknopjgohocaaGreatSm
import Derived.OwnWalk
import Derived.Laws.AppendOwnNone
import Derived.ProofKit
import Derived.Deep.Slices

/- All slots of an order; two rows of numbers held side by side. -/
namespace Go.Proofs.YtbgknopjgohocaaGreat
open Go.RowKit
set_option linter.unusedVariables false

theorem own_keep {S : Nat → Prop} {w w' : World} {base : Nat} {e : TypeId} {size : Nat} {v : Value} {n : Nat} {xs : List Value} (h : w.ownsRow base e size v n xs) (k : Keeps S w w') (hS : ∀ j, v.ownBlock = some j → ¬ S j) : w'.ownsRow base e size v n xs := by
  refine ⟨h.1, h.2.imp id (fun ⟨g, cap, cur, e, hb, hh, r⟩ => ⟨g, cap, cur, e, hb, ?_, r⟩)⟩
  subst e
  exact k.blk hh (hS g rfl)
theorem own_lt {w : World} {base : Nat} {e : TypeId} {size : Nat} {v : Value} {n : Nat} {xs : List Value} (h : w.ownsRow base e size v n xs) : ∀ j, v.ownBlock = some j → j < w.heap.size := fun j ej => by
  rcases h.2 with ⟨rfl, _⟩ | ⟨g, cap, cur, rfl, _, hh, _⟩
  · simp [Value.ownBlock] at ej
  · obtain rfl : g = j := by simpa [Value.ownBlock] using ej
    exact blk_lt' hh
theorem own_ge {w : World} {base : Nat} {e : TypeId} {size : Nat} {v : Value} {n : Nat} {xs : List Value} (h : w.ownsRow base e size v n xs) : ∀ j, v.ownBlock = some j → base ≤ j := fun j ej => by
  rcases h.2 with ⟨rfl, _⟩ | ⟨g, cap, cur, rfl, hb, _, _⟩
  · simp [Value.ownBlock] at ej
  · obtain rfl : g = j := by simpa [Value.ownBlock] using ej
    exact hb

/-- The row at hand, cell by cell. -/
theorem own_arr {w : World} {base : Nat} {e : TypeId} {v : Value} {l : List Nat} (h : w.ownsRow base e 1 v l.length (l.map intV)) (hl : l ≠ []) :
    ∃ g cap F, v = .slice (some ⟨g, 0, none⟩) l.length cap ∧ base ≤ g ∧ Arr w g e cap F ∧ l.length ≤ cap ∧ ∀ i, i < l.length → F i = .int .i64 ((l.getD i 0 : Nat) : Int) := by
  rcases h.2 with ⟨_, h0⟩ | ⟨g, cap, cur, rfl, hb, hh, hc, _, hs, ht⟩
  · exact absurd (List.eq_nil_of_length_eq_zero h0) hl
  · refine ⟨g, cap, fun i => cur.getD i undef, rfl, hb, ⟨cur, hh, by omega, fun i hi => ?_⟩, hc, fun i hi => ?_⟩
    · have : i < cur.size := by omega
      simp [Array.getD, this]
    · have h1 : (cur.toList.take (l.length * 1))[i]? = (l.map intV)[i]? := by rw [ht]
      rw [List.getElem?_take_of_lt (by omega)] at h1
      have h2 : i < cur.size := by omega
      simp [h2, hi] at h1
      simp [Array.getD, h2, h1, intV, hi]

/-- A box, and the row that it holds, where the row has grown: no new block ahead. -/
theorem boxed_more0 {W w1 : World} {nb B : Nat} {t e : TypeId} {size : Nat} {v v' : Value} {k m : Nat} {xs ys : List Value}
    (hv : Boxed W B t v) (hte : t ≠ e) (hrow : W.ownsRow nb e size v k xs) (hown' : w1.ownsRow nb e size v' m ys) (hgrow : W.grownBy w1 v.ownBlock) :
    Boxed w1 B t v ∧ Boxed (w1.setCell ⟨B, 0, none⟩ v') B t v' ∧ (w1.setCell ⟨B, 0, none⟩ v').ownsRow nb e size v' m ys ∧
      ∀ T : Nat → Prop, (∀ j, T j → j < nb ∧ j ≠ B) → KT T W (w1.setCell ⟨B, 0, none⟩ v') := by
  have hv1 : Boxed w1 B t v := hv.kept hgrow (hv.not_row hte hrow)
  refine ⟨hv1, hv1.set v', hown'.kept (grownBy_setCell' w1 B v') (.inr (hv1.not_row hte hown').symm), fun T hT => ?_⟩
  exact ((Keeps.refl _ W).grown hgrow (fun j ej => .inl (fun x => by have := own_ge hrow j ej; have := (hT j x).1; omega))).setCell (p := ⟨B, 0, none⟩) (.inl (fun x => (hT B x).2 rfl)) v'

theorem own_slice {w : World} {base : Nat} {e : TypeId} {size : Nat} {v : Value} {n : Nat} {xs : List Value} (h : w.ownsRow base e size v n xs) : ∃ A c, v = .slice A n c := by
  rcases h.2 with ⟨rfl, rfl⟩ | ⟨g, cap, cur, rfl, _⟩
  · exact ⟨_, _, rfl⟩
  · exact ⟨_, _, rfl⟩

theorem KT.refl (T : Nat → Prop) (w : World) : KT T w w := Keeps.refl _ _

/-- What a slice tells: a row of numbers. -/
def RdI (w : World) (v : Value) (l : List Nat) : Prop :=
  ∃ A c, v = .slice A l.length c ∧ (l = [] ∨ ∃ g, A = some ⟨g, 0, none⟩ ∧ ∀ i, i < l.length → w.cell? ⟨g, i, none⟩ = some (.int .i64 ((l.getD i 0 : Nat) : Int)))
theorem rdI_of {w : World} {base : Nat} {e : TypeId} {v : Value} {l : List Nat} (h : w.ownsRow base e 1 v l.length (l.map intV)) : RdI w v l := by
  by_cases hl : l = []
  · obtain ⟨A, c, rfl⟩ := own_slice h
    exact ⟨A, c, rfl, .inl hl⟩
  · obtain ⟨g, cap, F, rfl, _, hA, hc, hF⟩ := own_arr h hl
    exact ⟨_, _, rfl, .inr ⟨g, rfl, fun i hi => by rw [hA.cell (by omega), hF i hi]⟩⟩
theorem RdI.below {w w' : World} {v : Value} {l : List Nat} (h : RdI w v l) (k : Below w.heap.size w w') : RdI w' v l := by
  obtain ⟨A, c, e, h⟩ := h
  exact ⟨A, c, e, h.imp id (fun ⟨g, eg, hc⟩ => ⟨g, eg, fun i hi => (k.cell (World.block_lt_of_cell? w _ (hc i hi))).trans (hc i hi)⟩)⟩

/-- Two rows held side by side. -/
theorem same_rows {w : World} {v u : Value} {l m : List Nat} (hv : RdI w v l) (hu : RdI w u m) (hl : l.length ≤ 1048576) (hm : m.length ≤ 1048576) :
    Calls Tryz.prog 11 #[v, u] w fun e w' => e = .returned (.bool (decide (l = m))) ∧ ∃ k, w' = w.drewN k := by
  obtain ⟨A, c, rfl, hA⟩ := hv
  obtain ⟨B, d, rfl, hB⟩ := hu
  by_cases hlen : l.length = m.length
  · have hB' : m = [] ∨ ∃ g, B = some ⟨g, 0, none⟩ ∧ ∀ i, i < l.length → w.cell? ⟨g, i, none⟩ = some (.int .i64 ((m.getD i 0 : Nat) : Int)) := by rw [hlen]; exact hB
    have fin : ∀ k, l.length ≤ k → (∀ i, i < k → l.getD i 0 = m.getD i 0) → decide (l = m) = true := fun k hk h => decide_eq_true (List.ext_getElem hlen (fun i h1 h2 => by
      have := h i (by omega)
      simpa [List.getD_eq_getElem?_getD, h1, h2] using this))
    have dif : ∀ k, l.getD k 0 ≠ m.getD k 0 → decide (l = m) = false := fun k h => decide_eq_false (fun e => h (by rw [e]))
    rw [← hlen]
    have HL := Lib.hid hlen
    have HA := Lib.hid hA
    have HB := Lib.hid hB'
    have FIN := Lib.hid fin
    have DIF := Lib.hid dif
    have y1 : (l.length : Int) ≤ 1048576 := by omega
    clear hlen hA hB hB' fin dif
    go_enter Tryz.func11, Tryz.ntmps11
    go_wp2
    go_loopw [5] (fun i wr => ∃ k j : Nat, k ≤ l.length ∧ i = .int .i64 (k : Int) ∧ (∀ i, i < k → l.getD i 0 = m.getD i 0) ∧ wr = w.drewN j) (fun i _ => l.length - (intOf i).toNat)
    case atStart => exact ⟨0, 0, Nat.zero_le _, rfl, fun i h => absurd h (Nat.not_lt_zero i), rfl⟩
    case round =>
      obtain ⟨k, j, hk, rfl, he, hwr⟩ := hrel
      have HE := Lib.hid he
      by_cases hc : k < l.length
      · have hA := HA.out
        have hB := HB.out
        have hml : m.length ≠ 0 := by have := HL.out; omega
        rcases hA with e | ⟨gA, rfl, cA⟩
        · rw [e] at hc; exact absurd hc (Nat.not_lt_zero k)
        rcases hB with e | ⟨gB, rfl, cB⟩
        · rw [e] at hml; exact absurd rfl hml
        have a1 : wr.cell? ⟨gA, k, none⟩ = some (.int .i64 ((l.getD k 0 : Nat) : Int)) := by rw [hwr]; exact cA k hc
        have a2 : wr.cell? ⟨gB, k, none⟩ = some (.int .i64 ((m.getD k 0 : Nat) : Int)) := by rw [hwr]; exact cB k hc
        have x1 : (k : Int) < (l.length : Int) := by omega
        have x2 : (k : Int) + 1 ≤ 1048577 := by omega
        have HW := Lib.hid hwr
        obtain ⟨a, ea⟩ : ∃ a, a = l.getD k 0 := ⟨_, rfl⟩
        obtain ⟨b, eb⟩ : ∃ b, b = m.getD k 0 := ⟨_, rfl⟩
        rw [← ea] at a1
        rw [← eb] at a2
        have EA := Lib.hid ea
        have EB := Lib.hid eb
        clear he cA cB hwr ea eb hml
        by_cases hab : a = b
        · subst hab
          go_wp2_with fail
          go_quiet (fail)
          go_wp2
          go_roundw
          case rel =>
            refine ⟨k + 1, j + nq, by omega, by simp, fun i hi => ?_, by rw [HW.out, World.drewN_drewN]⟩
            by_cases e : i = k
            · subst e; rw [← EA.out, ← EB.out]
            · exact HE.out i (by omega)
          case measure => simp only [intOf]; omega
        · have n1 : ((a : Int) == (b : Int)) = false := beq_eq_false_iff_ne.2 (by omega)
          have n2 : ((a : Int) != (b : Int)) = true := by rw [bne_iff_ne]; omega
          have n3 : (a == b) = false := beq_eq_false_iff_ne.2 hab
          have n4 : (a != b) = true := by rw [bne_iff_ne]; exact hab
          have D := Lib.hid (DIF.out k (by rw [← EA.out, ← EB.out]; exact hab))
          clear hab
          go_wp2_with fail
          go_quiet (fail)
          go_wp2
          go_ret
          refine ⟨?_, j + nq, by rw [HW.out, World.drewN_drewN]⟩
          rw [D.out]; rfl
      · have x1 : ¬ (k : Int) < (l.length : Int) := by omega
        have F := Lib.hid (FIN.out k (by omega) he)
        have HW := Lib.hid hwr
        clear he hwr
        go_wp2
        go_ret
        refine ⟨?_, j, HW.out⟩
        rw [F.out]; rfl
  · have h1 : decide (l = m) = false := decide_eq_false (fun e => hlen (by rw [e]))
    have h2 : ((l.length : Int) == (m.length : Int)) = false := beq_eq_false_iff_ne.2 (by omega)
    have h3 : ((l.length : Int) != (m.length : Int)) = true := by rw [bne_iff_ne]; omega
    have h4 : (l.length == m.length) = false := beq_eq_false_iff_ne.2 hlen
    rw [h1]
    clear h1 hA hB hlen
    go_enter Tryz.func11, Tryz.ntmps11
    go_wp2
    go_ret
    exact ⟨rfl, 0, rfl⟩

end Go.Proofs.YtbgknopjgohocaaGreat


/- All slots of an order: All; the page's example of chapter 22. -/
namespace Go.Proofs.YtbgknopjgohocaaGreat
open Go.RowKit Fl
set_option linter.unusedVariables false

theorem below_drewN {n : Nat} {w w' : World} (h : Below n w w') (k : Nat) : Below n w (w'.drewN k) := ⟨h.os, h.tape, h.output, h.size, h.block⟩

theorem aw_share : (2 : Int) = shareI 4 4602678819172646912 := by kernel_rfl

end Go.Proofs.YtbgknopjgohocaaGreat


/- The program's order of slots: each call on any slot; plain laws of rows; how a row of acts is read. -/
namespace Go.Proofs.YtbgknopjgohocaaGreat
open Go.RowKit Fl Go.Deep Go.ChangeShapes Go.WideShapes Go.ChangeAt
set_option linter.unusedVariables false

/-! ### Each call, on any number -/
abbrev RowS := Bool × List Nat × List Nat
def enS (n : Nat) (m : Int) (low high : List Nat) : RowS := if 0 ≤ m ∧ m < n then (true, wo m.toNat low ++ [m.toNat], wo m.toNat high) else (false, low, high)
def lvS (m : Int) (low high : List Nat) : RowS := if (inI m low || inI m high) = true then (true, wo m.toNat low, wo m.toNat high) else (false, low, high)
def toS (most : Nat) (m : Int) (low high : List Nat) : RowS := if (inI m low || inI m high) = true then (true, (touchL most m.toNat low high).1, (touchL most m.toNat low high).2) else (false, low, high)

section
variable {S : Nat → Prop} {w : World} {b n most : Nat} {low high : List Nat}

theorem SlO.same (h : SlO b n most low high S w) {w' : World} (e : w = w') : SlO b n most low high (Ext S w w') w' ∧ Keeps S w w' := by
  subst e
  exact ⟨Rep.mono h (fun k x => .inl x), Keeps.refl _ _⟩

theorem inI_or {m : Int} {low high : List Nat} : (inI m low || inI m high) = true ↔ ∃ k : Nat, m = (k : Int) ∧ (k ∈ low ∨ k ∈ high) := by
  unfold inI
  constructor
  · intro h
    simp at h
    rcases h with ⟨h0, h1⟩ | ⟨h0, h1⟩
    · exact ⟨m.toNat, by omega, .inl h1⟩
    · exact ⟨m.toNat, by omega, .inr h1⟩
  · rintro ⟨k, rfl, h⟩
    simp
    exact h

theorem sl_enter_any (h : SlO b n most low high S w) (m : Int) :
    Calls Tryz.prog 97 #[.pointer (some ⟨b, 0, none⟩), .int .i64 m] w fun e w' => e = .returned (.bool (enS n m low high).1) ∧ SlO b n most (enS n m low high).2.1 (enS n m low high).2.2 (Ext S w w') w' ∧ Keeps S w w' := by
  unfold enS
  by_cases hm : 0 ≤ m ∧ m < n
  · rw [if_pos hm]
    obtain ⟨k, rfl⟩ : ∃ k : Nat, m = (k : Int) := ⟨m.toNat, by omega⟩
    exact sl_enter h k (by omega)
  · rw [if_neg hm]
    exact (sl_enter_no h m hm).mono fun e w' ⟨he, hw⟩ => ⟨he, h.same hw⟩

theorem sl_leave_any (h : SlO b n most low high S w) (m : Int) :
    Calls Tryz.prog 119 #[.pointer (some ⟨b, 0, none⟩), .int .i64 m] w fun e w' => e = .returned (.bool (lvS m low high).1) ∧ SlO b n most (lvS m low high).2.1 (lvS m low high).2.2 (Ext S w w') w' ∧ Keeps S w w' := by
  have oi := h.oinv
  unfold lvS
  by_cases hi : (inI m low || inI m high) = true
  · rw [if_pos hi]
    obtain ⟨k, rfl, hk⟩ := inI_or.1 hi
    exact sl_leave h k (hk.elim (oi.ll k) (oi.hl k)) hk
  · rw [if_neg hi]
    by_cases hm : 0 ≤ m ∧ m < n
    · obtain ⟨k, rfl⟩ : ∃ k : Nat, m = (k : Int) := ⟨m.toNat, by omega⟩
      exact (sl_leave_none h k (by omega) (fun x => hi (inI_or.2 ⟨k, rfl, x⟩))).mono fun e w' ⟨he, hw⟩ => ⟨he, h.same hw⟩
    · exact (sl_leave_no h m hm).mono fun e w' ⟨he, hw⟩ => ⟨he, h.same hw⟩

theorem sl_touch_any (h : SlO b n most low high S w) (m : Int) :
    Calls Tryz.prog 64 #[.pointer (some ⟨b, 0, none⟩), .int .i64 m] w fun e w' => e = .returned (.bool (toS most m low high).1) ∧ SlO b n most (toS most m low high).2.1 (toS most m low high).2.2 (Ext S w w') w' ∧ Keeps S w w' := by
  have oi := h.oinv
  unfold toS
  by_cases hi : (inI m low || inI m high) = true
  · rw [if_pos hi]
    obtain ⟨k, rfl, hk⟩ := inI_or.1 hi
    exact sl_touch h k (hk.elim (oi.ll k) (oi.hl k)) hk
  · rw [if_neg hi]
    simp only [Bool.or_eq_true, not_or, Bool.not_eq_true] at hi
    exact (sl_touch_not h m hi.1 hi.2).mono fun e w' ⟨he, hw⟩ => ⟨he, h.same hw⟩
end

/-! ### Plain laws -/
theorem wo_le (m : Nat) (l : List Nat) : (wo m l).length ≤ l.length := List.length_filter_le _ _
theorem touch_cap (most m : Nat) (low high : List Nat) (h : high.length ≤ most) : (touchL most m low high).2.length ≤ most := by
  unfold touchL
  have := wo_le m high
  split
  · assumption
  · simp; omega
theorem touch_last (most m : Nat) (low high : List Nat) (h : high.length ≤ most) (h0 : 0 < most) : ∃ Q, (touchL most m low high).2 = Q ++ [m] := by
  unfold touchL
  have := wo_le m high
  split
  · exact ⟨_, rfl⟩
  · rename_i hx
    simp at hx
    cases hw : wo m high with
    | nil => rw [hw] at hx; simp at hx; omega
    | cons a l => exact ⟨l, rfl⟩
theorem head_ne {l h Q : List Nat} {m n : Nat} (oi : OInv n l h) (hq : h = Q ++ [m]) (hl : 1 < l.length + h.length) : (l ++ h).headD 0 ≠ m := by
  subst hq
  cases l with
  | nil =>
    cases Q with
    | nil => simp at hl
    | cons a Q =>
      show a ≠ m
      rintro rfl
      have := oi.h1
      simp at this
  | cons a l =>
    show a ≠ m
    rintro rfl
    exact oi.apart a (by simp) (by simp)
theorem enS_cap {n most : Nat} {m : Int} {low high : List Nat} (h : high.length ≤ most) : (enS n m low high).2.2.length ≤ most := by
  unfold enS
  have := wo_le m.toNat high
  split
  · show (wo m.toNat high).length ≤ most; omega
  · exact h
theorem lvS_cap {most : Nat} {m : Int} {low high : List Nat} (h : high.length ≤ most) : (lvS m low high).2.2.length ≤ most := by
  unfold lvS
  have := wo_le m.toNat high
  split
  · show (wo m.toNat high).length ≤ most; omega
  · exact h
theorem toS_cap {most : Nat} {m : Int} {low high : List Nat} (h : high.length ≤ most) : (toS most m low high).2.2.length ≤ most := by
  unfold toS
  split
  · exact touch_cap most _ low high h
  · exact h
theorem toS_last {n most : Nat} {m : Int} {low high : List Nat} (h : high.length ≤ most) (h0 : 0 < most) (ht : (toS most m low high).1 = true) (oi : OInv n (toS most m low high).2.1 (toS most m low high).2.2)
    (hl : 1 < (toS most m low high).2.1.length + (toS most m low high).2.2.length) : ((((toS most m low high).2.1 ++ (toS most m low high).2.2).headD 0 : Nat) : Int) ≠ m := by
  unfold toS at *
  by_cases hi : (inI m low || inI m high) = true
  · rw [if_pos hi] at *
    obtain ⟨k, rfl, hk⟩ := inI_or.1 hi
    obtain ⟨Q, hQ⟩ := touch_last most k low high h h0
    have := head_ne (m := k) oi hQ hl
    intro hx
    exact this (by exact_mod_cast hx)
  · rw [if_neg hi] at ht
    exact absurd ht (by simp)

def cntH (h : List Nat) (s : Nat) : Nat := ((List.range s).filter (fun x => decide (x ∈ h))).length
theorem cntH_succ (h : List Nat) (s : Nat) : cntH h (s + 1) = cntH h s + if s ∈ h then 1 else 0 := by
  unfold cntH
  rw [List.range_succ, List.filter_append, List.length_append]
  by_cases hs : s ∈ h <;> simp [hs]
theorem cntH_le (h : List Nat) (s : Nat) : cntH h s ≤ s := by
  have := List.length_filter_le (fun x => decide (x ∈ h)) (List.range s)
  rwa [List.length_range] at this
theorem cntH_full {h : List Nat} {n : Nat} (hn : h.Nodup) (hl : ∀ x ∈ h, x < n) : cntH h n = h.length := by
  unfold cntH
  refine List.Perm.length_eq ((List.perm_ext_iff_of_nodup ((List.nodup_range (n := n)).filter _) hn).2 fun a => ?_)
  simp
  exact hl a

theorem vic_cases {n : Nat} {l h : List Nat} (oi : OInv n l h) : ((l ++ h).isEmpty = true ∧ l.length + h.length = 0) ∨ ((l ++ h).isEmpty = false ∧ inI (((l ++ h).headD 0 : Nat) : Int) h = false) ∨
    ((l ++ h).isEmpty = false ∧ inI (((l ++ h).headD 0 : Nat) : Int) h = true ∧ l.length = 0) := by
  simp only [inI_nat]
  cases l with
  | nil =>
    cases h with
    | nil => exact .inl ⟨rfl, rfl⟩
    | cons a h => exact .inr (.inr ⟨rfl, decide_eq_true (List.mem_cons_self), rfl⟩)
  | cons a l => exact .inr (.inl ⟨rfl, decide_eq_false (oi.apart a List.mem_cons_self)⟩)

/-! ### A row of acts -/
def Act2 (w : World) (a : Option Addr) (n : Nat) (K Y : Nat → Int) : Prop :=
  0 < n → ∃ b off, a = some ⟨b, off, none⟩ ∧ ∀ i, i < n → w.cell? ⟨b, off + i * 2, none⟩ = some (.int .i64 (K i)) ∧ w.cell? ⟨b, off + i * 2 + 1, none⟩ = some (.int .i64 (Y i))

theorem cellsIntE : Tryz.prog.cellsOf 3 = 1 := by kernel_rfl
end Go.Proofs.YtbgknopjgohocaaGreat
