/- Places: what lies where; at, Of, Drop. -/
import Derived.Test.YtbgknopjgohocaaGreatPa
import Derived.StillTailTactics
namespace Go.Proofs.YtbgknopjgohocaaGreat
open Go.RowKit
set_option linter.unusedVariables false
set_option maxRecDepth 100000
set_option maxHeartbeats 2000000

/-- What each slot has (a block, and one; 0: none), where each block is (a slot, and one; 0: in none). -/
structure PLS where
  sl : Nat → Int
  wh : Nat → Int
def tgI (x : Int) : Int := if x = 0 then 0 else 1
def suB (x : Int) : Bool := decide (x ≠ 0)
def plsF (sl : Nat → Int) (k : Nat) : Value := if k % 3 = 0 then .int .i64 (sl (k / 3)) else if k % 3 = 1 then .int .u64 (tgI (sl (k / 3))) else .bool (suB (sl (k / 3)))
theorem plsF0 (sl : Nat → Int) (k : Nat) : plsF sl (k * 3) = .int .i64 (sl k) := by
  unfold plsF
  rw [if_pos (by omega), show k * 3 / 3 = k by omega]
theorem plsF1 (sl : Nat → Int) (k : Nat) : plsF sl (k * 3 + 1) = .int .u64 (tgI (sl k)) := by
  unfold plsF
  rw [if_neg (by omega), if_pos (by omega), show (k * 3 + 1) / 3 = k by omega]
theorem plsF2 (sl : Nat → Int) (k : Nat) : plsF sl (k * 3 + 2) = .bool (suB (sl k)) := by
  unfold plsF
  rw [if_neg (by omega), if_neg (by omega), show (k * 3 + 2) / 3 = k by omega]
def plF (sb ns wb nb : Nat) (m : Int) : Nat → Value
  | 0 => .slice (some ⟨sb, 0, none⟩) ns ns
  | 1 => .slice (some ⟨wb, 0, none⟩) nb nb
  | _ => .int .i64 m
structure PlI (nb ns N : Nat) (P : PLS) (m : Int) : Prop where
  m0 : -(N : Int) ≤ m
  m1 : m ≤ N
  N1 : N ≤ 1000000
  n1 : ns ≤ 192
  b1 : nb ≤ 512
  s0 : ∀ i, i < ns → 0 ≤ P.sl i
  s1 : ∀ i, i < ns → P.sl i ≤ nb
  w0 : ∀ i, i < nb → 0 ≤ P.wh i
  w1 : ∀ i, i < nb → P.wh i ≤ ns
structure Pl (w : World) (b sb wb : Nat) (nb ns N : Nat) (P : PLS) (m : Int) : Prop where
  top : Arr w b 117 3 (plF sb ns wb nb m)
  sl : Arr w sb 160 (ns * 3) (plsF P.sl)
  wh : Arr w wb 3 nb (fun i => .int .i64 (P.wh i))
  i : PlI nb ns N P m
def PlO (b nb ns N : Nat) (P : PLS) (S : Nat → Prop) (w : World) : Prop := ∃ sb wb m, Pl w b sb wb nb ns N P m ∧ S b ∧ S sb ∧ S wb
theorem Pl.keep {T : Nat → Prop} {w w' : World} {b sb wb nb ns N : Nat} {P : PLS} {m : Int} (h : Pl w b sb wb nb ns N P m) (k : Keeps T w w') (hb : ¬ T b) (hs : ¬ T sb) (hw : ¬ T wb) : Pl w' b sb wb nb ns N P m :=
  ⟨h.top.keep k hb, h.sl.keep k hs, h.wh.keep k hw, h.i⟩
instance (b nb ns N : Nat) (P : PLS) : Rep (PlO b nb ns N P) where
  keep := fun ⟨sb, wb, m, h, hb, hs, hw⟩ _ k ht => ⟨sb, wb, m, h.keep k (ht _ hb) (ht _ hs) (ht _ hw), hb, hs, hw⟩
  mono := fun ⟨sb, wb, m, h, hb, hs, hw⟩ ht => ⟨sb, wb, m, h, ht _ hb, ht _ hs, ht _ hw⟩

def dropS (P : PLS) (k : Nat) : PLS := if P.sl k = 0 then P else ⟨fun i => if i = k then 0 else P.sl i, fun i => if i = (P.sl k - 1).toNat then 0 else P.wh i⟩
def putS (P : PLS) (k l : Nat) : PLS := ⟨fun i => if i = k then (l : Int) + 1 else P.sl i, fun i => if i = l then (k : Int) + 1 else P.wh i⟩

section
variable {S : Nat → Prop} {w : World} {b sb wb nb ns N : Nat} {P : PLS} {m : Int}

theorem Pl.below {w' : World} (h : Pl w b sb wb nb ns N P m) (k : Below w.heap.size w w') : Pl w' b sb wb nb ns N P m :=
  h.keep (Keeps.of_below k) (Nat.not_le.2 h.top.lt) (Nat.not_le.2 h.sl.lt) (Nat.not_le.2 h.wh.lt)
theorem Pl.c0 (h : Pl w b sb wb nb ns N P m) : w.cell? ⟨b, 0, none⟩ = some (.slice (some ⟨sb, 0, none⟩) ns ns) := h.top.cell (i := 0) (by omega)
theorem Pl.c1 (h : Pl w b sb wb nb ns N P m) : w.cell? ⟨b, 1, none⟩ = some (.slice (some ⟨wb, 0, none⟩) nb nb) := h.top.cell (i := 1) (by omega)
theorem Pl.c2 (h : Pl w b sb wb nb ns N P m) : w.cell? ⟨b, 2, none⟩ = some (.int .i64 m) := h.top.cell (i := 2) (by omega)
theorem Pl.k0 (h : Pl w b sb wb nb ns N P m) {k : Nat} (hk : k < ns) : w.cell? ⟨sb, k * 3, none⟩ = some (.int .i64 (P.sl k)) := (h.sl.cell (i := k * 3) (by omega)).trans (by rw [plsF0])
theorem Pl.k1 (h : Pl w b sb wb nb ns N P m) {k : Nat} (hk : k < ns) : w.cell? ⟨sb, k * 3 + 1, none⟩ = some (.int .u64 (tgI (P.sl k))) := (h.sl.cell (i := k * 3 + 1) (by omega)).trans (by rw [plsF1])
theorem Pl.k2 (h : Pl w b sb wb nb ns N P m) {k : Nat} (hk : k < ns) : w.cell? ⟨sb, k * 3 + 2, none⟩ = some (.bool (suB (P.sl k))) := (h.sl.cell (i := k * 3 + 2) (by omega)).trans (by rw [plsF2])
theorem Pl.w0 (h : Pl w b sb wb nb ns N P m) {l : Nat} (hl : l < nb) : w.cell? ⟨wb, l, none⟩ = some (.int .i64 (P.wh l)) := h.wh.cell hl
theorem PlO.more {N' : Nat} (h : PlO b nb ns N P S w) (hn : N ≤ N') (hN : N' ≤ 1000000) : PlO b nb ns N' P S w :=
  let ⟨sb, wb, m, h, r⟩ := h
  ⟨sb, wb, m, ⟨h.top, h.sl, h.wh, { h.i with m0 := by have := h.i.m0; omega, m1 := by have := h.i.m1; omega, N1 := hN }⟩, r⟩

theorem ptrnePl (W : World) (a : Option Addr) : (binOp .eql 61 (.pointer a) (.pointer none)).run Tryz.prog W = .ok (.bool a.isNone) W := by
  cases a <;> rfl

/-- What a slot has. -/
theorem pl_at (h : Pl w b sb wb nb ns N P m) (k : Nat) (hk : k < ns) :
    Calls Tryz.prog 99 #[.pointer (some ⟨b, 0, none⟩), .int .i64 (k : Int)] w fun e w' => e = .returned (.agg #[.int .i64 (P.sl k), .int .u64 (tgI (P.sl k)), .bool (suB (P.sl k))]) ∧ Below w.heap.size w w' := by
  have c0 := h.c0
  have e0 := h.k0 hk
  have e1 := h.k1 hk
  have e2 := h.k2 hk
  have l1 := h.top.lt
  have l2 := h.sl.lt
  have hk1 : (k : Int) < (ns : Int) := by omega
  have hn : (ns : Int) ≤ 192 := by have := h.i.n1; omega
  clear h hk
  generalize P.sl k = x at *
  generalize tgI x = y at *
  generalize suB x = z at *
  have B := Lib.hid ((Below.refl w.heap.size w).alloc (Nat.le_refl _) (.cells #[.int .i64 x, .int .u64 y, .bool z] 160))
  go_enter Tryz.func99, Tryz.ntmps99
  go_wp2
  refine bodyPost_ret (v := .agg #[.int .i64 x, .int .u64 y, .bool z]) (by simp [results, Tryz.results99, go_sem]) rfl ⟨rfl, B.out⟩

theorem pl_of (h : Pl w b sb wb nb ns N P m) (l : Nat) (hl : l < nb) :
    Calls Tryz.prog 47 #[.pointer (some ⟨b, 0, none⟩), .int .i64 (l : Int)] w fun e w' => e = .returned (.tuple #[.int .i64 (if P.wh l = 0 then 0 else P.wh l - 1), .bool (decide (P.wh l ≠ 0))]) ∧ w = w' := by
  have c1 := h.c1
  have e0 := h.w0 hl
  have hl1 : (l : Int) < (nb : Int) := by omega
  have dl : decide ((l : Int) < 0) = false := decide_eq_false (by omega)
  have hn : (nb : Int) ≤ 512 := by have := h.i.b1; omega
  have r0 := h.i.w0 l hl
  have r1 : P.wh l ≤ 192 := by have := h.i.w1 l hl; have := h.i.n1; omega
  clear h hl
  generalize P.wh l = x at *
  by_cases hx : x = 0
  · subst hx
    go_enter Tryz.func47, Tryz.ntmps47
    go_wp2
    go_ret2
    exact ⟨rfl, rfl⟩
  · have d0 : (x == 0) = false := beq_eq_false_iff_ne.2 hx
    have F := Lib.hid (And.intro (if_neg hx : (if x = 0 then 0 else x - 1) = x - 1) (decide_eq_true hx : decide (x ≠ 0) = true))
    go_enter Tryz.func47, Tryz.ntmps47
    go_wp2
    go_ret2
    exact ⟨rfl, rfl⟩
end
end Go.Proofs.YtbgknopjgohocaaGreat
