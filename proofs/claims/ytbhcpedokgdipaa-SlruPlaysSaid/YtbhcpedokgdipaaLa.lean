/- All nodes of a list: a range over a function. -/
import Derived.RangeFuncBox
import Derived.RangeFuncNested
import Derived.RangeFuncBound
import Derived.RangeFuncCalls
import Derived.RangeFuncLeaves
import Derived.Shelf.Abstract
import Derived.Shelf.RegionOpen
import Derived.WalkKit
import Derived.OwnWalkIn
import Derived.TacticsInMore
import Derived.LoopNIn
import Derived.LoopIn
import Derived.Maps.AppendAt
import Derived.Test.YtbhcpedokgdipaaLv
namespace Go.Proofs.Ytbhcpedokgdipaa
open Go.RowKit Go.Shelf
set_option linter.unusedVariables false
attribute [local go_sem] Oper.semAt_some

/-- Where one stands in a row; its length, if it is not in it. -/
def posOf (x : Nat) : List Nat → Nat
  | [] => 0
  | y :: l => if y = x then 0 else posOf x l + 1
theorem posOf_append (x : Nat) : ∀ (a b : List Nat), x ∉ a → posOf x (a ++ b) = a.length + posOf x b
  | [], b, _ => by simp
  | y :: a, b, h => by
    have h1 : y ≠ x := fun e => h (by simp [e])
    have h2 := posOf_append x a b (fun z => h (by simp [z]))
    simp only [List.cons_append, posOf, if_neg h1, h2, List.length_cons]; omega

/-- Who stands next in a ring. -/
theorem ring_next {nx pv : Nat → Nat} {h x : Nat} {pre rest : List Nat} (hl : Links nx pv (h :: (pre ++ x :: rest ++ [h]))) : nx x = rest.head?.getD h := by
  have e : h :: (pre ++ x :: rest ++ [h]) = (h :: pre) ++ x :: (rest ++ [h]) := by simp
  rw [e, links_append] at hl
  obtain ⟨_, hl⟩ := hl
  cases rest with
  | nil => exact hl.1
  | cons y r => exact hl.1
theorem ring_first {nx pv : Nat → Nat} {h : Nat} {rest : List Nat} (hl : Links nx pv (h :: (rest ++ [h]))) : nx h = rest.head?.getD h := by
  cases rest with
  | nil => exact hl.1
  | cons y r => exact hl.1

/-- What stands in the five blocks stays. -/
def KT (T : Nat → Prop) (A B : World) : Prop := Keeps (fun j => ¬ T j) A B
theorem KT.t {T : Nat → Prop} {A B C : World} (h : KT T A B) (k : KT T B C) : KT T A C := Keeps.trans h k (fun _ x => .inl x)
theorem KT.b {T : Nat → Prop} {w : World} (hT : ∀ j, T j → j < w.heap.size) (W : World) (l : Nat) (o o' : Obj) (hl : w.heap.size ≤ l) (h : W.heap[l]? = some o) (_ : o.isCells = false) (_ : o.isWalk = false) : KT T W (W.putObj l o') := by
  have g := grownBy_putObj' W l o'
  exact ⟨g.os, g.tape, g.output, g.size, fun k hk hS => g.block k hk (fun e => by
    have e' : k = l := by injection e
    have := hT k (Classical.not_not.1 hS)
    omega)⟩

set_option maxRecDepth 100000 in
set_option maxHeartbeats 2000000 in
/-- The iterator: each node of a list, in the row's order. -/
theorem each1_in (l B1 B2 b g q n K k : Nat) (T : Nat → Prop) (hT : ∀ j, T j ↔ (j = B1 ∨ j = B2 ∨ j = b ∨ j = g ∨ j = q)) (t : LS) (hk : k < K) (J Jx : List Nat → World → Prop)
    (hY : ∀ pre x W, J pre W → pre.length < (t.rows k).length → YieldAt Fence.wide 3 Try.prog l #[.int .i64 ((x : Nat) : Int)] W fun e W' =>
      (e = .returned (.bool true) ∧ J (pre ++ [x]) W' ∧ KT T W W') ∨ (e = .returned (.bool false) ∧ Jx (pre ++ [x]) W'))
    (W : World) (hB1 : W.cell? ⟨B1, 0, none⟩ = some (.pointer (some ⟨b, 0, none⟩))) (hB2 : W.cell? ⟨B2, 0, none⟩ = some (.int .i64 (k : Int))) (hL : Li W b g q n K t) (h0 : J [] W) :
    CallsIn Fence.wide 4 Try.prog 105 #[.func (.yield l) #[] #[], .pointer (some ⟨B1, 0, none⟩), .pointer (some ⟨B2, 0, none⟩)] W fun e W' => (∃ v, e = .returned v) ∧
      ((∃ ys, ys = t.rows k ∧ J ys W') ∨ (∃ pre, pre <+: t.rows k ∧ Jx pre W')) := by
  have ring := Lib.hid (hL.inv.ring k hk)
  have nod := Lib.hid (hL.inv.nod k hk)
  have lt := Lib.hid (hL.inv.lt k hk)
  have HD := Lib.hid (li_head hL k hk)
  have c0 := hL.c0
  obtain ⟨p0, p1, p2⟩ := hL.node (k := n + k) (by omega)
  have x2 : ((n + k : Nat) : Int) < ((n + K : Nat) : Int) := by omega
  have HLI := Lib.hid hL
  have CK := Lib.hid (fun (W' : World) (h : KT T W W') => (⟨Keeps.cell h hB1 (fun x => x ((hT _).2 (.inl rfl))), Keeps.cell h hB2 (fun x => x ((hT _).2 (.inr (.inl rfl)))), hL.keep h (fun x => x ((hT _).2 (.inr (.inr (.inl rfl))))) (fun x => x ((hT _).2 (.inr (.inr (.inr (.inl rfl)))))) (fun x => x ((hT _).2 (.inr (.inr (.inr (.inr rfl))))))⟩ : W'.cell? ⟨B1, 0, none⟩ = some (.pointer (some ⟨b, 0, none⟩)) ∧ W'.cell? ⟨B2, 0, none⟩ = some (.int .i64 (k : Int)) ∧ Li W' b g q n K t))
  have HY := Lib.hid hY
  have HK := Lib.hid hk
  clear hL hY hk
  refine callsIn_of_wp Try.func105 rfl trivial ?_ rfl
  simp only [Try.ntmps105, List.size_toArray, List.length_cons, List.length_nil, Nat.reduceAdd, Nat.reduceSub, Array.replicate_succ, Array.replicate_zero, List.push_toArray, List.append_toArray, List.nil_append, List.cons_append]
  gi_wp2_with (refine ⟨trivial, ?_⟩; gi_at_call 94; refine (callsIn_wide.2 HD.out).mono ?_; rintro e w' ⟨rfl, rfl⟩)
  have FI := Lib.hid (ring_first ring.out)
  rw [FI.out]
  gi_loopw [6] (fun p wr => ∃ pre rest : List Nat, p = .int .i64 ((rest.head?.getD (n + k) : Nat) : Int) ∧ t.rows k = pre ++ rest ∧ J pre wr ∧ KT T W wr)
    (fun p _ => (t.rows k).length - posOf (intOf p).toNat (t.rows k))
  case atStart => exact ⟨[], t.rows k, rfl, rfl, h0, Keeps.refl _ _⟩
  case round =>
    obtain ⟨pre, rest, rfl, hx, hJs, hB⟩ := hrel
    obtain ⟨d1, d2, hLi⟩ := CK.out _ hB
    have HB := Lib.hid hB
    cases rest with
    | nil =>
      have HX := Lib.hid hx
      have HJ := Lib.hid hJs
      clear hx hJs hB hLi
      gi_wp2
      go_end0
      exact ⟨⟨_, rfl⟩, .inl ⟨pre, by rw [HX.out]; simp, HJ.out⟩⟩
    | cons x rest =>
      have hxl : x < n := lt.out x (by rw [hx]; simp)
      have hR := ring.out
      rw [hx] at hR
      have hnx := ring_next hR
      have hnd := nod.out
      rw [hx] at hnd
      obtain ⟨fn, tmps, assign, body, hy, hRR⟩ := HY.out pre x wr hJs (by rw [hx]; simp)
      have ne1 : ((x : Int) == ((n + k : Nat) : Int)) = false := beq_eq_false_iff_ne.2 (by omega)
      have HX := Lib.hid hx
      have HLi := Lib.hid hLi
      have HN := Lib.hid hnx
      have HND := Lib.hid hnd
      clear hx hB hLi hR hnx hnd
      rw [show (x :: rest).head?.getD (n + k) = x from rfl]
      gi_wp2
      refine hRR.mono ?_
      rintro e W3 (⟨rfl, hJ3, hk3⟩ | ⟨rfl, hJx3⟩)
      · have hB3 := KT.t HB.out hk3
        obtain ⟨e1, e2, hLi3⟩ := CK.out _ hB3
        have f0 := hLi3.c0
        obtain ⟨q0, q1, q2⟩ := hLi3.node (k := x) (by omega)
        rw [HN.out] at q1
        have y1 : (x : Int) < ((n + K : Nat) : Int) := by omega
        have HB3 := Lib.hid hB3
        clear hB3 hLi3 hk3
        gi_wp2
        go_roundw
        case rel => exact ⟨pre ++ [x], rest, rfl, by rw [HX.out]; simp, hJ3, HB3.out⟩
        case measure =>
          have hn := HND.out
          have hlt := lt.out
          rw [HX.out] at hlt ⊢
          rw [List.nodup_append, List.nodup_cons] at hn
          have h1 : x ∉ pre := fun z => hn.2.2 x z x (by simp) rfl
          show _ - posOf (((rest.head?.getD (n + k) : Nat) : Int)).toNat _ < _ - posOf ((x : Int)).toNat _
          rw [Int.toNat_natCast, Int.toNat_natCast, posOf_append x pre _ h1]
          cases rest with
          | nil =>
            have h2 : n + k ∉ pre ++ [x] := fun z => by have := hlt _ z; omega
            have h3 := posOf_append (n + k) (pre ++ [x]) [] h2
            simp only [List.append_nil] at h3
            show _ - posOf (n + k) _ < _
            rw [h3]
            simp [posOf]
          | cons y r =>
            have h2 : y ∉ pre ++ [x] := fun z => by
              rcases List.mem_append.1 z with z | z
              · exact hn.2.2 y z y (by simp) rfl
              · simp only [List.mem_singleton] at z
                subst z; exact hn.2.1.1 (by simp)
            have h3 := posOf_append y (pre ++ [x]) (y :: r) h2
            have h4 : pre ++ x :: y :: r = pre ++ [x] ++ y :: r := by simp
            show _ - posOf y _ < _
            rw [h4, h3]
            simp [posOf]
            try omega
      · gi_wp2
        refine bodyPost_ret (results_none rfl _ _ _) rfl ?_
        exact ⟨⟨_, rfl⟩, .inr ⟨pre ++ [x], ⟨rest, by rw [HX.out]; simp⟩, hJx3⟩⟩

theorem li_each (w : World) (b k : Nat) :
    Calls Try.prog 99 #[.pointer (some ⟨b, 0, none⟩), .int .i64 (k : Int)] w fun e w' => e = .returned (.func (.func 105) #[] #[.pointer (some ⟨w.heap.size, 0, none⟩), .pointer (some ⟨w.heap.size + 1, 0, none⟩)]) ∧
      w' = (w.alloc (.cells #[.pointer (some ⟨b, 0, none⟩)] 76)).alloc (.cells #[.int .i64 (k : Int)] 3) := by
  go_enter Try.func99, Try.ntmps99
  go_wp2
  go_ret
  exact ⟨rfl, rfl⟩

theorem Keeps.grown {S : Nat → Prop} {a w w' : World} {row : Option Nat} (h : Keeps S a w) (g : w.grownBy w' row) (hr : ∀ r, row = some r → S r ∨ a.heap.size ≤ r) : Keeps S a w' :=
  ⟨g.os.trans h.os, g.tape.trans h.tape, g.output.trans h.output, Nat.le_trans h.size g.size, fun k hk hS => (g.block k (Nat.lt_of_lt_of_le hk h.size) (fun e => by
    rcases hr k e.symm with x | x
    · exact hS x
    · omega)).trans (h.block k hk hS)⟩

theorem each_stops (B1 B2 b g q n K k : Nat) (t : LS) (hk : k < K) (w : World) (T : Nat → Prop) (hT : ∀ j, T j ↔ (j = B1 ∨ j = B2 ∨ j = b ∨ j = g ∨ j = q)) (hB1 : w.cell? ⟨B1, 0, none⟩ = some (.pointer (some ⟨b, 0, none⟩))) (hB2 : w.cell? ⟨B2, 0, none⟩ = some (.int .i64 (k : Int))) (hL : Li w b g q n K t) :
    SeqStopsK Fence.wide 4 Try.prog 105 #[.pointer (some ⟨B1, 0, none⟩), .pointer (some ⟨B2, 0, none⟩)] (fun x : Nat => #[Value.int .i64 ((x : Nat) : Int)]) (KT T) (fun ys => ys = t.rows k) (fun pre => pre <+: t.rows k) (t.rows k).length w := by
  intro l J Jx W hW _ _ hY h0
  have lt1 := World.block_lt_of_cell? w _ hB1
  have lt2 := World.block_lt_of_cell? w _ hB2
  exact each1_in l B1 B2 b g q n K k T hT t hk J Jx hY W ((hW.cell lt1).trans hB1) ((hW.cell lt2).trans hB2) (hL.keep (Keeps.of_below hW) (Nat.not_le.2 hL.top.lt) (Nat.not_le.2 hL.nod.lt) (Nat.not_le.2 hL.many.lt)) h0

/-- A variable in a box; a row that it holds has grown. -/
theorem boxed_more {W w1 : World} {n₀ nb B : Nat} {t e : TypeId} {size : Nat} {v v' : Value} {k m : Nat} {xs ys : List Value} {tmp : Obj}
    (hv : Boxed W B t v) (hte : t ≠ e) (hrow : W.ownsRow nb e size v k xs) (hn₀ : n₀ ≤ W.heap.size) (hB : n₀ ≤ B) (hnb : n₀ ≤ nb)
    (hown' : w1.ownsRow nb e size v' m ys) (hgrow : (W.alloc tmp).grownBy w1 v.ownBlock) :
    Boxed w1 B t v ∧ Boxed (w1.setCell ⟨B, 0, none⟩ v') B t v' ∧ (w1.setCell ⟨B, 0, none⟩ v').ownsRow nb e size v' m ys ∧ KeepsOthers W (w1.setCell ⟨B, 0, none⟩ v') ∧ Below n₀ W (w1.setCell ⟨B, 0, none⟩ v') ∧
      ∀ T : Nat → Prop, (∀ j, T j → j < nb ∧ j ≠ B) → KT T W (w1.setCell ⟨B, 0, none⟩ v') := by
  have hv1 : Boxed w1 B t v := (hv.alloc tmp).kept hgrow (hv.not_row hte hrow)
  have row : ∀ j, v.ownBlock = some j → nb ≤ j := fun j ej => by
    rcases hrow.2 with ⟨rfl, _⟩ | ⟨g, cap, cur, rfl, hb, _, _⟩
    · simp [Value.ownBlock] at ej
    · obtain rfl : g = j := by simpa [Value.ownBlock] using ej
      exact hb
  refine ⟨hv1, hv1.set v', hown'.kept (grownBy_setCell' w1 B v') (.inr (hv1.not_row hte hown').symm), ?_, ?_, fun T hT => ?_⟩
  · refine ((KeepsOthers.alloc W tmp).trans (KeepsOthers.of_grownBy hgrow fun j o ej hj => ?_)).trans (KeepsOthers.setCell _ _ _)
    rcases (hrow.alloc tmp).2 with ⟨rfl, _⟩ | ⟨g, cap, cur, rfl, _, hgb, _⟩
    · simp [Value.ownBlock] at ej
    · obtain rfl : g = j := by simpa [Value.ownBlock] using ej
      rw [hgb] at hj; cases hj; rfl
  · refine (((Below.refl n₀ W).alloc hn₀ tmp).grown hgrow (by simp; omega) fun j ej => ?_).setCell (p := ⟨B, 0, none⟩) hB v'
    have := row j ej; omega
  · refine (((Keeps.refl _ W).alloc tmp).grown hgrow (fun j ej => .inl (fun x => by have := row j ej; have := (hT j x).1; omega))).setCell (p := ⟨B, 0, none⟩) (.inl (fun x => (hT B x).2 rfl)) v'

def intV (x : Nat) : Value := .int .i64 ((x : Nat) : Int)

set_option maxRecDepth 100000 in
set_option maxHeartbeats 2000000 in
theorem li_all {w : World} {b g q n K : Nat} {t : LS} (hL : Li w b g q n K t) (k : Nat) (hk : k < K) :
    Calls Try.prog 80 #[.pointer (some ⟨b, 0, none⟩), .int .i64 (k : Int)] w fun e W' => ∃ v, e = .returned v ∧ W'.ownsRow w.heap.size 3 1 v (t.rows k).length ((t.rows k).map intV) ∧ (v = .slice none 0 0 ↔ t.rows k = []) ∧ Below w.heap.size w W' := by
  have hlen := nodup_len n _ (hL.inv.nod k hk) (hL.inv.lt k hk)
  have hn2 := hL.n2
  obtain ⟨i0, hi, hz0, hz1, hz2⟩ := info_parts infoInt
  refine callsIn_wide.1 (?_ : CallsIn Fence.wide 5 Try.prog 80 #[.pointer (some ⟨b, 0, none⟩), .int .i64 (k : Int)] w _)
  refine callsIn_of_wp_marks Try.func80 rfl trivial ?_ rfl
  simp only [Try.ntmps80, List.size_toArray, List.length_cons, List.length_nil, Nat.reduceAdd, Nat.reduceSub, Array.replicate_succ, Array.replicate_zero, List.push_toArray, List.append_toArray, List.nil_append, List.cons_append]
  gi_wp2_with (refine ⟨trivial, ?_⟩; gi_at_call 99; refine (callsIn_wide.2 (li_each _ b k)).mono ?_; rintro e w' ⟨rfl, rfl⟩)
  have bO : Boxed (((w.alloc (.cells #[.slice none 0 0] 79)).alloc (.cells #[.pointer (some ⟨b, 0, none⟩)] 76)).alloc (.cells #[.int .i64 (k : Int)] 3)) w.heap.size 79 (.slice none 0 0) := ((Boxed.new w 79 (.slice none 0 0)).alloc _).alloc _
  have hz : (((w.alloc (.cells #[.slice none 0 0] 79)).alloc (.cells #[.pointer (some ⟨b, 0, none⟩)] 76)).alloc (.cells #[.int .i64 (k : Int)] 3)).heap.size = w.heap.size + 3 := by simp
  have hB0 : Below w.heap.size w (((w.alloc (.cells #[.slice none 0 0] 79)).alloc (.cells #[.pointer (some ⟨b, 0, none⟩)] 76)).alloc (.cells #[.int .i64 (k : Int)] 3)) := (((Below.refl _ w).alloc (Nat.le_refl _) _).alloc (by simp) _).alloc (by simp; omega) _
  have c1 : (((w.alloc (.cells #[.slice none 0 0] 79)).alloc (.cells #[.pointer (some ⟨b, 0, none⟩)] 76)).alloc (.cells #[.int .i64 (k : Int)] 3)).cell? ⟨w.heap.size + 1, 0, none⟩ = some (.pointer (some ⟨b, 0, none⟩)) := by
    have := (Boxed.new (w.alloc (.cells #[.slice none 0 0] 79)) 76 (.pointer (some ⟨b, 0, none⟩))).alloc (.cells #[.int .i64 (k : Int)] 3)
    rw [World.size_alloc] at this
    exact this.cell
  have c2 : (((w.alloc (.cells #[.slice none 0 0] 79)).alloc (.cells #[.pointer (some ⟨b, 0, none⟩)] 76)).alloc (.cells #[.int .i64 (k : Int)] 3)).cell? ⟨w.heap.size + 1 + 1, 0, none⟩ = some (.int .i64 (k : Int)) := by
    have := Boxed.new ((w.alloc (.cells #[.slice none 0 0] 79)).alloc (.cells #[.pointer (some ⟨b, 0, none⟩)] 76)) 3 (.int .i64 (k : Int))
    rw [World.size_alloc, World.size_alloc] at this
    exact this.cell
  have hL' : Li (((w.alloc (.cells #[.slice none 0 0] 79)).alloc (.cells #[.pointer (some ⟨b, 0, none⟩)] 76)).alloc (.cells #[.int .i64 (k : Int)] 3)) b g q n K t := hL.keep (Keeps.of_below hB0) (Nat.not_le.2 hL.top.lt) (Nat.not_le.2 hL.nod.lt) (Nat.not_le.2 hL.many.lt)
  have lb := hL.top.lt
  have lg := hL.nod.lt
  have lq := hL.many.lt
  generalize (((w.alloc (.cells #[.slice none 0 0] 79)).alloc (.cells #[.pointer (some ⟨b, 0, none⟩)] 76)).alloc (.cells #[.int .i64 (k : Int)] 3)) = w3 at *
  obtain ⟨T, hT⟩ : ∃ T : Nat → Prop, ∀ j, T j ↔ (j = w.heap.size + 1 ∨ j = w.heap.size + 1 + 1 ∨ j = b ∨ j = g ∨ j = q) := ⟨_, fun _ => Iff.rfl⟩
  have hTl : ∀ j, T j → j < w3.heap.size := fun j x => by rw [hz]; rcases (hT j).1 x with e | e | e | e | e <;> omega
  have hTn : ∀ j, T j → j < w.heap.size + 3 ∧ j ≠ w.heap.size := fun j x => by rcases (hT j).1 x with e | e | e | e | e <;> omega
  have HTN := Lib.hid hTn
  refine wpIn_rangeFunc_ownG rfl (by omega) (gf := 105) (lb := #[.pointer (some ⟨w.heap.size + 1, 0, none⟩), .pointer (some ⟨w.heap.size + 1 + 1, 0, none⟩)]) rfl trivial (enters_of Try.func105 (by kernel_rfl) rfl)
    (each_stops _ _ b g q n K k t hk w3 T hT c1 c2 hL') KT.t (KT.b hTl) (Below.refl _ _) (fun _ => rfl)
    (fun pre W => (∃ v, Boxed W w.heap.size 79 v ∧ W.ownsRow (w.heap.size + 3) 3 1 v pre.length (pre.map intV) ∧ (v = .slice none 0 0 ↔ pre = [])) ∧ Below w.heap.size w W ∧ w.heap.size + 3 ≤ W.heap.size)
    (fun _ _ _ => False)
    (OwnFrom.and (Own.from (holdsRow_own (w.heap.size + 3) w.heap.size 79 3 1 (fun pre : List Nat => pre.length) (fun pre => pre.map intV) (fun pre v => v = .slice none 0 0 ↔ pre = [])) _) (OwnFrom.and (ownFrom_below (Nat.le_refl _) (by omega)) (fun s A B row hs hg hr => Nat.le_trans hs hg.size)))
    (fun _ _ _ _ _ hs _ _ => hs)
    ⟨⟨_, bO, World.ownsRow_nil _ _ _ _, by simp⟩, hB0, by omega⟩
    (fun x => { tmps := #[.pointer (some ⟨b, 0, none⟩), .int .i64 (k : Int), undef, undef, .slice none 0 0, .pointer (some ⟨w.heap.size, 0, none⟩), .int .i64 ((x : Nat) : Int), .pointer (some ⟨b, 0, none⟩), .int .i64 (k : Int), .func (.func 105) #[] #[.pointer (some ⟨w.heap.size + 1, 0, none⟩), .pointer (some ⟨w.heap.size + 1 + 1, 0, none⟩)], .int .i64 ((x : Nat) : Int), undef, undef, undef, undef, undef], defers := [] }) ?assign ?body ?done ?stop
  case assign =>
    intro l x W K hK
    gi_wp2
    exact hK
  case body =>
    rintro l pre x W ⟨⟨v, hv, hrow, hnil⟩, hB, hsz⟩ hlt
    have hc := hv.cell
    have hpl : pre.length ≤ 1024 := by omega
    gi_wp2_with (gi_at_builtin; refine wpListIn_append_own _ rfl _ _ 79 rfl (w.heap.size + 3) 3 i0 (.int .i64 0) 1 8 Try.underlying79 hi hz0 hz1 hz2 rfl (by decide) _ _ _ rfl (hrow.alloc _) ⟨W.heap.size, 0, none⟩ 1 1 [.int .i64 ((x : Nat) : Int)] rfl rfl (cell_one_new _ _ _) (by simp [Value.oneCell']) (by unfold maxLen; omega) (by omega) (by simp; omega) ?_; intro v' w1 hown' hgrow _; obtain ⟨g', cap', rfl⟩ := ownsRow_succ hown'; obtain ⟨hv1, hv2, hr2, hk2, hb2, hkt⟩ := boxed_more (n₀ := w.heap.size) hv (by decide) hrow hB.size (Nat.le_refl _) (by omega) hown' hgrow; have hc1 := hv1.cell; have hf1 := hv1.frozen)
    exact ⟨hk2.from _, hkt T HTN.out, ⟨_, hv2, by simpa [intV] using hr2, by simp⟩, hB.trans hb2, Nat.le_trans hsz hb2.size⟩
  case done =>
    rintro D ys W hD rfl ⟨⟨v, hv, hrow, hnil⟩, hB, hsz⟩ hK
    have hc := hv.cell
    gi_wp2
    refine ⟨by simp, .inl ⟨_, _, rfl, run_takeDeferred hK, ?_⟩⟩
    refine ⟨_, results_tmp rfl _ _ _, v, rfl, ?_, hnil, hB.trans (belowK_b (w := w) (Nat.le_refl _) W D _ _ (by omega) hK rfl rfl)⟩
    have hr := ownsRow_putObj hrow (.deferred none) hK rfl
    exact ⟨hr.1, hr.2.imp id (fun ⟨g, cap, cur, e, hb, r⟩ => ⟨g, cap, cur, e, by omega, r⟩)⟩
  case stop =>
    rintro D c pre W _ _ h _
    exact h.elim

end Go.Proofs.Ytbhcpedokgdipaa
