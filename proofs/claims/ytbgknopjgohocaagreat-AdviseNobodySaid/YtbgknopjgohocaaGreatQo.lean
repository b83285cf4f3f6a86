/- A budget while no time goes by: New, Left, Spend of three. -/
import Derived.Test.YtbgknopjgohocaaGreatZE
import Derived.Test.YtbgknopjgohocaaGreatFr
import Derived.Deep.QuietTactic
import Derived.Deep.RegionLawGrows
namespace Go.Proofs.YtbgknopjgohocaaGreat
open Go.RowKit
set_option linter.unusedVariables false
set_option maxRecDepth 100000
set_option maxHeartbeats 2000000

def quF (window most used : Nat) (v : Value) : Nat → Value
  | 0 => .int .i64 (window : Int)
  | 1 => .int .i64 (most : Int)
  | 2 => .int .i64 0
  | 3 => .int .i64 (used : Int)
  | _ => v
/-- The row of what was spent. -/
def SpR (w : World) (v : Value) (used : Nat) : Prop :=
  (used = 0 ∧ v = .slice none 0 0) ∨ ∃ g cap F, v = .slice (some ⟨g, 0, none⟩) 1 cap ∧ Arr w g 158 (cap * 2) F ∧ F 0 = .int .i64 (used : Int) ∧ F 1 = .int .i64 0 ∧ 1 ≤ cap ∧ cap ≤ maxLen
def QuO (b window most used : Nat) (S : Nat → Prop) (w : World) : Prop :=
  ∃ v, Arr w b 120 5 (quF window most used v) ∧ SpR w v used ∧ S b ∧ (∀ g, v.ownBlock = some g → S g) ∧ 1 ≤ window ∧ window ≤ 4096 ∧ used ≤ most ∧ most ≤ 1048576
theorem SpR.keep {T : Nat → Prop} {w w' : World} {v : Value} {used : Nat} (h : SpR w v used) (k : Keeps T w w') (hv : ∀ g, v.ownBlock = some g → ¬ T g) : SpR w' v used :=
  h.imp id (fun ⟨g, cap, F, hv', ha, r⟩ => ⟨g, cap, F, hv', ha.keep k (hv g (by rw [hv']; rfl)), r⟩)
instance (b window most used : Nat) : Rep (QuO b window most used) where
  keep := fun ⟨v, ha, hs, hb, hv, r⟩ _ k ht => ⟨v, ha.keep k (ht _ hb), hs.keep k (fun g e => ht g (hv g e)), hb, hv, r⟩
  mono := fun ⟨v, ha, hs, hb, hv, r⟩ ht => ⟨v, ha, hs, ht _ hb, fun g e => ht g (hv g e), r⟩

theorem infoSpent : (Tryz.prog.info? 158).map (fun i => (i.zero, i.size, i.bytes)) = some (some (.agg #[.int .i64 0, .int .i64 0]), 2, 16) := by kernel_rfl
/-- Something is spent for the first time. -/
theorem step_spent {ops : Array Oper} {o : Oper} {a : Act} {K : Act → World → Prop} {Q : Exit → Act → World → Prop} {E : Prop} {w : World} (hgd : o.guard = none) (s x : Operand)
    (ho : o.op = .call { callee := .builtin .append, args := #[s, x], argTypes := #[118, 118] })
    (n : Int) (N : Nat) (hs : a.eval s = .slice none 0 0) (hx : a.eval x = .slice (some ⟨N, 0, none⟩) 1 1) (hN : w.heap[N]? = some (.cells #[.int .i64 n, .int .i64 0] 158 (0, 0)))
    (h : ∀ g cap F w', Arr w' g 158 (cap * 2) F → F 0 = .int .i64 n → F 1 = .int .i64 0 → 1 ≤ cap → cap ≤ maxLen → w.heap.size ≤ g → Below w.heap.size w w' → K (a.put o.dst (.slice (some ⟨g, 0, none⟩) 1 cap)) w') :
    if Region.wanted o (yielded ops a.tmps) = true then Oper.wp Tryz.prog o a w K Q else E := by
  obtain ⟨i0, hi, hz0, hz1, hz2⟩ := info_parts infoSpent
  have hw : Region.wanted o (yielded ops a.tmps) = true := by simp [Region.wanted, hgd]
  rw [if_pos hw]
  have hnews : ∀ j u, [Value.int .i64 n, Value.int .i64 0][j]? = some u → w.cell? ((⟨N, 0, none⟩ : Addr).add j) = some u := fun j u hu => by
    rw [addr_addG, Nat.zero_add, blk_cell' hN]
    have : j = 0 ∨ j = 1 := by
      have := (List.getElem?_eq_some_iff.1 hu).1
      simp at this; omega
    rcases this with rfl | rfl <;> simpa using hu
  refine wp_append_own w s x 118 ho w.heap.size 158 i0 (.agg #[.int .i64 0, .int .i64 0]) 2 16 Tryz.underlying118 hi hz0 hz1 hz2 rfl (by decide) (.slice none 0 0) 0 [] hs (World.ownsRow_nil _ _ _ _) ⟨N, 0, none⟩ 1 1 [.int .i64 n, .int .i64 0] hx rfl hnews (by intro u hu; simp at hu; rcases hu with rfl | rfl <;> rfl) (by decide) (by decide) (Nat.le_refl _) (fun v' w' h1 h2 _ => ?_)
  rcases h1.2 with ⟨_, h0⟩ | ⟨g, cap, cur, rfl, hb, hh, hc, hm, hs', ht⟩
  · omega
  have e0 : cur[0]? = some (.int .i64 n) := by
    have := congrArg (fun l => l[0]?) ht
    simpa using this
  have e1 : cur[1]? = some (.int .i64 0) := by
    have := congrArg (fun l => l[1]?) ht
    simpa using this
  refine h g cap (fun i => (cur[i]?).getD undef) w' ⟨cur, hh, hs', fun i hi => ?_⟩ (by simp [e0]) (by simp [e1]) (by omega) hm hb ((Below.refl w.heap.size w).grown h2 (Nat.le_refl _) (fun k e => by simp [Value.ownBlock] at e))
  show cur[i]? = some ((cur[i]?).getD undef)
  rw [Array.getElem?_eq_getElem (by omega), Option.getD_some]

section
variable {S : Nat → Prop} {w : World} {b window most used : Nat}
theorem qu_real (h : QuO b window most used S w) :
    Calls Tryz.prog 91 #[.pointer (some ⟨b, 0, none⟩)] w fun e w' => e = .returned (.bool true) ∧ w = w' := by
  obtain ⟨v, ha, hs, hb, hv, h1, h2, h3, h4⟩ := h
  have c0 : w.cell? ⟨b, 0, none⟩ = some (.int .i64 (window : Int)) := ha.cell (i := 0) (by omega)
  have d0 : decide (0 < (window : Int)) = true := decide_eq_true (by omega)
  have d1 : decide (0 < window) = true := decide_eq_true (by omega)
  clear ha hs hb hv h1 h2 h3 h4
  go_enter Tryz.func91, Tryz.ntmps91
  go_wp2
  go_ret
  exact ⟨rfl, rfl⟩
theorem qu_left (h : QuO b window most used S w) :
    Calls Tryz.prog 65 #[.pointer (some ⟨b, 0, none⟩)] w fun e w' => e = .returned (.int .i64 ((most : Int) - used)) ∧ ∃ m, w' = w.drewN m := by
  have R := Lib.hid (qu_real h)
  obtain ⟨v, ha, hs, hb, hv, h1, h2, h3, h4⟩ := h
  have c1 : w.cell? ⟨b, 1, none⟩ = some (.int .i64 (most : Int)) := ha.cell (i := 1) (by omega)
  have c3 : w.cell? ⟨b, 3, none⟩ = some (.int .i64 (used : Int)) := ha.cell (i := 3) (by omega)
  have q1 : IntKind.i64.wrap ((most : Int) - (used : Int)) = (most : Int) - used := IntWalk.i64_in _ (by omega)
  clear ha hs hb hv h1 h2 h3 h4
  go_enter Tryz.func65, Tryz.ntmps65
  go_wp2_with fail
  refine R.out.mono ?_
  rintro e w' ⟨rfl, rfl⟩
  go_wp2_with fail
  go_quiet (fail)
  go_wp2
  go_ret
  exact ⟨rfl, _, rfl⟩

theorem quF3 (window most used : Nat) (v : Value) (n : Nat) : ∀ i, i < 5 → (if i = 3 then Value.int .i64 (n : Int) else quF window most used v i) = quF window most n v i := fun i hi => by
  have : i = 0 ∨ i = 1 ∨ i = 2 ∨ i = 3 ∨ i = 4 := by omega
  rcases this with rfl | rfl | rfl | rfl | rfl <;> rfl
theorem quF4 (window most used : Nat) (v u : Value) : ∀ i, i < 5 → (if i = 4 then u else quF window most used v i) = quF window most used u i := fun i hi => by
  have : i = 0 ∨ i = 1 ∨ i = 2 ∨ i = 3 ∨ i = 4 := by omega
  rcases this with rfl | rfl | rfl | rfl | rfl <;> rfl

theorem qu_spend (h : QuO b window most used S w) (ho : Own S w) (hr : used + 3 ≤ most) :
    Calls Tryz.prog 67 #[.pointer (some ⟨b, 0, none⟩), .int .i64 3] w fun e w' => e = .returned (.bool true) ∧ QuO b window most (used + 3) (Ext S w w') w' ∧ Keeps S w w' := by
  have R := Lib.hid (fun n => qu_real (Rep.drewN h ho n))
  obtain ⟨v, ha, hs, hb, hv, h1, h2, h3, h4⟩ := h
  have HA := Lib.hid ha
  have HO := Lib.hid (And.intro hb (And.intro hv (And.intro h1 (And.intro h2 (And.intro hr (And.intro h4 ho))))))
  have c1 : w.cell? ⟨b, 1, none⟩ = some (.int .i64 (most : Int)) := ha.cell (i := 1) (by omega)
  have c2 : w.cell? ⟨b, 2, none⟩ = some (.int .i64 0) := ha.cell (i := 2) (by omega)
  have c3 : w.cell? ⟨b, 3, none⟩ = some (.int .i64 (used : Int)) := ha.cell (i := 3) (by omega)
  have c4 : w.cell? ⟨b, 4, none⟩ = some v := ha.cell (i := 4) (by omega)
  have f3 := ha.free 3
  have f4 := ha.free 4
  have lb := ha.lt
  have q1 : IntKind.i64.wrap ((most : Int) - (used : Int)) = (most : Int) - used := IntWalk.i64_in _ (by omega)
  have q2 : decide ((most : Int) - (used : Int) < 3) = false := decide_eq_false (by omega)
  have u1 : (0 : Int) ≤ used := by omega
  have u2 : (used : Int) ≤ 1048576 := by omega
  rcases hs with ⟨hu, rfl⟩ | ⟨g, cap, F, rfl, hg, F0, F1, k1, k2⟩
  · have HU := Lib.hid hu
    clear hu
    clear ha hb hv h1 h2 h3 h4 ho hr
    go_enter Tryz.func67, Tryz.ntmps67
    go_wp2_with fail
    go_quiet ((go_at_call 91; exact quiet_left (R.out _)))
    generalize nq = nq1
    go_wp2_with fail
    go_quiet (fail)
    go_wp2_with fail
    have A2 := Lib.hid ((HA.out.set 3 (.int .i64 ((used + 3 : Nat) : Int))).congr (quF3 window most used _ (used + 3)))
    have z1 : ((used : Int) + 3) = ((used + 3 : Nat) : Int) := by omega
    rw [z1]
    clear z1 c1 c2 c3 c4 f3 f4 lb
    have K2 := Lib.hid (((Keeps.refl S w).setCell (p := ⟨b, 3, none⟩) (.inl HO.out.1) (.int .i64 ((used + 3 : Nat) : Int))).drewN (nq1 + nq))
    have A2 := Lib.hid (A2.out.drewN (nq1 + nq))
    generalize hw2 : (w.setCell ⟨b, 3, none⟩ (.int .i64 ((used + 3 : Nat) : Int))).drewN (nq1 + nq) = w2 at *
    clear hw2
    have c2 : w2.cell? ⟨b, 2, none⟩ = some (.int .i64 0) := A2.out.cell (i := 2) (by omega)
    have c4 : w2.cell? ⟨b, 4, none⟩ = some (.slice none 0 0) := A2.out.cell (i := 4) (by omega)
    have f4 := A2.out.free 4
    have lb := A2.out.lt
    have BX := Lib.hid (show ((w2.alloc (.cells #[.int .i64 3, .int .i64 0] 158)).drew).heap[w2.heap.size]? = some (.cells #[.int .i64 3, .int .i64 0] 158 (0, 0)) from heap_at w2 _ _ rfl)
    have B2 := Lib.hid (((Below.refl w2.heap.size w2).alloc (Nat.le_refl _) (.cells #[.int .i64 3, .int .i64 0] 158)).drew)
    go_region_law ((refine step_spent (by rfl) _ _ (by rfl) 3 w2.heap.size (by rfl) (by rfl) BX.out ?_; intro g cap F w3 ha3 F0 F1 k1 k2 hg3 b3; have b3' := B2.out.trans (b3.mono B2.out.size); have c4' := (b3'.cell (p := ⟨b, 4, none⟩) lb).trans c4; have f4' := (b3'.frozen (p := ⟨b, 4, none⟩) lb).trans f4))
    all_goals (
      have A3 := A2.out.below b3' lb
      have hne : g ≠ b := ha3.ne A3 (by decide)
      have FN : QuO b window most (used + 3) (Ext S w (w3.setCell ⟨b, 4, none⟩ (.slice (some ⟨g, 0, none⟩) 1 cap))) (w3.setCell ⟨b, 4, none⟩ (.slice (some ⟨g, 0, none⟩) 1 cap)) := by
        have e1 := K2.out.size
        have e2 := b3'.size
        have e3 := ha3.lt
        refine ⟨_, (A3.set 4 _).congr (quF4 window most (used + 3) _ _), .inr ⟨g, cap, F, rfl, ha3.far hne _ _, by rw [F0, HU.out]; rfl, F1, k1, k2⟩, .inl HO.out.1, fun j e => .inr ?_, HO.out.2.2.1, HO.out.2.2.2.1, HO.out.2.2.2.2.1, HO.out.2.2.2.2.2.1⟩
        obtain rfl : g = j := by simpa [Value.ownBlock] using e
        rw [World.size_setCell]
        have hg3' : w2.heap.size ≤ g := by simpa using Nat.le_trans B2.out.size hg3
        exact ⟨by omega, e3⟩
      have FK : Keeps S w (w3.setCell ⟨b, 4, none⟩ (.slice (some ⟨g, 0, none⟩) 1 cap)) := (K2.out.trans (Keeps.of_below b3') (fun n hn => .inr (Nat.le_trans K2.out.size hn))).setCell (p := ⟨b, 4, none⟩) (.inl HO.out.1) _
      have F := Lib.hid (And.intro FN FK)
      clear FN FK ha3 F0 F1 hg3 b3 b3' c4' f4' A3
      go_wp2
      go_ret
      exact ⟨rfl, F.out⟩)
  · have hgb : b ≠ g := ha.ne hg (by decide)
    have e0 : w.cell? ⟨g, 0, none⟩ = some (.int .i64 (used : Int)) := (hg.cell (i := 0) (by omega)).trans (by rw [F0])
    have e1 : w.cell? ⟨g, 1, none⟩ = some (.int .i64 0) := (hg.cell (i := 1) (by omega)).trans (by rw [F1])
    have g0 := hg.free 0
    have lg := hg.lt
    have FN := Lib.hid (fun n => show QuO b window most (used + 3) (Ext S w (((w.setCell ⟨b, 3, none⟩ (.int .i64 ((used : Int) + 3))).drewN n).setCell ⟨g, 0, none⟩ (.int .i64 ((used : Int) + 3)))) (((w.setCell ⟨b, 3, none⟩ (.int .i64 ((used : Int) + 3))).drewN n).setCell ⟨g, 0, none⟩ (.int .i64 ((used : Int) + 3))) ∧ Keeps S w (((w.setCell ⟨b, 3, none⟩ (.int .i64 ((used : Int) + 3))).drewN n).setCell ⟨g, 0, none⟩ (.int .i64 ((used : Int) + 3))) from by
      have z1 : ((used : Int) + 3) = ((used + 3 : Nat) : Int) := by omega
      rw [z1]
      refine ⟨⟨_, (((ha.set 3 (.int .i64 ((used + 3 : Nat) : Int))).drewN n).far hgb 0 _).congr (quF3 window most used _ (used + 3)), .inr ⟨g, cap, fun k => if k = 0 then .int .i64 ((used + 3 : Nat) : Int) else F k, rfl, ((hg.far hgb.symm 3 _).drewN n).set 0 _, rfl, F1, k1, k2⟩, .inl hb, fun j e => .inl (hv j e), h1, h2, hr, h4⟩, (((Keeps.refl S w).setCell (p := ⟨b, 3, none⟩) (.inl hb) _).drewN n).setCell (p := ⟨g, 0, none⟩) (.inl (hv g rfl)) _⟩)
    have c5 : (1 : Int) ≤ (cap : Int) := by omega
    have c6 : (cap : Int) ≤ 9223372036854775807 := by unfold maxLen at k2; omega
    clear ha hb hv h1 h2 h3 h4 ho hr hg F0 F1 k1 k2
    go_enter Tryz.func67, Tryz.ntmps67
    go_wp2_with fail
    go_quiet ((go_at_call 91; exact quiet_left (R.out _)))
    generalize nq = nq1
    go_wp2_with fail
    go_quiet (fail)
    go_wp2
    go_ret
    exact ⟨rfl, FN.out _⟩
end
end Go.Proofs.YtbgknopjgohocaaGreat
