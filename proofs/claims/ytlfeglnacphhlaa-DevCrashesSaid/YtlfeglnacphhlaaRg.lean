/- Two devices on one power, and the document's: what stands in memory; begin. -/
import Derived.Test.YtlfeglnacphhlaaEe
import Derived.Test.YtlfeglnacphhlaaDw
namespace Go.Proofs.Ytlfeglnacphhlaa
open Go.RowKit Go.Maps
set_option linter.unusedVariables false

def twF (p q : Nat) (dd ee : Nat → Nat) : Nat → Value
  | 0 => .pointer (some ⟨p, 0, none⟩)
  | 1 => .pointer (some ⟨dd 0, 0, none⟩)
  | 2 => .pointer (some ⟨dd 1, 0, none⟩)
  | 3 => .pointer (some ⟨q, 0, none⟩)
  | 4 => .pointer (some ⟨ee 0, 0, none⟩)
  | _ => .pointer (some ⟨ee 1, 0, none⟩)

/-- Two devices on one power, and the document's, all apart, made since a world of size z. -/
structure Rig (z : Nat) (w : World) (t p q : Nat) (dd ee : Nat → Nat) (A B : Nat → Nat → Prop) (ps rs : PS) (s r : Nat → DS) : Prop where
  top : Arr w t 34 6 (twF p q dd ee)
  pw : Pow w p ps
  rp : RPow w q rs
  dv : ∀ k, k < 2 → DevO (dd k) p (s k) (A k) w
  rv : ∀ k, k < 2 → RvO (ee k) q (r k) (B k) w
  oa : ∀ k, k < 2 → Own (A k) w
  ob : ∀ k, k < 2 → Own (B k) w
  ta : ∀ k, k < 2 → ¬ A k t ∧ ¬ A k p ∧ ¬ A k q
  tb : ∀ k, k < 2 → ¬ B k t ∧ ¬ B k p ∧ ¬ B k q
  tp : t ≠ p ∧ t ≠ q ∧ p ≠ q
  aa : ∀ j, A 0 j → ¬ A 1 j
  bb : ∀ j, B 0 j → ¬ B 1 j
  ab : ∀ k l, k < 2 → l < 2 → ∀ j, A k j → ¬ B l j
  za : ∀ k, k < 2 → ∀ j, A k j → z ≤ j
  zb : ∀ k, k < 2 → ∀ j, B k j → z ≤ j
  zt : z ≤ t ∧ z ≤ p ∧ z ≤ q

section
variable {z : Nat} {w w' : World} {t p q : Nat} {dd ee : Nat → Nat} {A B : Nat → Nat → Prop} {ps rs : PS} {s r : Nat → DS}

theorem Rig.keep {T : Nat → Prop} (h : Rig z w t p q dd ee A B ps rs s r) (k : Keeps T w w') (hT : ∀ j, T j → w.heap.size ≤ j ∨ (j < z)) : Rig z w' t p q dd ee A B ps rs s r := by
  have hn : ∀ j, z ≤ j → j < w.heap.size → ¬ T j := fun j h1 h2 x => by have := hT j x; omega
  exact { h with
    top := h.top.keep k (hn _ h.zt.1 h.top.lt)
    pw := h.pw.keep k (hn _ h.zt.2.1 h.pw.top.lt)
    rp := h.rp.keep k (hn _ h.zt.2.2 h.rp.lt)
    dv := fun i hi => Rep.keep (h.dv i hi) (h.oa i hi) k (fun j x => hn _ (h.za i hi j x) (h.oa i hi j x))
    rv := fun i hi => Rep.keep (h.rv i hi) (h.ob i hi) k (fun j x => hn _ (h.zb i hi j x) (h.ob i hi j x))
    oa := fun i hi => (h.oa i hi).grow k.size
    ob := fun i hi => (h.ob i hi).grow k.size }

theorem Rig.below (h : Rig z w t p q dd ee A B ps rs s r) (k : Below w.heap.size w w') : Rig z w' t p q dd ee A B ps rs s r :=
  h.keep (Keeps.of_below k) (fun j x => .inl x)

theorem Rig.size (h : Rig z w t p q dd ee A B ps rs s r) : z ≤ w.heap.size := by have := h.zt.1; have := h.top.lt; omega

/-- A call that turns a device, and its power. -/
theorem Rig.dev (h : Rig z w t p q dd ee A B ps rs s r) {k : Nat} (hk : k < 2) {s' : DS} {ps' : PS} (hd : DevO (dd k) p s' (Ext (A k) w w') w') (hp : Pow w' p ps') (kp : Keeps (fun j => A k j ∨ j = p) w w') :
    Rig z w' t p q dd ee (fun i => if i = k then Ext (A k) w w' else A i) B ps' rs (fun i => if i = k then s' else s i) r := by
  have hsz := kp.size
  have hz := h.size
  have hA : ∀ i, i < 2 → i ≠ k → ∀ j, A i j → ¬ (A k j ∨ j = p) := fun i hi hik j x y => by
    rcases y with y | y
    · have : (i = 0 ∧ k = 1) ∨ (i = 1 ∧ k = 0) := by omega
      rcases this with ⟨rfl, rfl⟩ | ⟨rfl, rfl⟩
      · exact h.aa j x y
      · exact h.aa j y x
    · exact (h.ta i hi).2.1 (y ▸ x)
  have hB : ∀ i, i < 2 → ∀ j, B i j → ¬ (A k j ∨ j = p) := fun i hi j x y => y.elim (fun y => h.ab k i hk hi j y x) (fun y => (h.tb i hi).2.1 (y ▸ x))
  refine ⟨h.top.keep kp (fun x => x.elim (h.ta k hk).1 h.tp.1), hp, h.rp.keep kp (fun x => x.elim (h.ta k hk).2.2 (fun e => h.tp.2.2 e.symm)), fun i hi => ?_, fun i hi => Rep.keep (h.rv i hi) (h.ob i hi) kp (hB i hi), fun i hi => ?_, fun i hi => (h.ob i hi).grow hsz, fun i hi => ?_, h.tb, h.tp, fun j x y => ?_, h.bb, fun i l hi hl j x y => ?_, fun i hi j x => ?_, h.zb, h.zt⟩
  · by_cases e : i = k
    · subst e; simp only [if_true]; exact hd
    · simp only [if_neg e]; exact Rep.keep (h.dv i hi) (h.oa i hi) kp (hA i hi e)
  · by_cases e : i = k
    · subst e; simp only [if_true]; exact (h.oa i hi).ext hsz
    · simp only [if_neg e]; exact (h.oa i hi).grow hsz
  · by_cases e : i = k
    · subst e; simp only [if_true]
      have h1 := h.top.lt
      have h2 := h.pw.top.lt
      have h3 := h.rp.lt
      exact ⟨fun x => x.elim (h.ta i hi).1 (fun y => by omega), fun x => x.elim (h.ta i hi).2.1 (fun y => by omega), fun x => x.elim (h.ta i hi).2.2 (fun y => by omega)⟩
    · simp only [if_neg e]; exact h.ta i hi
  · have o0 := h.oa 0 (by omega)
    have o1 := h.oa 1 (by omega)
    have : k = 0 ∨ k = 1 := by omega
    rcases this with rfl | rfl
    · simp only [if_true, if_neg (show ¬ (1 : Nat) = 0 by omega)] at x y
      exact x.elim (fun x => h.aa j x y) (fun x => by have := o1 j y; omega)
    · simp only [if_true, if_neg (show ¬ (0 : Nat) = 1 by omega)] at x y
      exact y.elim (fun y => h.aa j x y) (fun y => by have := o0 j x; omega)
  · by_cases e : i = k
    · subst e; simp only [if_true] at x
      exact x.elim (fun x => h.ab i l hi hl j x y) (fun x => by have := h.ob l hl j y; omega)
    · simp only [if_neg e] at x; exact h.ab i l hi hl j x y
  · by_cases e : i = k
    · subst e; simp only [if_true] at x
      exact x.elim (fun x => h.za i hi j x) (fun x => by omega)
    · simp only [if_neg e] at x; exact h.za i hi j x

/-- A call that turns a device of the document's, and its power. -/
theorem Rig.ref (h : Rig z w t p q dd ee A B ps rs s r) {k : Nat} (hk : k < 2) {r' : DS} {rs' : PS} (hd : RvO (ee k) q r' (Ext (B k) w w') w') (hp : RPow w' q rs') (kp : Keeps (fun j => B k j ∨ j = q) w w') :
    Rig z w' t p q dd ee A (fun i => if i = k then Ext (B k) w w' else B i) ps rs' s (fun i => if i = k then r' else r i) := by
  have hsz := kp.size
  have hz := h.size
  have hB : ∀ i, i < 2 → i ≠ k → ∀ j, B i j → ¬ (B k j ∨ j = q) := fun i hi hik j x y => by
    rcases y with y | y
    · have : (i = 0 ∧ k = 1) ∨ (i = 1 ∧ k = 0) := by omega
      rcases this with ⟨rfl, rfl⟩ | ⟨rfl, rfl⟩
      · exact h.bb j x y
      · exact h.bb j y x
    · exact (h.tb i hi).2.2 (y ▸ x)
  have hA : ∀ i, i < 2 → ∀ j, A i j → ¬ (B k j ∨ j = q) := fun i hi j x y => y.elim (fun y => h.ab i k hi hk j x y) (fun y => (h.ta i hi).2.2 (y ▸ x))
  refine ⟨h.top.keep kp (fun x => x.elim (h.tb k hk).1 h.tp.2.1), h.pw.keep kp (fun x => x.elim (h.tb k hk).2.1 h.tp.2.2), hp, fun i hi => Rep.keep (h.dv i hi) (h.oa i hi) kp (hA i hi), fun i hi => ?_, fun i hi => (h.oa i hi).grow hsz, fun i hi => ?_, h.ta, fun i hi => ?_, h.tp, h.aa, fun j x y => ?_, fun l i hl hi j x y => ?_, h.za, fun i hi j x => ?_, h.zt⟩
  · by_cases e : i = k
    · subst e; simp only [if_true]; exact hd
    · simp only [if_neg e]; exact Rep.keep (h.rv i hi) (h.ob i hi) kp (hB i hi e)
  · by_cases e : i = k
    · subst e; simp only [if_true]; exact (h.ob i hi).ext hsz
    · simp only [if_neg e]; exact (h.ob i hi).grow hsz
  · by_cases e : i = k
    · subst e; simp only [if_true]
      have h1 := h.top.lt
      have h2 := h.pw.top.lt
      have h3 := h.rp.lt
      exact ⟨fun x => x.elim (h.tb i hi).1 (fun y => by omega), fun x => x.elim (h.tb i hi).2.1 (fun y => by omega), fun x => x.elim (h.tb i hi).2.2 (fun y => by omega)⟩
    · simp only [if_neg e]; exact h.tb i hi
  · have o0 := h.ob 0 (by omega)
    have o1 := h.ob 1 (by omega)
    have : k = 0 ∨ k = 1 := by omega
    rcases this with rfl | rfl
    · simp only [if_true, if_neg (show ¬ (1 : Nat) = 0 by omega)] at x y
      exact x.elim (fun x => h.bb j x y) (fun x => by have := o1 j y; omega)
    · simp only [if_true, if_neg (show ¬ (0 : Nat) = 1 by omega)] at x y
      exact y.elim (fun y => h.bb j x y) (fun y => by have := o0 j x; omega)
  · by_cases e : i = k
    · subst e; simp only [if_true] at y
      exact y.elim (fun y => h.ab l i hl hi j x y) (fun y => by have := h.oa l hl j x; omega)
    · simp only [if_neg e] at y; exact h.ab l i hl hi j x y
  · by_cases e : i = k
    · subst e; simp only [if_true] at x
      exact x.elim (fun x => h.zb i hi j x) (fun x => by omega)
    · simp only [if_neg e] at x; exact h.zb i hi j x
end

/-- .. somewhere; what stood before z has not turned. -/
def RigO (w0 w : World) (t p q : Nat) (dd ee : Nat → Nat) (ps rs : PS) (s r : Nat → DS) : Prop := ∃ A B, Rig w0.heap.size w t p q dd ee A B ps rs s r ∧ Below w0.heap.size w0 w

end Go.Proofs.Ytlfeglnacphhlaa
