/- Objects by the blocks that they own: an object that is kept where other blocks turn; two objects apart, side by side. -/
import Derived.Test.YtbgknopjgohocaaGreatArr
namespace Go.Proofs.YtbgknopjgohocaaGreat
open Go.RowKit
set_option linter.unusedVariables false

/-- A set of blocks that stand. -/
def Own (S : Nat → Prop) (w : World) : Prop := ∀ k, S k → k < w.heap.size

theorem Own.grow {S : Nat → Prop} {w w' : World} (h : Own S w) (hs : w.heap.size ≤ w'.heap.size) : Own S w' := fun k hk => Nat.lt_of_lt_of_le (h k hk) hs
theorem Own.ext {S : Nat → Prop} {w w' : World} (h : Own S w) (hs : w.heap.size ≤ w'.heap.size) : Own (Ext S w w') w' := fun k hk => hk.elim (fun a => Nat.lt_of_lt_of_le (h k a) hs) (fun a => a.2)
theorem Own.drewN {S : Nat → Prop} {w : World} (h : Own S w) (n : Nat) : Own S (w.drewN n) := h

/-- A word on an object that asks for the blocks of S alone. -/
class Rep (R : (Nat → Prop) → World → Prop) : Prop where
  keep : ∀ {S T : Nat → Prop} {w w' : World}, R S w → Own S w → Keeps T w w' → (∀ k, S k → ¬ T k) → R S w'
  mono : ∀ {S T : Nat → Prop} {w : World}, R S w → (∀ k, S k → T k) → R T w

theorem Rep.drewN {R : (Nat → Prop) → World → Prop} [Rep R] {S : Nat → Prop} {w : World} (h : R S w) (ho : Own S w) (n : Nat) : R S (w.drewN n) :=
  Rep.keep h ho ((Keeps.refl (fun _ => False) w).drewN n) (fun _ _ x => x)

theorem ext_trans {S : Nat → Prop} {a b c : World} (h1 : a.heap.size ≤ b.heap.size) (h2 : b.heap.size ≤ c.heap.size) : ∀ k, Ext (Ext S a b) b c k → Ext S a c k := fun k h => by
  rcases h with (h | h) | h
  · exact .inl h
  · exact .inr ⟨h.1, by omega⟩
  · exact .inr ⟨by omega, h.2⟩

theorem Keeps.extT {S : Nat → Prop} {a b c : World} (h : Keeps S a b) (k : Keeps (Ext S a b) b c) : Keeps S a c := h.trans k (fun n hn => hn.elim .inl (fun x => .inr x.1))

/-- Two objects whose blocks are apart. -/
def Two (R Q : (Nat → Prop) → World → Prop) (S : Nat → Prop) (w : World) : Prop :=
  ∃ A B : Nat → Prop, (∀ k, A k → S k) ∧ (∀ k, B k → S k) ∧ Own A w ∧ Own B w ∧ (∀ k, A k → ¬ B k) ∧ R A w ∧ Q B w

section
variable {R Q R' Q' : (Nat → Prop) → World → Prop} {S T : Nat → Prop} {w w' : World}
theorem Two.mono (h : Two R Q S w) (hs : ∀ k, S k → T k) : Two R Q T w := by
  obtain ⟨A, B, ha, hb, r⟩ := h
  exact ⟨A, B, fun k x => hs k (ha k x), fun k x => hs k (hb k x), r⟩
theorem Two.own (h : Two R Q S w) : Two R Q (fun k => S k ∧ k < w.heap.size) w := by
  obtain ⟨A, B, ha, hb, oa, ob, r⟩ := h
  exact ⟨A, B, fun k x => ⟨ha k x, oa k x⟩, fun k x => ⟨hb k x, ob k x⟩, oa, ob, r⟩
theorem Two.keep [Rep R] [Rep Q] (h : Two R Q S w) (k : Keeps T w w') (ht : ∀ k, S k → ¬ T k) : Two R Q S w' := by
  obtain ⟨A, B, ha, hb, oa, ob, hd, r, q⟩ := h
  exact ⟨A, B, ha, hb, oa.grow k.size, ob.grow k.size, hd, Rep.keep r oa k (fun n x => ht n (ha n x)), Rep.keep q ob k (fun n x => ht n (hb n x))⟩
instance [Rep R] [Rep Q] : Rep (Two R Q) where
  keep := fun h _ k ht => h.keep k ht
  mono := fun h hs => h.mono hs
theorem Two.drewN [Rep R] [Rep Q] (h : Two R Q S w) (n : Nat) : Two R Q S (w.drewN n) := h.keep ((Keeps.refl (fun _ => False) w).drewN n) (fun _ _ x => x)
theorem Two.swap (h : Two R Q S w) : Two Q R S w := by
  obtain ⟨A, B, ha, hb, oa, ob, hd, r, q⟩ := h
  exact ⟨B, A, hb, ha, ob, oa, fun k x y => hd k y x, q, r⟩

/-- A call that turns the first of both. -/
theorem Two.left [Rep Q] {P : Program} {f : FuncId} {args : Array Value} {V : Ending → Prop} (h : Two R Q S w)
    (hc : ∀ A, R A w → Own A w → Calls P f args w fun e w' => V e ∧ R' (Ext A w w') w' ∧ Keeps A w w') :
    Calls P f args w fun e w' => V e ∧ Two R' Q (Ext S w w') w' ∧ Keeps S w w' := by
  obtain ⟨A, B, ha, hb, oa, ob, hd, r, q⟩ := h
  refine (hc A r oa).mono fun e w' ⟨he, hr, hk⟩ => ⟨he, ⟨Ext A w w', B, fun k x => x.elim (fun y => .inl (ha k y)) .inr, fun k x => .inl (hb k x), oa.ext hk.size, ob.grow hk.size, fun k x y => ?_, hr, Rep.keep q ob hk (fun k x y => hd k y x)⟩, hk.mono (fun n _ x => ha n x)⟩
  rcases x with x | x
  · exact hd k x y
  · have := ob k y; omega
theorem Two.right [Rep R] {P : Program} {f : FuncId} {args : Array Value} {V : Ending → Prop} (h : Two R Q S w)
    (hc : ∀ A, Q A w → Own A w → Calls P f args w fun e w' => V e ∧ Q' (Ext A w w') w' ∧ Keeps A w w') :
    Calls P f args w fun e w' => V e ∧ Two R Q' (Ext S w w') w' ∧ Keeps S w w' :=
  (h.swap.left hc).mono fun e w' ⟨he, ht, hk⟩ => ⟨he, ht.swap, hk⟩

/-- A new object beside an elder one. -/
theorem Two.new [Rep R] {B : Nat → Prop} (h : R S w) (ho : Own S w) (k : Below w.heap.size w w') (q : Q B w') (hB : ∀ j, B j → w.heap.size ≤ j ∧ j < w'.heap.size) : Two R Q (Ext S w w') w' :=
  ⟨S, B, fun k x => .inl x, fun k x => .inr (hB k x), ho.grow k.size, fun j x => (hB j x).2, fun j x y => by have := ho j x; have := hB j y; omega, Rep.keep h ho (Keeps.of_below k) (fun j x => by have := ho j x; omega), q⟩
end

/-- What came since w. -/
def New (w w' : World) : Nat → Prop := fun k => w.heap.size ≤ k ∧ k < w'.heap.size
theorem new_own (w w' : World) : Own (New w w') w' := fun _ h => h.2
theorem Below.keeps {w w' : World} (h : Below w.heap.size w w') (S : Nat → Prop) (hS : Own S w) : Keeps S w w' := (Keeps.of_below h).mono (fun n hn x => by omega)

/-- A call that leaves what stood: what it makes is new. -/
theorem Keeps.news {S : Nat → Prop} {a b c : World} (hb : Below a.heap.size a b) (hS : ∀ k, S k → a.heap.size ≤ k) (k : Keeps S b c) : Below a.heap.size a c :=
  hb.trans ((k.mono (T := fun j => a.heap.size ≤ j) (fun n _ x => hS n x)).below hb.size)

theorem new_ext {a b c : World} (h1 : a.heap.size ≤ b.heap.size) (h2 : b.heap.size ≤ c.heap.size) : ∀ k, Ext (New a b) b c k → New a c k := fun k h => by
  rcases h with h | h
  · exact ⟨h.1, by have := h.2; omega⟩
  · exact ⟨by omega, h.2⟩

/-- An object that was made since w0, and nothing of what stood has turned. -/
def Run1 (R : (Nat → Prop) → World → Prop) (w0 w : World) : Prop := R (New w0 w) w ∧ Below w0.heap.size w0 w
/-- Two such objects. -/
def Run2 (R Q : (Nat → Prop) → World → Prop) (w0 w : World) : Prop := Two R Q (New w0 w) w ∧ Below w0.heap.size w0 w

section
variable {R Q R' Q' : (Nat → Prop) → World → Prop} {w0 w : World}
theorem Run1.step [Rep R'] {P : Program} {f : FuncId} {args : Array Value} {V : Ending → Prop} (h : Run1 R w0 w)
    (hc : ∀ A, R A w → Own A w → Calls P f args w fun e w' => V e ∧ R' (Ext A w w') w' ∧ Keeps A w w') : Calls P f args w fun e w' => V e ∧ Run1 R' w0 w' :=
  (hc _ h.1 (new_own _ _)).mono fun e w' ⟨he, hr, hk⟩ => ⟨he, Rep.mono hr (new_ext h.2.size hk.size), hk.news h.2 (fun k x => x.1)⟩
theorem Run2.left [Rep Q] {P : Program} {f : FuncId} {args : Array Value} {V : Ending → Prop} (h : Run2 R Q w0 w)
    (hc : ∀ A, R A w → Own A w → Calls P f args w fun e w' => V e ∧ R' (Ext A w w') w' ∧ Keeps A w w') : Calls P f args w fun e w' => V e ∧ Run2 R' Q w0 w' :=
  (h.1.left hc).mono fun e w' ⟨he, ht, hk⟩ => ⟨he, ht.mono (new_ext h.2.size hk.size), hk.news h.2 (fun k x => x.1)⟩
theorem Run2.right [Rep R] {P : Program} {f : FuncId} {args : Array Value} {V : Ending → Prop} (h : Run2 R Q w0 w)
    (hc : ∀ A, Q A w → Own A w → Calls P f args w fun e w' => V e ∧ Q' (Ext A w w') w' ∧ Keeps A w w') : Calls P f args w fun e w' => V e ∧ Run2 R Q' w0 w' :=
  (h.1.right hc).mono fun e w' ⟨he, ht, hk⟩ => ⟨he, ht.mono (new_ext h.2.size hk.size), hk.news h.2 (fun k x => x.1)⟩
theorem Run1.keep [Rep R] {w' : World} (h : Run1 R w0 w) (k : Below w.heap.size w w') : Run1 R w0 w' :=
  ⟨Rep.mono (Rep.keep h.1 (new_own _ _) (Keeps.of_below k) (fun k x => by have := x.2; omega)) (fun k x => ⟨x.1, by have := x.2; have := ‹Below w.heap.size w w'›.size; omega⟩), h.2.trans (k.mono h.2.size)⟩
theorem Run2.keep [Rep R] [Rep Q] {w' : World} (h : Run2 R Q w0 w) (k : Below w.heap.size w w') : Run2 R Q w0 w' :=
  ⟨(h.1.keep (Keeps.of_below k) (fun k x => by have := x.2; omega)).mono (fun j x => ⟨x.1, by have := x.2; have := k.size; omega⟩), h.2.trans (k.mono h.2.size)⟩
theorem Run1.drew [Rep R] (h : Run1 R w0 w) : Run1 R w0 w.drew := h.keep (Below.refl _ w).drew
theorem Run2.drew [Rep R] [Rep Q] (h : Run2 R Q w0 w) : Run2 R Q w0 w.drew := h.keep (Below.refl _ w).drew
theorem Run1.new {w' : World} (h : R (New w w') w') (hb : Below w.heap.size w w') : Run1 R w w' := ⟨h, hb⟩
theorem Run1.and [Rep R] {w' : World} (h : Run1 R w0 w) (q : Q (New w w') w') (hb : Below w.heap.size w w') : Run2 R Q w0 w' :=
  ⟨(Two.new h.1 (new_own _ _) hb q (fun j x => x)).mono (new_ext h.2.size hb.size), h.2.trans (hb.mono h.2.size)⟩
end

/-! ### Quiet calls whose contract has the caller's world on the left -/
theorem quiet_left {P : Program} {f : FuncId} {args : Array Value} {w : World} {n : Nat} {v : Value}
    (h : Calls P f args (w.drewN n) fun e w' => e = .returned v ∧ w.drewN n = w') : Calls P f args (w.drewN n) fun e w' => e = .returned v ∧ ∃ m, w' = w.drewN m :=
  h.mono fun _ _ ⟨he, hm⟩ => ⟨he, n, hm.symm⟩
theorem quiet_add {P : Program} {f : FuncId} {args : Array Value} {w : World} {n : Nat} {v : Value}
    (h : Calls P f args (w.drewN n) fun e w' => e = .returned v ∧ ∃ m, w' = (w.drewN n).drewN m) : Calls P f args (w.drewN n) fun e w'' => e = .returned v ∧ ∃ m, w'' = w.drewN m :=
  h.mono fun _ _ ⟨he, m, hm⟩ => ⟨he, n + m, by rw [hm, World.drewN_drewN]⟩

end Go.Proofs.YtbgknopjgohocaaGreat
