/- Two devices on one power and the document's, beside the act that is done: each call turns its part. -/
import Derived.Test.YtlfeglnacphhlaaFu
import Derived.Test.YtlfeglnacphhlaaEx
import Derived.Test.YtlfeglnacphhlaaEc
namespace Go.Proofs.Ytlfeglnacphhlaa
open Go.RowKit Go.Maps
set_option linter.unusedVariables false

/-- A function turned at one place. -/
def upd {α : Type} (f : Nat → α) (k : Nat) (v : α) : Nat → α := fun i => if i = k then v else f i
theorem upd_same {α : Type} (f : Nat → α) (k : Nat) (v : α) : upd f k v k = v := if_pos rfl

/-- Two devices and the document's, and the act in block T. -/
def RigT (w0 w : World) (T : Nat) (x : ActV) (t p q : Nat) (dd ee : Nat → Nat) (ps rs : PS) (s r : Nat → DS) : Prop :=
  ∃ A B, Rig w0.heap.size w t p q dd ee A B ps rs s r ∧ Below w0.heap.size w0 w ∧ Arr w T 40 11 (actF x) ∧ (∀ k, k < 2 → ¬ A k T ∧ ¬ B k T) ∧ T ≠ t ∧ T ≠ p ∧ T ≠ q

section
variable {w0 wa w w' : World} {T : Nat} {x : ActV} {t p q : Nat} {dd ee : Nat → Nat} {ps rs ps' rs' : PS} {s r : Nat → DS}

theorem RigT.rig (h : RigT w0 w T x t p q dd ee ps rs s r) : RigO w0 w t p q dd ee ps rs s r := by
  obtain ⟨A, B, hr, hb, _⟩ := h
  exact ⟨A, B, hr, hb⟩

theorem RigT.of (h : RigO w0 w t p q dd ee ps rs s r) (hb : Below w.heap.size w w') (hT : Arr w' T 40 11 (actF x)) (hz : w.heap.size ≤ T) : RigT w0 w' T x t p q dd ee ps rs s r := by
  obtain ⟨A, B, hr, hb0⟩ := h
  have h1 := hr.top.lt
  have h2 := hr.pw.top.lt
  have h3 := hr.rp.lt
  exact ⟨A, B, hr.below hb, hb0.trans (hb.mono hr.size), hT, fun k hk => ⟨fun x => by have := hr.oa k hk T x; omega, fun x => by have := hr.ob k hk T x; omega⟩, by omega, by omega, by omega⟩

theorem RigT.below (h : RigT w0 w T x t p q dd ee ps rs s r) (k : Below w.heap.size w w') : RigT w0 w' T x t p q dd ee ps rs s r := by
  obtain ⟨A, B, hr, hb0, hT, r⟩ := h
  exact ⟨A, B, hr.below k, hb0.trans (k.mono hr.size), hT.below k hT.lt, r⟩
theorem RigT.drew (h : RigT w0 w T x t p q dd ee ps rs s r) : RigT w0 w.drew T x t p q dd ee ps rs s r := h.below (Below.refl _ _).drew
theorem RigT.act (h : RigT w0 w T x t p q dd ee ps rs s r) (j : Nat) (hj : j < 11) : w.cell? ⟨T, j, none⟩ = some (actF x j) := by
  obtain ⟨A, B, hr, hb0, hT, r⟩ := h
  exact hT.cell hj
theorem RigT.top (h : RigT w0 w T x t p q dd ee ps rs s r) (j : Nat) (hj : j < 6) : w.cell? ⟨t, j, none⟩ = some (twF p q dd ee j) := by
  obtain ⟨A, B, hr, hb0, hT, r⟩ := h
  exact hr.top.cell hj
theorem RigT.pw (h : RigT w0 w T x t p q dd ee ps rs s r) : Pow w p ps := by
  obtain ⟨A, B, hr, hb0, hT, r⟩ := h
  exact hr.pw
theorem RigT.rp (h : RigT w0 w T x t p q dd ee ps rs s r) : RPow w q rs := by
  obtain ⟨A, B, hr, hb0, hT, r⟩ := h
  exact hr.rp

theorem RigT.left (h : RigT w0 wa T x t p q dd ee ps rs s r) (b : Below wa.heap.size wa w) {k : Nat} (hk : k < 2) {f : FuncId} {args : Array Value} {V : Ending → World → Prop} {s' : DS}
    (hc : ∀ A, DevO (dd k) p (s k) A w → Own A w → Own A wa → Pow w p ps → p < wa.heap.size → ¬ A p → Calls Try.prog f args w fun e w' => V e w' ∧ DevO (dd k) p s' (Ext A w w') w' ∧ Pow w' p ps' ∧ Keeps (fun j => A j ∨ j = p) w w') :
    Calls Try.prog f args w fun e w' => V e w' ∧ RigT w0 w' T x t p q dd ee ps' rs (upd s k s') r := by
  obtain ⟨A, B, ha, hb0, hT, n1, n2, n3, n4⟩ := h
  have hr := ha.below b
  have hT1 := hT.below b hT.lt
  have hb := hb0.trans (b.mono ha.size)
  refine (hc (A k) (hr.dv k hk) (hr.oa k hk) (ha.oa k hk) hr.pw ha.pw.top.lt (hr.ta k hk).2.1).mono fun e w' ⟨he, hd, hp, kp⟩ => ⟨he, _, B, hr.dev hk hd hp kp, ?_, hT1.keep kp (fun y => y.elim (n1 k hk).1 n3), fun i hi => ⟨?_, (n1 i hi).2⟩, n2, n3, n4⟩
  · exact hb.trans (Keeps.below (kp.mono (T := fun j => w0.heap.size ≤ j) (fun n _ x => x.elim (hr.za k hk n) (fun e => e ▸ hr.zt.2.1))) hr.size)
  · by_cases e : i = k
    · simp only [if_pos e]
      exact fun y => y.elim (n1 k hk).1 (fun z => by have := hT1.lt; omega)
    · simp only [if_neg e]
      exact (n1 i hi).1

theorem RigT.right (h : RigT w0 w T x t p q dd ee ps rs s r) {k : Nat} (hk : k < 2) {f : FuncId} {args : Array Value} {V : Ending → World → Prop} {r' : DS}
    (hc : ∀ A, RvO (ee k) q (r k) A w → Own A w → RPow w q rs → ¬ A q → Calls Try.prog f args w fun e w' => V e w' ∧ RvO (ee k) q r' (Ext A w w') w' ∧ RPow w' q rs' ∧ Keeps (fun j => A j ∨ j = q) w w') :
    Calls Try.prog f args w fun e w' => V e w' ∧ RigT w0 w' T x t p q dd ee ps rs' s (upd r k r') := by
  obtain ⟨A, B, hr, hb, hT, n1, n2, n3, n4⟩ := h
  refine (hc (B k) (hr.rv k hk) (hr.ob k hk) hr.rp (hr.tb k hk).2.2).mono fun e w' ⟨he, hd, hp, kp⟩ => ⟨he, A, _, hr.ref hk hd hp kp, ?_, hT.keep kp (fun y => y.elim (n1 k hk).2 n4), fun i hi => ⟨(n1 i hi).1, ?_⟩, n2, n3, n4⟩
  · exact hb.trans (Keeps.below (kp.mono (T := fun j => w0.heap.size ≤ j) (fun n _ x => x.elim (hr.zb k hk n) (fun e => e ▸ hr.zt.2.2))) hr.size)
  · by_cases e : i = k
    · simp only [if_pos e]
      exact fun y => y.elim (n1 k hk).2 (fun z => by have := hT.lt; omega)
    · simp only [if_neg e]
      exact (n1 i hi).2

/-- A call that turns the power alone. -/
theorem RigT.power (h : RigT w0 w T x t p q dd ee ps rs s r) (hp : Pow w' p ps') (k : Keeps (fun j => j = p) w w') : RigT w0 w' T x t p q dd ee ps' rs s r := by
  obtain ⟨A, B, hr, hb, hT, n1, n2, n3, n4⟩ := h
  exact ⟨A, B, ⟨hr.top.keep k hr.tp.1, hp, hr.rp.keep k (fun e => hr.tp.2.2 e.symm), fun i hi => Rep.keep (hr.dv i hi) (hr.oa i hi) k (fun j x y => (hr.ta i hi).2.1 (y ▸ x)), fun i hi => Rep.keep (hr.rv i hi) (hr.ob i hi) k (fun j x y => (hr.tb i hi).2.1 (y ▸ x)),
    fun i hi => (hr.oa i hi).grow k.size, fun i hi => (hr.ob i hi).grow k.size, hr.ta, hr.tb, hr.tp, hr.aa, hr.bb, hr.ab, hr.za, hr.zb, hr.zt⟩,
    hb.trans (Keeps.below (k.mono (T := fun j => w0.heap.size ≤ j) (fun n _ x => x ▸ hr.zt.2.1)) hr.size), hT.keep k n3, n1, n2, n3, n4⟩
theorem RigT.rpower (h : RigT w0 w T x t p q dd ee ps rs s r) (hp : RPow w' q rs') (k : Keeps (fun j => j = q) w w') : RigT w0 w' T x t p q dd ee ps rs' s r := by
  obtain ⟨A, B, hr, hb, hT, n1, n2, n3, n4⟩ := h
  exact ⟨A, B, ⟨hr.top.keep k hr.tp.2.1, hr.pw.keep k hr.tp.2.2, hp, fun i hi => Rep.keep (hr.dv i hi) (hr.oa i hi) k (fun j x y => (hr.ta i hi).2.2 (y ▸ x)), fun i hi => Rep.keep (hr.rv i hi) (hr.ob i hi) k (fun j x y => (hr.tb i hi).2.2 (y ▸ x)),
    fun i hi => (hr.oa i hi).grow k.size, fun i hi => (hr.ob i hi).grow k.size, hr.ta, hr.tb, hr.tp, hr.aa, hr.bb, hr.ab, hr.za, hr.zb, hr.zt⟩,
    hb.trans (Keeps.below (k.mono (T := fun j => w0.heap.size ≤ j) (fun n _ x => x ▸ hr.zt.2.2)) hr.size), hT.keep k n4, n1, n2, n3, n4⟩

theorem RigT.write (h : RigT w0 wa T x t p q dd ee ps rs s r) {k : Nat} (hk : k < 2) (b : Below wa.heap.size wa w) (n : Int) {v : Value} {c : ByteArray} (hv : w.ownsRow wa.heap.size 5 1 v c.size (octV c)) (hcm : c.size ≤ 9223372036854775807) (hl : (s k).lim < 1000000) :
    Calls Try.prog 11 #[.pointer (some ⟨dd k, 0, none⟩), .int .i64 n, v] w fun e w' => (e = .returned (.int .i64 (writeE (s k) ps n c.size)) ∧ RdB w' v c) ∧ RigT w0 w' T x t p q dd ee (writeP (s k) ps n c.size) rs (upd s k (writeD (s k) ps n c)) r :=
  h.left b hk fun A hd ho ho1 hp hp1 hA => by
    have hvA : ∀ g, v.ownBlock = some g → ¬ A g ∧ g ≠ p := fun g e => by
      have := (hv.lt g e).1
      exact ⟨fun x => by have := ho1 g x; omega, by omega⟩
    exact (dv_write hd ho hp hA n (RdB.of_row hv) hvA hcm hl).mono fun e w' ⟨he, hd, hp, kp⟩ => ⟨⟨he, (RdB.of_row hv).keep kp (fun g e y => y.elim (hvA g e).1 (hvA g e).2)⟩, hd, hp, kp⟩
theorem RigT.rwrite (h : RigT w0 w T x t p q dd ee ps rs s r) {k : Nat} (hk : k < 2) (n : Int) {c : ByteArray} (hcm : c.size ≤ 9223372036854775807) (hl : (r k).lim < 1000000) :
    Calls Try.prog 39 #[.pointer (some ⟨ee k, 0, none⟩), .int .i64 n, .string c] w fun e w' => e = .returned (.int .i64 (writeE (r k) rs n c.size)) ∧ RigT w0 w' T x t p q dd ee ps (writeP (r k) rs n c.size) s (upd r k (writeD (r k) rs n c)) :=
  h.right hk (V := fun e _ => e = .returned (.int .i64 (writeE (r k) rs n c.size))) fun A hd ho hp hA => rv_write hd ho hp hA n hcm hl

theorem RigT.read (h : RigT w0 w T x t p q dd ee ps rs s r) {k : Nat} (hk : k < 2) (n : Int) :
    Calls Try.prog 27 #[.pointer (some ⟨dd k, 0, none⟩), .int .i64 n] w fun e w' => (∃ v, e = .returned (.tuple #[v, .int .i64 (readE (s k) ps n)]) ∧ w'.ownsRow w.heap.size 5 1 v (readC (s k) ps n).size (octV (readC (s k) ps n))) ∧ RigT w0 w' T x t p q dd ee ps rs (upd s k (readD (s k) ps n)) r :=
  h.left (Below.refl _ _) hk (V := fun e w' => ∃ v, e = .returned (.tuple #[v, .int .i64 (readE (s k) ps n)]) ∧ w'.ownsRow w.heap.size 5 1 v (readC (s k) ps n).size (octV (readC (s k) ps n))) fun A hd ho ho1 hp hp1 hA =>
    (dv_read hd ho hp n).mono fun e w' ⟨v, he, hr, hd, kp⟩ => ⟨⟨v, he, hr⟩, hd, hp.keep kp hA, kp.mono (fun _ _ y => .inl y)⟩
theorem RigT.rread (h : RigT w0 w T x t p q dd ee ps rs s r) {k : Nat} (hk : k < 2) (n : Int) (hl : (r k).lim ≤ 1000000) :
    Calls Try.prog 38 #[.pointer (some ⟨ee k, 0, none⟩), .int .i64 n] w fun e w' => e = .returned (.tuple #[.string (readC (r k) rs n), .int .i64 (readE (r k) rs n)]) ∧ RigT w0 w' T x t p q dd ee ps rs s (upd r k (readD (r k) rs n)) :=
  h.right hk (V := fun e w' => e = .returned (.tuple #[.string (readC (r k) rs n), .int .i64 (readE (r k) rs n)])) fun A hd ho hp hA =>
    (rv_read hd hp n hl).mono fun e w' ⟨he, hd, kp⟩ => ⟨he, hd, hp.keep kp hA, kp.mono (fun _ _ y => .inl y)⟩

theorem RigT.flush (h : RigT w0 w T x t p q dd ee ps rs s r) {k : Nat} (hk : k < 2) :
    Calls Try.prog 9 #[.pointer (some ⟨dd k, 0, none⟩)] w fun e w' => e = .returned (.int .i64 (flushE ps)) ∧ RigT w0 w' T x t p q dd ee (flushP ps) rs (upd s k (flushS (s k) ps)) r :=
  h.left (Below.refl _ _) hk (V := fun e w' => e = .returned (.int .i64 (flushE ps))) fun A hd ho ho1 hp hp1 hA => dv_flush hd ho hp hA
theorem RigT.rflush (h : RigT w0 w T x t p q dd ee ps rs s r) {k : Nat} (hk : k < 2) (hl : (r k).lim ≤ 1000000) :
    Calls Try.prog 40 #[.pointer (some ⟨ee k, 0, none⟩)] w fun e w' => e = .returned (.int .i64 (flushE rs)) ∧ RigT w0 w' T x t p q dd ee ps (flushP rs) s (upd r k (flushS (r k) rs)) :=
  h.right hk (V := fun e w' => e = .returned (.int .i64 (flushE rs))) fun A hd ho hp hA => rv_flush hd ho hp hA hl

theorem RigT.rot (h : RigT w0 w T x t p q dd ee ps rs s r) {k : Nat} (hk : k < 2) (n bit : Int) (turn : Nat) (ht : turn < 4294967296) (hl : (s k).lim ≤ 1000000) :
    Calls Try.prog 28 #[.pointer (some ⟨dd k, 0, none⟩), .int .i64 n, .int .i64 bit, .int .u32 (turn : Int)] w fun e w' => e = .returned (.int .i64 (rotE (s k) n bit turn)) ∧ RigT w0 w' T x t p q dd ee ps rs (upd s k (rotS (s k) n bit turn)) r :=
  h.left (Below.refl _ _) hk (V := fun e w' => e = .returned (.int .i64 (rotE (s k) n bit turn))) fun A hd ho ho1 hp hp1 hA =>
    (dv_rot hd ho n bit turn ht hl).mono fun e w' ⟨he, hd, kp⟩ => ⟨he, hd, hp.keep kp hA, kp.mono (fun _ _ y => .inl y)⟩
theorem RigT.rrot (h : RigT w0 w T x t p q dd ee ps rs s r) {k : Nat} (hk : k < 2) (n bit : Int) (turn : Nat) (ht : turn < 4294967296) (hl : (r k).lim ≤ 1000000) (hsz : ∀ i, i < (r k).n → ((r k).fixed i).size = 64) :
    Calls Try.prog 41 #[.pointer (some ⟨ee k, 0, none⟩), .int .i64 n, .int .i64 bit, .int .u32 (turn : Int)] w fun e w' => e = .returned (.int .i64 (rotE (r k) n bit turn)) ∧ RigT w0 w' T x t p q dd ee ps rs s (upd r k (rotS (r k) n bit turn)) :=
  h.right hk (V := fun e w' => e = .returned (.int .i64 (rotE (r k) n bit turn))) fun A hd ho hp hA =>
    (rv_rot hd ho n bit turn ht hl hsz).mono fun e w' ⟨he, hd, kp⟩ => ⟨he, hd, hp.keep kp hA, kp.mono (fun _ _ y => .inl y)⟩

theorem RigT.fail (h : RigT w0 w T x t p q dd ee ps rs s r) {k : Nat} (hk : k < 2) (a b : Nat) (ha : a < 18446744073709551616) (hb : b < 18446744073709551616) :
    Calls Try.prog 25 #[.pointer (some ⟨dd k, 0, none⟩), .int .u64 (a : Int), .int .u64 (b : Int)] w fun e w' => e = .returned (.tuple #[]) ∧ RigT w0 w' T x t p q dd ee ps rs (upd s k { s k with rd := a, wr := b }) r :=
  h.left (Below.refl _ _) hk (V := fun e w' => e = .returned (.tuple #[])) fun A hd ho ho1 hp hp1 hA =>
    (dv_fail hd a b ha hb).mono fun e w' ⟨he, hd, kp⟩ => ⟨he, hd, hp.keep kp hA, kp.mono (fun _ _ y => .inl y)⟩

/-- A store into the document's device. -/
theorem RigT.rset (h : RigT w0 w T x t p q dd ee ps rs s r) {k : Nat} (hk : k < 2) {r' : DS} (hd : ∀ A, RvO (ee k) q (r k) A w → RvO (ee k) q r' A w') (kp : Keeps (fun j => j = ee k) w w') : RigT w0 w' T x t p q dd ee ps rs s (upd r k r') := by
  obtain ⟨A, B, hr, hb, hT, n1, n2, n3, n4⟩ := h
  have hB := hr.rv k hk
  have kp2 : Keeps (fun j => B k j ∨ j = q) w w' := kp.mono (fun n _ y => by
    obtain ⟨G, LV, _, se, _⟩ := hB
    exact .inl (y ▸ se))
  have hq : RPow w' q rs := hr.rp.keep kp (fun e => by
    obtain ⟨G, LV, _, se, _⟩ := hB
    exact (hr.tb k hk).2.2 (e ▸ se))
  refine ⟨A, _, hr.ref hk (Rep.mono (hd _ hB) (fun j y => .inl y)) hq kp2, ?_, hT.keep kp2 (fun y => y.elim (n1 k hk).2 n4), fun i hi => ⟨(n1 i hi).1, ?_⟩, n2, n3, n4⟩
  · exact hb.trans (Keeps.below (kp2.mono (T := fun j => w0.heap.size ≤ j) (fun n _ x => x.elim (hr.zb k hk n) (fun e => e ▸ hr.zt.2.2))) hr.size)
  · by_cases e : i = k
    · simp only [if_pos e]
      exact fun y => y.elim (n1 k hk).2 (fun z => by have := hT.lt; omega)
    · simp only [if_neg e]
      exact (n1 i hi).2

theorem RigT.setRd (h : RigT w0 w T x t p q dd ee ps rs s r) {k : Nat} (hk : k < 2) (n : Nat) (hn : n < 18446744073709551616) : RigT w0 (w.setCell ⟨ee k, 2, none⟩ (.int .u64 (n : Int))) T x t p q dd ee ps rs s (upd r k { r k with rd := n }) :=
  h.rset hk (fun A ⟨G, LV, hd, rr⟩ => ⟨G, LV, hd.setRd n hn, rr⟩) (keep_cell _ _ _ _)
theorem RigT.setWr (h : RigT w0 w T x t p q dd ee ps rs s r) {k : Nat} (hk : k < 2) (n : Nat) (hn : n < 18446744073709551616) : RigT w0 (w.setCell ⟨ee k, 3, none⟩ (.int .u64 (n : Int))) T x t p q dd ee ps rs s (upd r k { r k with wr := n }) :=
  h.rset hk (fun A ⟨G, LV, hd, rr⟩ => ⟨G, LV, hd.setWr n hn, rr⟩) (keep_cell _ _ _ _)
theorem RigT.ecell (h : RigT w0 w T x t p q dd ee ps rs s r) {k : Nat} (hk : k < 2) : (∃ v, w.cell? ⟨ee k, 2, none⟩ = some v) ∧ (∃ v, w.cell? ⟨ee k, 3, none⟩ = some v) ∧ ∀ j, w.frozen? ⟨ee k, j, none⟩ = false := by
  obtain ⟨A, B, hr, _⟩ := h
  obtain ⟨G, LV, hd, _⟩ := hr.rv k hk
  exact ⟨⟨_, hd.c2⟩, ⟨_, hd.c3⟩, fun j => hd.top.free j⟩

/-- Sectors are of the size of sectors. -/
theorem RigT.size64 (h : RigT w0 w T x t p q dd ee ps rs s r) {k : Nat} (hk : k < 2) : ∀ i, i < (s k).n → ((s k).fixed i).size = 64 := fun i hi => by
  obtain ⟨A, B, hr, _⟩ := h
  obtain ⟨R, hd, _⟩ := hr.dv k hk
  exact (hd.fb i hi).size
end

end Go.Proofs.Ytlfeglnacphhlaa
