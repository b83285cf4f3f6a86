/- What a policy holds, and what its calls make of it: plain law. Objects on the way through a walk. -/
import Derived.Test.YtbgknopjgohocaaGreatTa
import Derived.Test.YtbgknopjgohocaaGreatZI
import Derived.Test.YtbgknopjgohocaaGreatZC
import Derived.Test.YtbgknopjgohocaaGreatZJ
namespace Go.Proofs.YtbgknopjgohocaaGreat
open Go.RowKit Fl
open Scan hiding isN
set_option linter.unusedVariables false

/-! ### Reads as a row -/
def zL (l : List Int) (i : Nat) : Int := l.getD i 0
theorem rowN_congr {z z' : Nat → Int} : ∀ k, (∀ i, i < k → z i = z' i) → rowN z k = rowN z' k
  | 0, _ => rfl
  | 1, _ => rfl
  | k + 2, h => by
    rw [rowN, rowN, rowN_congr (k + 1) (fun i hi => h i (by omega)), h k (by omega), h (k + 1) (by omega)]
theorem scansN_congr {z z' : Nat → Int} (long : Int) : ∀ k, (∀ i, i < k → z i = z' i) → scansN z long k = scansN z' long k
  | 0, _ => rfl
  | k + 1, h => by
    rw [scansN, scansN, scansN_congr long k (fun i hi => h i (by omega)), rowN_congr (k + 1) h]
theorem zL_old (l : List Int) (x : Int) {i : Nat} (h : i < l.length) : zL (l ++ [x]) i = zL l i := by
  unfold zL
  simp [h, List.getElem?_append_left h]
theorem zL_new (l : List Int) (x : Int) : zL (l ++ [x]) l.length = x := by
  unfold zL
  simp
theorem after_old (long s0 : Int) (l : List Int) (x : Int) : after long s0 (zL l) l.length = after long s0 (zL (l ++ [x])) l.length := by
  unfold after
  rw [rowN_congr l.length (fun i hi => (zL_old l x hi).symm), scansN_congr long l.length (fun i hi => (zL_old l x hi).symm)]
  by_cases h0 : l.length = 0
  · rw [if_pos h0, if_pos h0]
  · rw [if_neg h0, if_neg h0, zL_old l x (by omega)]
theorem note_more (long s0 : Int) (l : List Int) (x : Int) (hx : x ≤ 9223372036854775807) : note (after long s0 (zL l) l.length) x = after long s0 (zL (l ++ [x])) (l ++ [x]).length := by
  have h := note_after long s0 (zL (l ++ [x])) l.length (by rw [zL_new]; exact hx)
  rw [zL_new, ← after_old] at h
  rw [List.length_append]
  exact h
theorem isB_more (long s0 : Int) (l : List Int) (x : Int) (hx : x ≤ 9223372036854775807) : isB (after long s0 (zL l) l.length) x = Scan.isN (zL (l ++ [x])) long (l ++ [x]).length := by
  have h := isB_after long s0 (zL (l ++ [x])) l.length (by rw [zL_new]; exact hx)
  rw [zL_new, ← after_old] at h
  rw [List.length_append]
  exact h
theorem after_none (long s0 : Int) (l : List Int) : { after long s0 (zL l) l.length with row := 0, last := none } = after long (s0 + scansN (zL l) long l.length) (zL []) ([] : List Int).length := by
  unfold after
  simp [rowN, scansN]

/-! ### What a policy is made of, and what it holds -/
structure PC where
  n : Nat
  most : Nat
  width : Nat
  sample : Nat
  cap : Nat
  seed : Int
  long : Int
  margin : Nat
structure PV where
  low : List Nat
  high : List Nat
  lb : Nat → Int
  t : TS
  G : List Int
  N : Nat
  rd : List Int
  s0 : Int
  scan : Bool
structure PK (c : PC) : Prop where
  n0 : 1 ≤ c.n
  n1 : c.n ≤ 192
  mn : c.most ≤ c.n
  w0 : 1 ≤ c.width
  w1 : c.width ≤ 4096
  m0 : 1 ≤ c.sample
  m1 : c.sample ≤ 1048576
  cap : c.cap ≤ 1024
  s0 : 0 ≤ c.seed
  s1 : c.seed ≤ 18446744073709551615
  l0 : 0 ≤ c.long
  l1 : c.long ≤ 1048576
  mg : c.margin < 18446744073709551616
def i64 (x : Int) : Prop := -9223372036854775808 ≤ x ∧ x ≤ 9223372036854775807
structure PB (s : PV) : Prop where
  lb : ∀ i, i64 (s.lb i)
  rd : ∀ x ∈ s.rd, i64 x
  s0 : 0 ≤ s.s0
  cnt : s.s0 + s.rd.length ≤ s.N
  N : s.N ≤ 1000000

theorem zL_i64 {l : List Int} (h : ∀ x ∈ l, i64 x) (i : Nat) : i64 (zL l i) := by
  unfold zL
  rw [List.getD_eq_getElem?_getD]
  cases hi : l[i]? with
  | none => exact ⟨by decide, by decide⟩
  | some x => exact h x (List.mem_of_getElem? hi)

/-- A block's key. -/
def kU (x : Int) : Int := IntKind.u64.wrap x
theorem kU_mod (x : Int) : kU x = x % 18446744073709551616 := rfl
theorem kU_bd (x : Int) : 0 ≤ kU x ∧ kU x ≤ 18446744073709551615 := by rw [kU_mod]; omega

def wtP (c : PC) (s : PV) : Wt := after c.long s.s0 (zL s.rd) s.rd.length
def thinkP (c : PC) (s : PV) (x : Int) : Nat := thinkT (pickN c.seed (kU x) c.width) s.t
def readP (c : PC) (s : PV) (x : Int) : PV :=
  { s with t := seeT (pickN c.seed (kU x) c.width) c.sample s.t, rd := s.rd ++ [x], scan := Scan.isN (zL (s.rd ++ [x])) c.long (s.rd ++ [x]).length, N := s.N + 1 }
def hitP (c : PC) (s : PV) (m : Int) : Bool × PV :=
  ((toS c.most m s.low s.high).1, { s with low := (toS c.most m s.low s.high).2.1, high := (toS c.most m s.low s.high).2.2 })
def enterP (c : PC) (s : PV) (m x : Int) : Bool × PV :=
  if (enS c.n m s.low s.high).1 = true then
    (true, { s with low := (enS c.n m s.low s.high).2.1, high := (enS c.n m s.low s.high).2.2, lb := fun i => if i = m.toNat then x else s.lb i, G := woK (kU x) s.G })
  else (false, s)
def leaveP (c : PC) (s : PV) (m : Int) (g : Bool) : Bool × PV :=
  if (lvS m s.low s.high).1 = true then
    (true, if g = true then { s with low := (lvS m s.low s.high).2.1, high := (lvS m s.low s.high).2.2, G := putG c.cap s.G (kU (s.lb m.toNat)), N := s.N + 1 }
      else { s with low := (lvS m s.low s.high).2.1, high := (lvS m s.low s.high).2.2 })
  else (false, s)
def vicP (s : PV) : Nat := (s.low ++ s.high).headD 0
def anyP (s : PV) : Bool := !(s.low ++ s.high).isEmpty
def vicN (s : PV) : Int := if anyP s = true then (vicP s : Int) else 0
def vicL (s : PV) : Int := if anyP s = true then s.lb (vicP s) else 0
def welP (c : PC) (s : PV) (x : Int) : Bool :=
  if s.scan = true then false else
  if anyP s = true then (if kU x ∈ s.G then true else overB (thinkP c s x) c.margin (thinkP c s (vicL s))) else true
def scansP (c : PC) (s : PV) : Int := s.s0 + scansN (zL s.rd) c.long s.rd.length
def resetP (c : PC) (s : PV) : PV := { s with G := [], rd := [], s0 := scansP c s, scan := false }

theorem PB.readP {c : PC} {s : PV} (h : PB s) (hN : s.N < 1000000) {x : Int} (hx : i64 x) : PB (readP c s x) where
  lb := h.lb
  rd := fun y hy => by
    rcases List.mem_append.1 hy with hy | hy
    · exact h.rd y hy
    · rw [List.mem_singleton.1 hy]; exact hx
  s0 := h.s0
  cnt := by
    have := h.cnt
    show s.s0 + ((s.rd ++ [x]).length : Nat) ≤ ((s.N + 1 : Nat) : Int)
    rw [List.length_append, List.length_singleton]
    omega
  N := hN
theorem PB.hitP {c : PC} {s : PV} (h : PB s) (m : Int) : PB (hitP c s m).2 := ⟨h.lb, h.rd, h.s0, h.cnt, h.N⟩
theorem PB.enterP {c : PC} {s : PV} (h : PB s) (m : Int) {x : Int} (hx : i64 x) : PB (enterP c s m x).2 := by
  unfold Go.Proofs.YtbgknopjgohocaaGreat.enterP
  split
  · exact ⟨fun i => by
      show i64 (if i = m.toNat then x else s.lb i)
      split
      · exact hx
      · exact h.lb i, h.rd, h.s0, h.cnt, h.N⟩
  · exact h
theorem PB.leaveP {c : PC} {s : PV} (h : PB s) (hN : s.N < 1000000) (m : Int) (g : Bool) : PB (leaveP c s m g).2 := by
  unfold Go.Proofs.YtbgknopjgohocaaGreat.leaveP
  split
  · cases g
    · exact ⟨h.lb, h.rd, h.s0, h.cnt, h.N⟩
    · refine ⟨h.lb, h.rd, h.s0, ?_, hN⟩
      have := h.cnt
      show s.s0 + (s.rd.length : Nat) ≤ ((s.N + 1 : Nat) : Int)
      omega
  · exact h
theorem PB.scans {c : PC} {s : PV} (h : PB s) : 0 ≤ scansP c s ∧ scansP c s ≤ s.N := by
  have h1 := scansN_le (zL s.rd) c.long s.rd.length
  have := h.cnt
  have := h.s0
  unfold scansP
  omega
theorem PB.resetP {c : PC} {s : PV} (h : PB s) : PB (resetP c s) where
  lb := h.lb
  rd := fun x hx => by cases hx
  s0 := h.scans.1
  cnt := by
    have := (h.scans (c := c)).2
    show scansP c s + (([] : List Int).length : Nat) ≤ (s.N : Int)
    simp
    exact this
  N := h.N
theorem PB.vicL {s : PV} (h : PB s) : i64 (vicL s) := by
  unfold Go.Proofs.YtbgknopjgohocaaGreat.vicL
  split
  · exact h.lb _
  · exact ⟨by decide, by decide⟩
theorem PB.wt {c : PC} {s : PV} (h : PB s) : (∀ v, (wtP c s).last = some v → -9223372036854775808 ≤ v ∧ v ≤ 9223372036854775807) ∧ (0 ≤ (wtP c s).row ∧ (wtP c s).row < 4611686018427387904) ∧ (0 ≤ (wtP c s).scans ∧ (wtP c s).scans < 4611686018427387904) := by
  have h1 := scansN_le (zL s.rd) c.long s.rd.length
  have h2 := rowN_le (zL s.rd) s.rd.length
  have h3 := h.cnt
  have h4 := h.s0
  have h5 := h.N
  refine ⟨fun v hv => ?_, ?_, ?_⟩
  · unfold wtP after at hv
    simp only at hv
    split at hv
    · cases hv
    · simp at hv
      rw [← hv]
      exact zL_i64 h.rd _
  · show 0 ≤ ((rowN (zL s.rd) s.rd.length : Nat) : Int) ∧ ((rowN (zL s.rd) s.rd.length : Nat) : Int) < _
    omega
  · show 0 ≤ s.s0 + ((scansN (zL s.rd) c.long s.rd.length : Nat) : Int) ∧ s.s0 + ((scansN (zL s.rd) c.long s.rd.length : Nat) : Int) < _
    omega

/-! ### An object on its way through a walk -/
section
variable {R R' Q Q' : (Nat → Prop) → World → Prop} {S : Nat → Prop} {w0 w w' : World}

/-- What a step of memory makes of an object. -/
def Moves (R R' : (Nat → Prop) → World → Prop) (w w' : World) : Prop := ∀ A, R A w → Own A w → R' (Ext A w w') w' ∧ Keeps A w w'

/-- The object, begun in w0. -/
def OnWay (R : (Nat → Prop) → World → Prop) (S : Nat → Prop) (w0 w : World) : Prop := R (Ext S w0 w) w ∧ Own (Ext S w0 w) w ∧ Keeps S w0 w
theorem OnWay.begin [Rep R] (h : R S w) (ho : Own S w) : OnWay R S w w := ⟨Rep.mono h (fun k x => .inl x), ho.ext (Nat.le_refl _), Keeps.refl _ _⟩
theorem OnWay.done (h : OnWay R S w0 w) : R (Ext S w0 w) w ∧ Keeps S w0 w := ⟨h.1, h.2.2⟩
theorem OnWay.own (h : OnWay R S w0 w) (z : w.heap.size ≤ w'.heap.size) : Own (Ext S w0 w') w' := fun j x =>
  x.elim (fun y => Nat.lt_of_lt_of_le (h.2.1 j (.inl y)) z) (fun y => y.2)
theorem OnWay.below [Rep R] (h : OnWay R S w0 w) (k : Below w.heap.size w w') : OnWay R S w0 w' :=
  ⟨Rep.mono (Rep.keep h.1 h.2.1 (Keeps.of_below k) (fun j x => Nat.not_le.2 (h.2.1 j x))) (fun j x => x.elim .inl (fun y => .inr ⟨y.1, Nat.lt_of_lt_of_le y.2 k.size⟩)), h.own k.size,
    h.2.2.trans (Keeps.of_below k) (fun n hn => .inr (Nat.le_trans h.2.2.size hn))⟩
theorem OnWay.drewN [Rep R] (h : OnWay R S w0 w) (n : Nat) : OnWay R S w0 (w.drewN n) := h.below (below_drewN (Below.refl _ w) n)
theorem OnWay.drew [Rep R] (h : OnWay R S w0 w) : OnWay R S w0 w.drew := h.below (Below.refl _ w).drew
theorem OnWay.move [Rep R'] (h : OnWay R S w0 w) (m : Moves R R' w w') : OnWay R' S w0 w' := by
  obtain ⟨r, k⟩ := m _ h.1 h.2.1
  exact ⟨Rep.mono r (ext_trans h.2.2.size k.size), h.own k.size, h.2.2.extT k⟩
theorem OnWay.call [Rep R'] {P : Program} {f : FuncId} {args : Array Value} {V : Ending → Prop} (h : OnWay R S w0 w)
    (hc : ∀ A, R A w → Own A w → Calls P f args w fun e w' => V e ∧ R' (Ext A w w') w' ∧ Keeps A w w') : Calls P f args w fun e w' => V e ∧ OnWay R' S w0 w' :=
  (hc _ h.1 h.2.1).mono fun e w' ⟨hv, r, k⟩ => ⟨hv, Rep.mono r (ext_trans h.2.2.size k.size), h.own k.size, h.2.2.extT k⟩
theorem OnWay.old (h : OnWay R S w0 w) {a : Addr} {v : Value} (hc : w0.cell? a = some v) (hs : ¬ S a.block) : w.cell? a = some v := h.2.2.cell hc hs

theorem Moves.left [Rep Q] (m : Moves R R' w w') : Moves (Two R Q) (Two R' Q) w w' := fun S ⟨A, B, ha, hb, oa, ob, d, r, q⟩ _ => by
  obtain ⟨r', k⟩ := m A r oa
  refine ⟨⟨Ext A w w', B, fun j x => x.elim (fun y => .inl (ha j y)) .inr, fun j x => .inl (hb j x), oa.ext k.size, ob.grow k.size, fun j x y => ?_, r', Rep.keep q ob k (fun j x y => d j y x)⟩, k.mono (fun j _ x => ha j x)⟩
  rcases x with x | x
  · exact d j x y
  · exact absurd (ob j y) (by omega)
theorem Moves.right [Rep R] (m : Moves Q Q' w w') : Moves (Two R Q) (Two R Q') w w' := fun S ⟨A, B, ha, hb, oa, ob, d, r, q⟩ _ => by
  obtain ⟨q', k⟩ := m B q ob
  refine ⟨⟨A, Ext B w w', fun j x => .inl (ha j x), fun j x => x.elim (fun y => .inl (hb j y)) .inr, oa.grow k.size, ob.ext k.size, fun j x y => ?_, Rep.keep r oa k (fun j x y => d j x y), q'⟩, k.mono (fun j _ x => hb j x)⟩
  rcases y with y | y
  · exact d j x y
  · exact absurd (oa j x) (by omega)
theorem Two.l (h : Two R Q S w) : ∃ A, R A w ∧ Own A w := let ⟨A, _, _, _, oa, _, _, r, _⟩ := h; ⟨A, r, oa⟩
theorem Two.r (h : Two R Q S w) : ∃ A, Q A w ∧ Own A w := let ⟨_, B, _, _, _, ob, _, _, q⟩ := h; ⟨B, q, ob⟩
end

/-- A block and its cells. -/
def Cel (b : Nat) (t : TypeId) (L : Nat) (F : Nat → Value) (S : Nat → Prop) (w : World) : Prop := S b ∧ Arr w b t L F
instance (b : Nat) (t : TypeId) (L : Nat) (F : Nat → Value) : Rep (Cel b t L F) where
  keep := fun ⟨hb, h⟩ _ k ht => ⟨hb, h.keep k (ht _ hb)⟩
  mono := fun ⟨hb, h⟩ hs => ⟨hs _ hb, h⟩
theorem Cel.set (b : Nat) (t : TypeId) (L : Nat) (F G : Nat → Value) (i : Nat) (v : Value) (w : World) (e : ∀ k, k < L → (if k = i then v else F k) = G k) : Moves (Cel b t L F) (Cel b t L G) w (w.setCell ⟨b, i, none⟩ v) :=
  fun A ⟨hb, h⟩ _ => ⟨⟨.inl hb, (h.set i v).congr e⟩, (Keeps.refl A w).setCell (p := ⟨b, i, none⟩) (.inl hb) v⟩
/-- A watch. -/
def WaO (b : Nat) (x : Wt) (S : Nat → Prop) (w : World) : Prop := WatchAt S w b x
instance (b : Nat) (x : Wt) : Rep (WaO b x) where
  keep := fun h _ k ht => WatchAt.kept h k ht
  mono := fun h hs => WatchAt.mono h (fun k x _ => hs k x)
theorem GhO.more {b most N N' : Nat} {G : List Int} {S : Nat → Prop} {w : World} (h : GhO b most G N S w) (hn : N ≤ N') : GhO b most G N' S w :=
  let ⟨m, v, P, M, now, g, hG, hN, r⟩ := h
  ⟨m, v, P, M, now, g, hG, Nat.le_trans hN hn, r⟩
end Go.Proofs.YtbgknopjgohocaaGreat
