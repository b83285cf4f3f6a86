/- The document's policy: where its parts lie; Read, Scans, Reset. -/
import Derived.Test.YtdbgehplmllgdaaGreatPq
import Derived.Test.YtdbgehplmllgdaaGreatZF
import Derived.Deep.RegionHeldLaw
import Derived.StillTailTactics
namespace Go.Proofs.YtdbgehplmllgdaaGreat
open Go.RowKit Fl
open Scan hiding isN
set_option linter.unusedVariables false
set_option maxRecDepth 100000
set_option maxHeartbeats 4000000

/-- Where its parts lie. -/
structure RI where
  lb : Nat
  so : Nat
  tf : Nat
def rpF (cf : Nat → Value) (c : PC) (p : RI) (vg vr : Value) (before : Int) (sc : Bool) : Nat → Value
  | 7 => .float .f64 c.margin
  | 9 => .int .i64 c.long
  | 10 => .pointer (some ⟨p.tf, 0, none⟩)
  | 11 => .pointer (some ⟨p.so, 0, none⟩)
  | 12 => .slice (some ⟨p.lb, 0, none⟩) c.n c.n
  | 13 => vg
  | 14 => .int .i64 (c.cap : Int)
  | 15 => vr
  | 16 => .int .i64 before
  | 17 => .bool sc
  | i => cf i
/-- A row of keys, of numbers, that is the holder's own. -/
def RowG (v : Value) (l : List Int) (S : Nat → Prop) (w : World) : Prop := (∀ j, v.ownBlock = some j → S j) ∧ RowK w 0 v l
abbrev RowZ (w : World) (base : Nat) (v : Value) (l : List Int) : Prop := w.ownsRow base 3 1 v l.length (l.map (Value.int .i64))
def RowR (v : Value) (l : List Int) (S : Nat → Prop) (w : World) : Prop := (∀ j, v.ownBlock = some j → S j) ∧ RowZ w 0 v l
instance (v : Value) (l : List Int) : Rep (RowG v l) where
  keep := fun ⟨hs, h⟩ _ k ht => ⟨hs, row_keepG h k (fun g e => ht g (hs g e))⟩
  mono := fun ⟨hs, h⟩ ht => ⟨fun j e => ht _ (hs j e), h⟩
instance (v : Value) (l : List Int) : Rep (RowR v l) where
  keep := fun ⟨hs, h⟩ _ k ht => ⟨hs, row_keepG h k (fun g e => ht g (hs g e))⟩
  mono := fun ⟨hs, h⟩ ht => ⟨fun j e => ht _ (hs j e), h⟩
abbrev RpY (b : Nat) (cf : Nat → Value) (c : PC) (p : RI) (ug ur : Value) (before : Int) (sc : Bool) (lb : Nat → Int) (low high : List Nat) (t : TS) (vg vr : Value) (G rd : List Int) : (Nat → Prop) → World → Prop :=
  Two (Cel b 64 18 (rpF cf c p ug ur before sc)) (Two (Cel p.lb 3 c.n (lbF lb)) (Two (RfO p.so c.n c.most low high) (Two (RtO p.tf c.seed c.width c.sample t) (Two (RowG vg G) (RowR vr rd)))))
abbrev RpX (b : Nat) (cf : Nat → Value) (c : PC) (p : RI) (vg vr : Value) (before : Int) (sc : Bool) (lb : Nat → Int) (low high : List Nat) (t : TS) (G rd : List Int) : (Nat → Prop) → World → Prop :=
  RpY b cf c p vg vr before sc lb low high t vg vr G rd
def RpO (b : Nat) (c : PC) (s : PV) (S : Nat → Prop) (w : World) : Prop := (∃ cf p vg vr, RpX b cf c p vg vr s.s0 s.scan s.lb s.low s.high s.t s.G s.rd S w) ∧ PK c ∧ PB s
instance (b : Nat) (c : PC) (s : PV) : Rep (RpO b c s) where
  keep := fun ⟨⟨cf, p, vg, vr, h⟩, hc, hs⟩ ho k ht => ⟨⟨cf, p, vg, vr, Rep.keep h ho k ht⟩, hc, hs⟩
  mono := fun ⟨⟨cf, p, vg, vr, h⟩, hc, hs⟩ ht => ⟨⟨cf, p, vg, vr, Rep.mono h ht⟩, hc, hs⟩
/-- What is known of both alike. -/
structure PL (c : PC) (s : PV) : Prop where
  lo : s.low.length ≤ 1024
  hi : s.high.length ≤ 1024
  oi : OInv c.n s.low s.high
  g : s.G.length ≤ c.cap

/-! ### Rows behind rows -/
theorem own_any {w : World} {base : Nat} {e : TypeId} {size n : Nat} {v : Value} {xs : List Value} (h : w.ownsRow base e size v n xs) : ∃ A c, v = .slice A n c := by
  rcases h.2 with ⟨rfl, rfl⟩ | ⟨g, cap, cur, rfl, _⟩
  · exact ⟨_, _, rfl⟩
  · exact ⟨_, _, rfl⟩
theorem wpList_row {ops : Array Oper} {rest : List Oper} {o : Oper} {a : Act} {Q : Exit → Act → World → Prop} {w : World} (hgd : o.guard = none) (s x : Operand)
    (ho : o.op = .call { callee := .builtin .append, args := #[s, x], argTypes := #[35, 35] })
    (base : Nat) (v u : Value) (n m : Nat) (xs l : List Value) (hs : a.eval s = v) (hx : a.eval x = u) (hown : w.ownsRow base 3 1 v n xs) (hu : w.ownsRow 0 3 1 u m l) (hl : l.length = m) (hk : ∀ y ∈ l, y.oneCell' = true) (hb : base ≤ w.heap.size) (hn : n + m ≤ 1000000)
    (h : ∀ v' w', w'.ownsRow base 3 1 v' (n + m) (xs ++ l) → w.grownBy w' v.ownBlock → wpList Tryz.prog ops Q rest (a.put o.dst v') w') : wpList Tryz.prog ops Q (o :: rest) a w := by
  obtain ⟨i0, hi, hz0, hz1, hz2⟩ := info_parts infoInt
  refine wpList_plain hgd fun K hK => ?_
  rcases hu.2 with ⟨rfl, h0⟩ | ⟨g, cap, cur, rfl, hbg, hh, hc, hm, hs', ht⟩
  · subst h0
    obtain rfl : l = [] := List.eq_nil_of_length_eq_zero hl
    have hrun := run_append_owned_none (P := Tryz.prog) (w := w) base 35 o.type 3 i0 1 Tryz.underlying35 hi v n xs hown
    have h1 := h v w (by simpa using hown) (World.grownBy.refl w _)
    unfold Oper.wp
    simp [execOp, ho, resolve, invoke, builtin, hs, hx, hrun, Result.andThen]
    exact hK _ _ h1
  · exact wp_append_own w s x 35 ho base 3 i0 (.int .i64 0) 1 8 Tryz.underlying35 hi hz0 hz1 hz2 rfl (by decide) v n xs hs hown ⟨g, 0, none⟩ m cap l hx (by simp [hl]) (hu.cells (g := g) rfl) hk (by unfold maxLen; omega) (by omega) hb (fun v' w' h1 h2 _ => hK _ _ (h v' w' h1 h2))

section
variable {S : Nat → Prop} {w0 w : World} {b : Nat} {cf : Nat → Value} {c : PC} {p : RI} {vg vr : Value} {bf : Int} {sc : Bool} {lb : Nat → Int} {low high : List Nat} {t : TS} {G rd : List Int} {s : PV}

theorem RpX.top (h : RpX b cf c p vg vr bf sc lb low high t G rd S w) : Arr w b 64 18 (rpF cf c p vg vr bf sc) := by
  obtain ⟨A, h, _⟩ := Two.l h
  exact h.2
theorem RpX.lbs (h : RpX b cf c p vg vr bf sc lb low high t G rd S w) : Arr w p.lb 3 c.n (lbF lb) := by
  obtain ⟨A, h, _⟩ := Two.r h
  obtain ⟨A, h, _⟩ := Two.l h
  exact h.2
theorem RpX.ord (h : RpX b cf c p vg vr bf sc lb low high t G rd S w) : ∃ A, RfO p.so c.n c.most low high A w ∧ Own A w := by
  obtain ⟨A, h, _⟩ := Two.r h
  obtain ⟨A, h, _⟩ := Two.r h
  exact Two.l h
theorem RpX.fil (h : RpX b cf c p vg vr bf sc lb low high t G rd S w) : ∃ A, RtO p.tf c.seed c.width c.sample t A w ∧ Own A w := by
  obtain ⟨A, h, _⟩ := Two.r h
  obtain ⟨A, h, _⟩ := Two.r h
  obtain ⟨A, h, _⟩ := Two.r h
  exact Two.l h
theorem RpX.gho (h : RpX b cf c p vg vr bf sc lb low high t G rd S w) : RowK w 0 vg G := by
  obtain ⟨A, h, _⟩ := Two.r h
  obtain ⟨A, h, _⟩ := Two.r h
  obtain ⟨A, h, _⟩ := Two.r h
  obtain ⟨A, h, _⟩ := Two.r h
  obtain ⟨A, h, _⟩ := Two.l h
  exact h.2
theorem RpX.rds (h : RpX b cf c p vg vr bf sc lb low high t G rd S w) : RowZ w 0 vr rd := by
  obtain ⟨A, h, _⟩ := Two.r h
  obtain ⟨A, h, _⟩ := Two.r h
  obtain ⟨A, h, _⟩ := Two.r h
  obtain ⟨A, h, _⟩ := Two.r h
  obtain ⟨A, h, _⟩ := Two.r h
  exact h.2

variable {f : FuncId} {args : Array Value} {V : Ending → Prop}
theorem RpX.ordc {low' high' : List Nat} (hc : ∀ A, RfO p.so c.n c.most low high A w → Own A w → Calls Tryz.prog f args w fun e w' => V e ∧ RfO p.so c.n c.most low' high' (Ext A w w') w' ∧ Keeps A w w') :
    ∀ A, RpX b cf c p vg vr bf sc lb low high t G rd A w → Own A w → Calls Tryz.prog f args w fun e w' => V e ∧ RpX b cf c p vg vr bf sc lb low' high' t G rd (Ext A w w') w' ∧ Keeps A w w' :=
  fun A h _ => Two.right h fun A h _ => Two.right h fun A h _ => Two.left h hc
theorem RpX.filc {t' : TS} (hc : ∀ A, RtO p.tf c.seed c.width c.sample t A w → Own A w → Calls Tryz.prog f args w fun e w' => V e ∧ RtO p.tf c.seed c.width c.sample t' (Ext A w w') w' ∧ Keeps A w w') :
    ∀ A, RpX b cf c p vg vr bf sc lb low high t G rd A w → Own A w → Calls Tryz.prog f args w fun e w' => V e ∧ RpX b cf c p vg vr bf sc lb low high t' G rd (Ext A w w') w' ∧ Keeps A w w' :=
  fun A h _ => Two.right h fun A h _ => Two.right h fun A h _ => Two.right h fun A h _ => Two.left h hc
theorem rpF_set {vg' vr' : Value} {bf' : Int} {sc' : Bool} (i : Nat) (v : Value) (hi : 13 ≤ i) (h13 : (if 13 = i then v else vg) = vg') (h14 : i ≠ 14) (h15 : (if 15 = i then v else vr) = vr') (h16 : (if 16 = i then v else .int .i64 bf) = .int .i64 bf') (h17 : (if 17 = i then v else .bool sc) = .bool sc') :
    ∀ k, k < 18 → (if k = i then v else rpF cf c p vg vr bf sc k) = rpF cf c p vg' vr' bf' sc' k := fun k hk => by
  have : k < 13 ∨ k = 13 ∨ k = 14 ∨ k = 15 ∨ k = 16 ∨ k = 17 := by omega
  rcases this with h | rfl | rfl | rfl | rfl | rfl
  · rw [if_neg (by omega)]
    have : k = 0 ∨ k = 1 ∨ k = 2 ∨ k = 3 ∨ k = 4 ∨ k = 5 ∨ k = 6 ∨ k = 7 ∨ k = 8 ∨ k = 9 ∨ k = 10 ∨ k = 11 ∨ k = 12 := by omega
    rcases this with rfl | rfl | rfl | rfl | rfl | rfl | rfl | rfl | rfl | rfl | rfl | rfl | rfl <;> rfl
  · exact h13
  · rw [if_neg (by omega)]; rfl
  · exact h15
  · exact h16
  · exact h17
theorem RpX.setScan (v : Bool) : Moves (RpX b cf c p vg vr bf sc lb low high t G rd) (RpX b cf c p vg vr bf v lb low high t G rd) w (w.setCell ⟨b, 17, none⟩ (.bool v)) :=
  Moves.left (Cel.set b _ 18 _ _ 17 _ w (rpF_set 17 _ (by omega) rfl (by omega) rfl rfl rfl))
theorem RpX.setBf (v : Int) : Moves (RpX b cf c p vg vr bf sc lb low high t G rd) (RpX b cf c p vg vr v sc lb low high t G rd) w (w.setCell ⟨b, 16, none⟩ (.int .i64 v)) :=
  Moves.left (Cel.set b _ 18 _ _ 16 _ w (rpF_set 16 _ (by omega) rfl (by omega) rfl rfl rfl))
theorem RpX.setLb (i : Nat) (y : Int) : Moves (RpX b cf c p vg vr bf sc lb low high t G rd) (RpX b cf c p vg vr bf sc (fun k => if k = i then y else lb k) low high t G rd) w (w.setCell ⟨p.lb, i, none⟩ (.int .i64 y)) :=
  Moves.right (Moves.left (Cel.set p.lb _ c.n _ _ i _ w (fun k hk => by
    show (if k = i then Value.int .i64 y else .int .i64 (lb k)) = .int .i64 (if k = i then y else lb k)
    split <;> rfl)))

/-- Its row is another one, that is new. -/
theorem RowG.other {w' : World} {vg' : Value} {G' : List Int} (k : Below w.heap.size w w') (r : RowK w' w.heap.size vg' G') : Moves (RowG vg G) (RowG vg' G') w w' := fun A _ _ =>
  ⟨⟨fun j e => .inr ⟨(r.lt j e).1, (r.lt j e).2⟩, ⟨r.1, r.2.imp id (fun ⟨g, cap, cur, ev, hb, r⟩ => ⟨g, cap, cur, ev, Nat.zero_le _, r⟩)⟩⟩, (Keeps.of_below k).mono (fun j hj x => absurd hj (Nat.not_lt.2 x))⟩
theorem RowR.other {w' : World} {vr' : Value} {rd' : List Int} (k : Below w.heap.size w w') (r : RowZ w' w.heap.size vr' rd') : Moves (RowR vr rd) (RowR vr' rd') w w' := fun A _ _ =>
  ⟨⟨fun j e => .inr ⟨(r.lt j e).1, (r.lt j e).2⟩, own_base r⟩, (Keeps.of_below k).mono (fun j hj x => absurd hj (Nat.not_lt.2 x))⟩
theorem RpX.otherG {w' : World} {vg' : Value} {G' : List Int} (k : Below w.heap.size w w') (r : RowK w' w.heap.size vg' G') :
    Moves (RpX b cf c p vg vr bf sc lb low high t G rd) (RpY b cf c p vg vr bf sc lb low high t vg' vr G' rd) w w' :=
  Moves.right (Moves.right (Moves.right (Moves.right (Moves.left (RowG.other k r)))))
theorem RpX.otherR {w' : World} {vr' : Value} {rd' : List Int} (k : Below w.heap.size w w') (r : RowZ w' w.heap.size vr' rd') :
    Moves (RpX b cf c p vg vr bf sc lb low high t G rd) (RpY b cf c p vg vr bf sc lb low high t vg vr' G rd') w w' :=
  Moves.right (Moves.right (Moves.right (Moves.right (Moves.right (RowR.other k r)))))
theorem RpX.setG {vg' : Value} : Moves (RpY b cf c p vg vr bf sc lb low high t vg' vr G rd) (RpX b cf c p vg' vr bf sc lb low high t G rd) w (w.setCell ⟨b, 13, none⟩ vg') :=
  Moves.left (Cel.set b _ 18 _ _ 13 _ w (rpF_set 13 _ (by omega) rfl (by omega) rfl rfl rfl))
theorem RpX.setR {vr' : Value} : Moves (RpY b cf c p vg vr bf sc lb low high t vg vr' G rd) (RpX b cf c p vg vr' bf sc lb low high t G rd) w (w.setCell ⟨b, 15, none⟩ vr') :=
  Moves.left (Cel.set b _ 18 _ _ 15 _ w (rpF_set 15 _ (by omega) rfl (by omega) rfl rfl rfl))
theorem RpX.noneG : Moves (RpX b cf c p vg vr bf sc lb low high t G rd) (RpY b cf c p vg vr bf sc lb low high t (.slice none 0 0) vr [] rd) w w :=
  RpX.otherG (Below.refl _ w) (World.ownsRow_nil w w.heap.size 22 1)
theorem RpX.noneR : Moves (RpX b cf c p vg vr bf sc lb low high t G rd) (RpY b cf c p vg vr bf sc lb low high t vg (.slice none 0 0) G []) w w :=
  RpX.otherR (Below.refl _ w) (World.ownsRow_nil w w.heap.size 3 1)
theorem RpO.of (h : OnWay (RpX b cf c p vg vr s.s0 s.scan s.lb s.low s.high s.t s.G s.rd) S w0 w) (hc : PK c) (hs : PB s) : RpO b c s (Ext S w0 w) w ∧ Keeps S w0 w := ⟨⟨⟨cf, p, vg, vr, h.1⟩, hc, hs⟩, h.2.2⟩

/-- What is read of its own cells. -/
structure RpC (w : World) (b : Nat) (cf : Nat → Value) (c : PC) (p : RI) (vg vr : Value) (bf : Int) (sc : Bool) : Prop where
  lt : b < w.heap.size
  c7 : w.cell? ⟨b, 7, none⟩ = some (.float .f64 c.margin)
  c9 : w.cell? ⟨b, 9, none⟩ = some (.int .i64 c.long)
  c10 : w.cell? ⟨b, 10, none⟩ = some (.pointer (some ⟨p.tf, 0, none⟩))
  c11 : w.cell? ⟨b, 11, none⟩ = some (.pointer (some ⟨p.so, 0, none⟩))
  c12 : w.cell? ⟨b, 12, none⟩ = some (.slice (some ⟨p.lb, 0, none⟩) c.n c.n)
  c13 : w.cell? ⟨b, 13, none⟩ = some vg
  c14 : w.cell? ⟨b, 14, none⟩ = some (.int .i64 (c.cap : Int))
  c15 : w.cell? ⟨b, 15, none⟩ = some vr
  c16 : w.cell? ⟨b, 16, none⟩ = some (.int .i64 bf)
  c17 : w.cell? ⟨b, 17, none⟩ = some (.bool sc)
  free : ∀ i, w.frozen? ⟨b, i, none⟩ = false
theorem rp_cells (h : Arr w b 64 18 (rpF cf c p vg vr bf sc)) : RpC w b cf c p vg vr bf sc :=
  ⟨h.lt, h.cell (i := 7) (by omega), h.cell (i := 9) (by omega), h.cell (i := 10) (by omega), h.cell (i := 11) (by omega), h.cell (i := 12) (by omega), h.cell (i := 13) (by omega), h.cell (i := 14) (by omega), h.cell (i := 15) (by omega), h.cell (i := 16) (by omega), h.cell (i := 17) (by omega), h.free⟩
theorem RpX.cells (h : RpX b cf c p vg vr bf sc lb low high t G rd S w) : RpC w b cf c p vg vr bf sc := rp_cells h.top

theorem rp_read (h : RpO b c s S w) (ho : Own S w) (hN : s.N < 1000000) (z : Int) (hz : i64 z) :
    Calls Tryz.prog 71 #[.pointer (some ⟨b, 0, none⟩), .int .i64 z] w fun e w' => e = .returned (.bool (readP c s z).scan) ∧ RpO b c (readP c s z) (Ext S w w') w' ∧ Keeps S w w' := by
  obtain ⟨⟨cf, p, vg, vr, hx⟩, hc, hs⟩ := h
  have PB1 := Lib.hid (hs.readP (c := c) hN hz)
  have HC := Lib.hid hc
  have HRL := Lib.hid (show s.rd.length < 1000000 by have := hs.cnt; have := hs.s0; omega)
  have HRZ := Lib.hid (zL_i64 (PB1.out.rd))
  have O0 := Lib.hid (OnWay.begin hx ho)
  obtain ⟨A, ca, rfl⟩ := own_any hx.rds
  have c10 := hx.cells.c10
  clear hx hc hs hN hz ho
  go_enter Tryz.func71, Tryz.ntmps71
  go_wp2_with fail
  refine (O0.out.call (RpX.filc (fun A g o => rt_see g o (kU z) (kU_bd z).1 (kU_bd z).2))).mono ?_
  rintro e w1 ⟨rfl, h1⟩
  have H1 := Lib.hid h1
  have c15 := h1.1.cells.c15
  have hb := h1.1.cells.lt
  have EL := Lib.hid (show Scan.isN (zL (s.rd ++ [z])) c.long (s.rd ++ [z]).length = (readP c s z).scan from rfl)
  have OE := Lib.hid (World.ownsRow_made (base := w1.heap.size) (size := 1) (e := 3) w1 #[] 0 (Nat.le_refl _) (Nat.zero_le _) rfl)
  have B1 := Lib.hid ((Below.refl w1.heap.size w1).alloc (Nat.le_refl _) (.cells #[] 3))
  obtain ⟨L, hL⟩ : ∃ L, s.rd.length = L := ⟨_, rfl⟩
  have RZ := Lib.hid (show (w1.alloc (.cells #[] 3)).ownsRow 0 3 1 (.slice A L ca) L (s.rd.map (Value.int .i64)) by rw [← hL]; exact (h1.below B1.out).1.rds)
  rw [hL] at c15
  have HL := Lib.hid hL
  clear h1 c10 hL
  go_wp2_with (at_builtin; refine wpList_row rfl _ _ rfl w1.heap.size _ _ 0 L [] (s.rd.map (Value.int .i64)) rfl rfl OE.out RZ.out ?a1 ?a2 ?a3 ?a4 ?_)
  case a1 => rw [List.length_map]; exact HL.out
  case a2 => exact fun y hy => by obtain ⟨u, _, rfl⟩ := List.mem_map.1 hy; rfl
  case a3 => exact B1.out.size
  case a4 => have := HL.out; have := HRL.out; omega
  rintro v2 w2 o2 g2
  have B2 := Lib.hid (B1.out.grown g2 B1.out.size (fun k e => by simp [Value.ownBlock] at e; omega))
  have O2 := Lib.hid (o2.alloc (.cells #[.int .i64 z] 3))
  have BA2 := Lib.hid (B2.out.alloc B2.out.size (.cells #[.int .i64 z] 3))
  have OG2 := Lib.hid (fun k (e : v2.ownBlock = some k) => (o2.lt k e).1)
  obtain ⟨A2, ca2, rfl⟩ := own_any o2
  have OZ := Lib.hid (show (w2.alloc (.cells #[.int .i64 z] 3)).ownsRow 0 3 1 (.slice (some ⟨w2.heap.size, 0, none⟩) 1 1) 1 [.int .i64 z] from World.ownsRow_lit (base := 0) (size := 1) (e := 3) w2 #[.int .i64 z] 1 (Nat.zero_le _) (by decide) rfl)
  clear o2 g2
  go_wp2_with (at_builtin; go_loud (refine wpList_row rfl _ _ rfl w1.heap.size _ _ L 1 (s.rd.map (Value.int .i64)) [.int .i64 z] rfl rfl O2.out OZ.out ?b1 ?b2 ?b3 ?b4 ?_))
  case b1 => rfl
  case b2 => exact fun y hy => by simp at hy; subst hy; rfl
  case b3 => exact BA2.out.size
  case b4 => have := HL.out; have := HRL.out; omega
  rintro v3 w3 o3 g3
  have B3 := Lib.hid (BA2.out.grown g3 BA2.out.size (fun k e => OG2.out k e))
  have O3 := Lib.hid (show RowZ w3 w1.heap.size v3 (s.rd ++ [z]) by
    have := o3
    unfold RowZ
    rw [List.length_append, HL.out, List.map_append]
    simpa using this)
  have H3 := Lib.hid (H1.out.move (RpX.otherR B3.out O3.out))
  obtain ⟨A3, ca3, e3⟩ := own_any o3
  subst e3
  have C3 := rp_cells (Two.l H3.out.1).choose_spec.1.2
  have lt3 := C3.lt
  have f3 := C3.free 15
  have c15' := C3.c15
  clear o3 g3 C3 c15 hb
  go_wp2_with fail
  have h4 := H3.out.move (RpX.setR (vr' := .slice A3 (L + 1) ca3))
  generalize hw4 : w3.setCell ⟨b, 15, none⟩ (.slice A3 (L + 1) ca3) = w4 at *
  have C4 := h4.1.cells
  have R4 := h4.1.rds
  have IS := Lib.hid (show ∀ W, Below w4.heap.size w4 W → Calls Tryz.prog 126 #[.slice A3 (L + 1) ca3, .int .i64 c.long] W fun e w' => e = .returned (.bool (readP c s z).scan) ∧ Below W.heap.size W w' from fun W k => by
    obtain ⟨g, rfl⟩ : ∃ g, A3 = some ⟨g, 0, none⟩ := by
      rcases R4.2 with ⟨e, h0⟩ | ⟨g, cap, cur, e, _⟩
      · simp at h0
      · simp at e; exact ⟨g, e.1⟩
    have R5 := row_keepG R4 (Keeps.of_below k) (fun j e => Nat.not_le.2 (R4.lt j e).2)
    have hl : (s.rd ++ [z]).length = L + 1 := by rw [List.length_append, HL.out]; rfl
    have := rIs_any g 0 (L + 1) ca3 c.long (zL (s.rd ++ [z])) W (by omega) (by have := HL.out; have := HRL.out; omega) (fun i _ => HRZ.out i) (fun i hi => by
      have := R5.cells (g := g) rfl i (.int .i64 (zL (s.rd ++ [z]) i)) (by
        rw [List.getElem?_map]
        unfold zL
        rw [List.getD_eq_getElem?_getD, List.getElem?_eq_getElem (by omega)]
        rfl)
      rw [addr_addG] at this
      exact this)
    rw [← hl, EL.out] at this
    exact hl ▸ this.mono fun e w' ⟨h1, m, h2⟩ => ⟨h1, by rw [h2]; exact below_drewN (Below.refl _ _) m⟩)
  have H4 := Lib.hid h4
  have c9 := C4.c9
  have c15 := C4.c15
  have f17 := C4.free 17
  have hb := C4.lt
  have c17 := C4.c17
  clear h4 C4 R4 hw4 c15' f3 lt3
  go_wp2_with fail
  have ISD := Lib.hid (IS.out w4.drew (Below.refl _ w4).drew)
  have B0 := (Below.refl w4.heap.size w4).drew
  have CC := Lib.hid (fun W (k : Below w4.heap.size w4 W) => And.intro ((k.cell (p := ⟨b, 15, none⟩) hb).trans c15) ((k.cell (p := ⟨b, 9, none⟩) hb).trans c9))
  have CD := Lib.hid (fun W (k : Below w4.heap.size w4 W) => show (W.setCell ⟨b, 17, none⟩ (.bool (readP c s z).scan)).cell? ⟨b, 15, none⟩ = some (.slice A3 (L + 1) ca3) ∧ (W.setCell ⟨b, 17, none⟩ (.bool (readP c s z).scan)).cell? ⟨b, 9, none⟩ = some (.int .i64 c.long) from ⟨(World.cell?_setCell_other _ _ _ _ (by simp)).trans (CC.out W k).1, (World.cell?_setCell_other _ _ _ _ (by simp)).trans (CC.out W k).2⟩)
  go_region_held_law (fun W => W.cell? ⟨b, 15, none⟩ = some (.slice A3 (L + 1) ca3) ∧ W.cell? ⟨b, 9, none⟩ = some (.int .i64 c.long)) (first | exact ⟨c15, c9⟩ | exact CC.out _ b15 | exact CD.out _ b15) (first
    | (go_at_call 126; (with_reducible refine ISD.out.mono ?_); rintro e w5 ⟨rfl, b5⟩; have b15 := B0.trans b5; have hb5 : b < w5.heap.size := Nat.lt_of_lt_of_le hb b15.size; have c17' := (b15.cell (p := ⟨b, 17, none⟩) hb).trans c17; have f17' := (b15.frozen (p := ⟨b, 17, none⟩) hb).trans f17))
  all_goals (
    have h6 := ((H4.out.below b15).move (RpX.setScan (readP c s z).scan))
    have F := Lib.hid (RpO.of (s := readP c s z) h6 HC.out PB1.out)
    clear h6
    go_wp2
    go_ret
    exact ⟨rfl, F.out⟩)
end
end Go.Proofs.YtdbgehplmllgdaaGreat
