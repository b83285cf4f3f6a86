/- The program's policy: where its parts lie; Read, Hit. -/
import Derived.Test.YtbgknopjgohocaaGreatPa
import Derived.StillTailTactics
namespace Go.Proofs.YtbgknopjgohocaaGreat
open Go.RowKit Fl
open Scan hiding isN
set_option linter.unusedVariables false
set_option maxRecDepth 100000
set_option maxHeartbeats 4000000

/-- Where a policy's parts lie. -/
structure PI where
  so : Nat
  lb : Nat
  tf : Nat
  gh : Nat
  wa : Nat
def poF (c : PC) (p : PI) (sc : Bool) : Nat → Value
  | 0 => .pointer (some ⟨p.so, 0, none⟩)
  | 1 => .slice (some ⟨p.lb, 0, none⟩) c.n c.n
  | 2 => .pointer (some ⟨p.tf, 0, none⟩)
  | 3 => .pointer (some ⟨p.gh, 0, none⟩)
  | 4 => .pointer (some ⟨p.wa, 0, none⟩)
  | 5 => .float .f64 c.margin
  | _ => .bool sc
def lbF (lb : Nat → Int) (i : Nat) : Value := .int .i64 (lb i)
abbrev PoX (b : Nat) (c : PC) (p : PI) (sc : Bool) (lb : Nat → Int) (low high : List Nat) (t : TS) (G : List Int) (N : Nat) (x : Wt) : (Nat → Prop) → World → Prop :=
  Two (Cel b 114 7 (poF c p sc)) (Two (Cel p.lb 3 c.n (lbF lb)) (Two (SlO p.so c.n c.most low high) (Two (TiO p.tf c.seed c.width c.sample t) (Two (GhO p.gh c.cap G N) (WaO p.wa x)))))
/-- A policy. -/
def PoO (b : Nat) (c : PC) (s : PV) (S : Nat → Prop) (w : World) : Prop := (∃ p, PoX b c p s.scan s.lb s.low s.high s.t s.G s.N (wtP c s) S w) ∧ PK c ∧ PB s
instance (b : Nat) (c : PC) (s : PV) : Rep (PoO b c s) where
  keep := fun ⟨⟨p, h⟩, hc, hs⟩ ho k ht => ⟨⟨p, Rep.keep h ho k ht⟩, hc, hs⟩
  mono := fun ⟨⟨p, h⟩, hc, hs⟩ ht => ⟨⟨p, Rep.mono h ht⟩, hc, hs⟩

section
variable {S : Nat → Prop} {w0 w : World} {b : Nat} {c : PC} {p : PI} {sc : Bool} {lb : Nat → Int} {low high : List Nat} {t : TS} {G : List Int} {N : Nat} {x : Wt}

theorem PoX.top (h : PoX b c p sc lb low high t G N x S w) : Arr w b 114 7 (poF c p sc) := by
  obtain ⟨A, h, _⟩ := Two.l h
  exact h.2
theorem PoX.lbs (h : PoX b c p sc lb low high t G N x S w) : Arr w p.lb 3 c.n (lbF lb) := by
  obtain ⟨A, h, _⟩ := Two.r h
  obtain ⟨A, h, _⟩ := Two.l h
  exact h.2
theorem PoX.ord (h : PoX b c p sc lb low high t G N x S w) : ∃ A, SlO p.so c.n c.most low high A w ∧ Own A w := by
  obtain ⟨A, h, _⟩ := Two.r h
  obtain ⟨A, h, _⟩ := Two.r h
  exact Two.l h
theorem PoX.fil (h : PoX b c p sc lb low high t G N x S w) : ∃ A, TiO p.tf c.seed c.width c.sample t A w ∧ Own A w := by
  obtain ⟨A, h, _⟩ := Two.r h
  obtain ⟨A, h, _⟩ := Two.r h
  obtain ⟨A, h, _⟩ := Two.r h
  exact Two.l h
theorem PoX.his (h : PoX b c p sc lb low high t G N x S w) : ∃ A, GhO p.gh c.cap G N A w ∧ Own A w := by
  obtain ⟨A, h, _⟩ := Two.r h
  obtain ⟨A, h, _⟩ := Two.r h
  obtain ⟨A, h, _⟩ := Two.r h
  obtain ⟨A, h, _⟩ := Two.r h
  exact Two.l h
theorem PoX.wat (h : PoX b c p sc lb low high t G N x S w) : ∃ A, WatchAt A w p.wa x := by
  obtain ⟨A, h, _⟩ := Two.r h
  obtain ⟨A, h, _⟩ := Two.r h
  obtain ⟨A, h, _⟩ := Two.r h
  obtain ⟨A, h, _⟩ := Two.r h
  obtain ⟨A, h, _⟩ := Two.r h
  exact ⟨A, h⟩

/-! A call of one part. -/
variable {f : FuncId} {args : Array Value} {V : Ending → Prop}
theorem PoX.ordc {low' high' : List Nat} (hc : ∀ A, SlO p.so c.n c.most low high A w → Own A w → Calls Tryz.prog f args w fun e w' => V e ∧ SlO p.so c.n c.most low' high' (Ext A w w') w' ∧ Keeps A w w') :
    ∀ A, PoX b c p sc lb low high t G N x A w → Own A w → Calls Tryz.prog f args w fun e w' => V e ∧ PoX b c p sc lb low' high' t G N x (Ext A w w') w' ∧ Keeps A w w' :=
  fun A h _ => Two.right h fun A h _ => Two.right h fun A h _ => Two.left h hc
theorem PoX.filc {t' : TS} (hc : ∀ A, TiO p.tf c.seed c.width c.sample t A w → Own A w → Calls Tryz.prog f args w fun e w' => V e ∧ TiO p.tf c.seed c.width c.sample t' (Ext A w w') w' ∧ Keeps A w w') :
    ∀ A, PoX b c p sc lb low high t G N x A w → Own A w → Calls Tryz.prog f args w fun e w' => V e ∧ PoX b c p sc lb low high t' G N x (Ext A w w') w' ∧ Keeps A w w' :=
  fun A h _ => Two.right h fun A h _ => Two.right h fun A h _ => Two.right h fun A h _ => Two.left h hc
theorem PoX.hisc {G' : List Int} {N' : Nat} (hc : ∀ A, GhO p.gh c.cap G N A w → Own A w → Calls Tryz.prog f args w fun e w' => V e ∧ GhO p.gh c.cap G' N' (Ext A w w') w' ∧ Keeps A w w') :
    ∀ A, PoX b c p sc lb low high t G N x A w → Own A w → Calls Tryz.prog f args w fun e w' => V e ∧ PoX b c p sc lb low high t G' N' x (Ext A w w') w' ∧ Keeps A w w' :=
  fun A h _ => Two.right h fun A h _ => Two.right h fun A h _ => Two.right h fun A h _ => Two.right h fun A h _ => Two.left h hc
theorem PoX.watc {x' : Wt} (hc : ∀ A, WatchAt A w p.wa x → Own A w → Calls Tryz.prog f args w fun e w' => V e ∧ WatchAt (Ext A w w') w' p.wa x' ∧ Keeps A w w') :
    ∀ A, PoX b c p sc lb low high t G N x A w → Own A w → Calls Tryz.prog f args w fun e w' => V e ∧ PoX b c p sc lb low high t G N x' (Ext A w w') w' ∧ Keeps A w w' :=
  fun A h _ => Two.right h fun A h _ => Two.right h fun A h _ => Two.right h fun A h _ => Two.right h fun A h _ => Two.right h hc
theorem PoX.more {N' : Nat} (hn : N ≤ N') : Moves (PoX b c p sc lb low high t G N x) (PoX b c p sc lb low high t G N' x) w w :=
  Moves.right (Moves.right (Moves.right (Moves.right (Moves.left (fun A h ho => ⟨Rep.mono (GhO.more h hn) (fun k x => .inl x), Keeps.refl _ _⟩)))))
theorem PoX.setScan (v : Bool) : Moves (PoX b c p sc lb low high t G N x) (PoX b c p v lb low high t G N x) w (w.setCell ⟨b, 6, none⟩ (.bool v)) :=
  Moves.left (Cel.set b _ 7 _ _ 6 _ w (fun k hk => by
    have : k = 0 ∨ k = 1 ∨ k = 2 ∨ k = 3 ∨ k = 4 ∨ k = 5 ∨ k = 6 := by omega
    rcases this with rfl | rfl | rfl | rfl | rfl | rfl | rfl <;> rfl))
theorem PoX.setLb (i : Nat) (y : Int) : Moves (PoX b c p sc lb low high t G N x) (PoX b c p sc (fun k => if k = i then y else lb k) low high t G N x) w (w.setCell ⟨p.lb, i, none⟩ (.int .i64 y)) :=
  Moves.right (Moves.left (Cel.set p.lb _ c.n _ _ i _ w (fun k hk => by
    show (if k = i then Value.int .i64 y else .int .i64 (lb k)) = .int .i64 (if k = i then y else lb k)
    split <;> rfl)))

/-- What is read of the policy's own cells. -/
theorem PoX.cells (h : PoX b c p sc lb low high t G N x S w) :
    w.cell? ⟨b, 0, none⟩ = some (.pointer (some ⟨p.so, 0, none⟩)) ∧ w.cell? ⟨b, 1, none⟩ = some (.slice (some ⟨p.lb, 0, none⟩) c.n c.n) ∧ w.cell? ⟨b, 2, none⟩ = some (.pointer (some ⟨p.tf, 0, none⟩)) ∧
    w.cell? ⟨b, 3, none⟩ = some (.pointer (some ⟨p.gh, 0, none⟩)) ∧ w.cell? ⟨b, 4, none⟩ = some (.pointer (some ⟨p.wa, 0, none⟩)) ∧ w.cell? ⟨b, 5, none⟩ = some (.float .f64 c.margin) ∧ w.cell? ⟨b, 6, none⟩ = some (.bool sc) ∧ w.frozen? ⟨b, 6, none⟩ = false :=
  ⟨h.top.cell (i := 0) (by omega), h.top.cell (i := 1) (by omega), h.top.cell (i := 2) (by omega), h.top.cell (i := 3) (by omega), h.top.cell (i := 4) (by omega), h.top.cell (i := 5) (by omega), h.top.cell (i := 6) (by omega), h.top.free 6⟩

theorem PoO.of {s : PV} (h : OnWay (PoX b c p s.scan s.lb s.low s.high s.t s.G s.N (wtP c s)) S w0 w) (hc : PK c) (hs : PB s) : PoO b c s (Ext S w0 w) w ∧ Keeps S w0 w := ⟨⟨⟨p, h.1⟩, hc, hs⟩, h.2.2⟩

theorem po_real (h : PoX b c p sc lb low high t G N x S w) :
    Calls Tryz.prog 60 #[.pointer (some ⟨b, 0, none⟩)] w fun e w' => e = .returned (.bool true) ∧ w = w' := by
  obtain ⟨c0, c1, c2, c3, c4, c5, c6, f6⟩ := h.cells
  clear h c0 c1 c3 c4 c5 c6 f6
  go_enter Tryz.func60, Tryz.ntmps60
  go_wp2
  go_ret
  exact ⟨rfl, rfl⟩

theorem po_key (z : Int) (w : World) :
    Calls Tryz.prog 62 #[.int .i64 z] w fun e w' => e = .returned (.int .u64 (kU z)) ∧ w' = w := by
  go_enter Tryz.func62, Tryz.ntmps62
  go_wp2
  go_ret
  exact ⟨rfl, rfl⟩

theorem po_read {s : PV} (h : PoO b c s S w) (ho : Own S w) (hN : s.N < 1000000) (z : Int) (hz : i64 z) :
    Calls Tryz.prog 46 #[.pointer (some ⟨b, 0, none⟩), .int .i64 z] w fun e w' => e = .returned (.bool (readP c s z).scan) ∧ PoO b c (readP c s z) (Ext S w w') w' ∧ Keeps S w w' := by
  obtain ⟨⟨p, hx⟩, hc, hs⟩ := h
  have PB1 := Lib.hid (hs.readP (c := c) hN hz)
  have HC := Lib.hid hc
  have HW := Lib.hid (hs.wt (c := c))
  have EN := Lib.hid (show note (wtP c s) z = wtP c (readP c s z) from note_more c.long s.s0 s.rd z hz.2)
  have EB := Lib.hid (show isB (wtP c s) z = (readP c s z).scan from isB_more c.long s.s0 s.rd z hz.2)
  have PR := Lib.hid (po_real hx)
  have O0 := Lib.hid (OnWay.begin hx ho)
  obtain ⟨c0, c1, c2, c3, c4, c5, c6, f6⟩ := hx.cells
  clear hx hc hs hN hz ho c0 c1 c3 c4 c5 c6 f6
  go_enter Tryz.func46, Tryz.ntmps46
  go_wp2_with fail
  refine PR.out.mono ?_
  rintro e w' ⟨rfl, rfl⟩
  go_wp2_with fail
  go_still_tail 6, (by kernel_rfl)
  still_call (po_key _ _)
  refine wpStill_nil ?_
  change wpList _ _ _ _ _ w.drew
  go_wp2_with fail
  refine (O0.out.drew.call (PoX.filc (fun A g o => ti_see g o (kU z) (kU_bd z).1 (kU_bd z).2))).mono ?_
  rintro e w1 ⟨rfl, h1⟩
  obtain ⟨c0, c1, c2, c3, c4, c5, c6, f6⟩ := h1.1.cells
  have H1 := Lib.hid h1
  clear h1 c0 c1 c2 c3 c5
  go_wp2_with fail
  refine (H1.out.call (PoX.watc (fun A g o => note_any g HW.out.1 HW.out.2.1 HW.out.2.2 z))).mono ?_
  rintro e w2 ⟨rfl, h2⟩
  obtain ⟨c0, c1, c2, c3, c4, c5, c6, f6⟩ := h2.1.cells
  have H2 := (h2.move (PoX.setScan (isB (wtP c s) z))).move (PoX.more (Nat.le_succ _))
  rw [EN.out, EB.out] at H2
  have F := Lib.hid (PoO.of (s := readP c s z) H2 HC.out PB1.out)
  clear h2 c0 c1 c2 c3 c4 c5 H2
  have EB1 := EB.out
  go_wp2
  go_ret
  exact ⟨rfl, F.out⟩

theorem po_hit {s : PV} (h : PoO b c s S w) (ho : Own S w) (m : Int) :
    Calls Tryz.prog 48 #[.pointer (some ⟨b, 0, none⟩), .int .i64 m] w fun e w' => e = .returned (.bool (hitP c s m).1) ∧ PoO b c (hitP c s m).2 (Ext S w w') w' ∧ Keeps S w w' := by
  obtain ⟨⟨p, hx⟩, hc, hs⟩ := h
  have PB1 := Lib.hid (hs.hitP (c := c) m)
  have HC := Lib.hid hc
  have PR := Lib.hid (po_real hx)
  have O0 := Lib.hid (OnWay.begin hx ho)
  obtain ⟨c0, c1, c2, c3, c4, c5, c6, f6⟩ := hx.cells
  clear hx hc hs ho c1 c2 c3 c4 c5 c6 f6
  go_enter Tryz.func48, Tryz.ntmps48
  go_wp2_with fail
  refine PR.out.mono ?_
  rintro e w' ⟨rfl, rfl⟩
  go_wp2_with fail
  refine (O0.out.call (PoX.ordc (fun A g o => sl_touch_any g m))).mono ?_
  rintro e w1 ⟨rfl, h1⟩
  have F := Lib.hid (PoO.of (s := (hitP c s m).2) h1 HC.out PB1.out)
  clear h1
  go_wp2
  go_ret
  exact ⟨rfl, F.out⟩

theorem po_enter {s : PV} (h : PoO b c s S w) (ho : Own S w) (m z : Int) (hz : i64 z) :
    Calls Tryz.prog 69 #[.pointer (some ⟨b, 0, none⟩), .int .i64 m, .int .i64 z] w fun e w' => e = .returned (.bool (enterP c s m z).1) ∧ PoO b c (enterP c s m z).2 (Ext S w w') w' ∧ Keeps S w w' := by
  obtain ⟨⟨p, hx⟩, hc, hs⟩ := h
  have PB1 := Lib.hid (hs.enterP (c := c) m hz)
  have PB0 := Lib.hid hs
  have HC := Lib.hid hc
  have PR := Lib.hid (po_real hx)
  have O0 := Lib.hid (OnWay.begin hx ho)
  obtain ⟨c0, c1, c2, c3, c4, c5, c6, f6⟩ := hx.cells
  clear hx hc hs ho c1 c2 c3 c4 c5 c6 f6 hz
  go_enter Tryz.func69, Tryz.ntmps69
  go_wp2_with fail
  refine PR.out.mono ?_
  rintro e w' ⟨rfl, rfl⟩
  go_wp2_with fail
  refine (O0.out.call (PoX.ordc (fun A g o => sl_enter_any g m))).mono ?_
  rintro e w1 ⟨rfl, h1⟩
  by_cases hb : 0 ≤ m ∧ m < c.n
  · have E : enS c.n m s.low s.high = (true, wo m.toNat s.low ++ [m.toNat], wo m.toNat s.high) := if_pos hb
    have EP := Lib.hid (show enterP c s m z = (true, { s with low := wo m.toNat s.low ++ [m.toNat], high := wo m.toNat s.high, lb := fun i => if i = m.toNat then z else s.lb i, G := woK (kU z) s.G }) by unfold enterP; rw [E]; rfl)
    rw [E] at h1 ⊢
    obtain ⟨c0, c1, c2, c3, c4, c5, c6, f6⟩ := h1.1.cells
    obtain ⟨k, rfl⟩ : ∃ k : Nat, m = (k : Int) := ⟨m.toNat, by omega⟩
    have hk : k < c.n := by omega
    have L := h1.1.lbs
    have l0 : w1.cell? ⟨p.lb, k, none⟩ = some (.int .i64 (s.lb k)) := L.cell hk
    have l1 : w1.frozen? ⟨p.lb, k, none⟩ = false := L.free k
    have H1 := Lib.hid (h1.move (PoX.setLb k z))
    have hn : (c.n : Int) ≤ 192 := by have := HC.out.n1; omega
    clear h1 L c0 c2 c4 c5 c6 f6 hb E
    go_wp2_with fail
    generalize hw2 : w1.setCell ⟨p.lb, k, none⟩ (.int .i64 z) = w2 at *
    obtain ⟨c0, c1, c2, c3, c4, c5, c6, f6⟩ := H1.out.1.cells
    clear hw2 c0 c1 c2 c4 c5 c6 f6
    go_still_tail 6, (by kernel_rfl)
    still_call (po_key _ _)
    refine wpStill_nil ?_
    change wpList _ _ _ _ _ w2.drew
    go_wp2_with fail
    refine (H1.out.drew.call (PoX.hisc (fun A g o => gh_take g o (kU z) (kU_bd z).1 (kU_bd z).2))).mono ?_
    rintro e w3 ⟨rfl, h3⟩
    have F := Lib.hid (PoO.of (s := (enterP c s (k : Int) z).2) (by rw [EP.out]; exact h3) HC.out PB1.out)
    have EP1 := Lib.hid (congrArg Prod.fst EP.out)
    clear h3
    go_wp2
    go_ret
    exact ⟨by rw [EP1.out]; rfl, F.out⟩
  · have E : enS c.n m s.low s.high = (false, s.low, s.high) := if_neg hb
    have EP := Lib.hid (show enterP c s m z = (false, s) by unfold enterP; rw [E]; rfl)
    rw [E] at h1 ⊢
    have F := Lib.hid (PoO.of (s := (enterP c s m z).2) (by rw [EP.out]; exact h1) HC.out PB1.out)
    have EP1 := Lib.hid (congrArg Prod.fst EP.out)
    clear h1 E hb
    go_wp2
    go_ret
    exact ⟨by rw [EP1.out]; rfl, F.out⟩

theorem lvS_in {n : Nat} {m : Int} {low high : List Nat} (oi : OInv n low high) (h : (lvS m low high).1 = true) : ∃ k : Nat, m = (k : Int) ∧ k < n ∧ lvS m low high = (true, wo k low, wo k high) := by
  unfold lvS at h ⊢
  by_cases hi : (inI m low || inI m high) = true
  · rw [if_pos hi] at h ⊢
    obtain ⟨k, rfl, hk⟩ := inI_or.1 hi
    exact ⟨k, rfl, hk.elim (oi.ll k) (oi.hl k), rfl⟩
  · rw [if_neg hi] at h
    cases h

theorem po_leave {s : PV} (h : PoO b c s S w) (ho : Own S w) (hN : s.N < 1000000) (m : Int) (gg : Bool) :
    Calls Tryz.prog 96 #[.pointer (some ⟨b, 0, none⟩), .int .i64 m, .bool gg] w fun e w' => e = .returned (.bool (leaveP c s m gg).1) ∧ PoO b c (leaveP c s m gg).2 (Ext S w w') w' ∧ Keeps S w w' := by
  obtain ⟨⟨p, hx⟩, hc, hs⟩ := h
  have PB1 := Lib.hid (hs.leaveP (c := c) hN m gg)
  have HNN := Lib.hid hN
  have HC := Lib.hid hc
  have PR := Lib.hid (po_real hx)
  have O0 := Lib.hid (OnWay.begin hx ho)
  obtain ⟨B, hord, _⟩ := hx.ord
  have OI := Lib.hid hord.oinv
  obtain ⟨c0, c1, c2, c3, c4, c5, c6, f6⟩ := hx.cells
  clear hx hc hs ho hord c1 c2 c3 c4 c5 c6 f6 hN
  go_enter Tryz.func96, Tryz.ntmps96
  go_wp2_with fail
  refine PR.out.mono ?_
  rintro e w' ⟨rfl, rfl⟩
  go_wp2_with fail
  refine (O0.out.call (PoX.ordc (fun A g o => sl_leave_any g m))).mono ?_
  rintro e w1 ⟨rfl, h1⟩
  by_cases hb : (lvS m s.low s.high).1 = true
  · obtain ⟨k, rfl, hk, E⟩ := lvS_in OI.out hb
    rw [E] at h1 ⊢
    clear hb
    cases gg
    · have EP := Lib.hid (show leaveP c s (k : Int) false = (true, { s with low := wo k s.low, high := wo k s.high }) by unfold leaveP; rw [E]; rfl)
      have F := Lib.hid (PoO.of (s := (leaveP c s (k : Int) false).2) (by rw [EP.out]; exact h1) HC.out PB1.out)
      have EP1 := Lib.hid (congrArg Prod.fst EP.out)
      clear h1 E
      go_wp2
      go_ret
      exact ⟨by rw [EP1.out]; rfl, F.out⟩
    · have EP := Lib.hid (show leaveP c s (k : Int) true = (true, { s with low := wo k s.low, high := wo k s.high, G := putG c.cap s.G (kU (s.lb k)), N := s.N + 1 }) by unfold leaveP; rw [E]; rfl)
      obtain ⟨c0, c1, c2, c3, c4, c5, c6, f6⟩ := h1.1.cells
      have l0 : w1.cell? ⟨p.lb, k, none⟩ = some (.int .i64 (s.lb k)) := h1.1.lbs.cell hk
      have H1 := Lib.hid h1
      have hn : (c.n : Int) ≤ 192 := by have := HC.out.n1; omega
      clear h1 c0 c2 c4 c5 c6 f6 E
      go_wp2_with fail
      go_still_tail 13, (by kernel_rfl)
      still_call (po_key _ _)
      refine wpStill_nil ?_
      change wpList _ _ _ _ _ w1.drew
      go_wp2_with fail
      refine (H1.out.drew.call (PoX.hisc (fun A g o => gh_put g o HNN.out (kU (s.lb k)) (kU_bd _).1 (kU_bd _).2))).mono ?_
      rintro e w3 ⟨rfl, h3⟩
      have F := Lib.hid (PoO.of (s := (leaveP c s (k : Int) true).2) (by rw [EP.out]; exact h3) HC.out PB1.out)
      have EP1 := Lib.hid (congrArg Prod.fst EP.out)
      clear h3
      go_wp2
      go_ret
      exact ⟨by rw [EP1.out]; rfl, F.out⟩
  · have E : lvS m s.low s.high = (false, s.low, s.high) := by
      unfold lvS at hb ⊢
      by_cases hi : (inI m s.low || inI m s.high) = true
      · rw [if_pos hi] at hb; exact absurd rfl hb
      · rw [if_neg hi]
    have EP := Lib.hid (show leaveP c s m gg = (false, s) by unfold leaveP; rw [E]; rfl)
    rw [E] at h1 ⊢
    have F := Lib.hid (PoO.of (s := (leaveP c s m gg).2) (by rw [EP.out]; exact h1) HC.out PB1.out)
    have EP1 := Lib.hid (congrArg Prod.fst EP.out)
    clear h1 E hb
    go_wp2
    go_ret
    exact ⟨by rw [EP1.out]; rfl, F.out⟩
end
end Go.Proofs.YtbgknopjgohocaaGreat
