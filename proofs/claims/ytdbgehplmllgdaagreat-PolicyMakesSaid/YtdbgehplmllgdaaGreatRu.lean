/- The document's policy: Scans, Reset, Enter, Leave, Victim, Welcome. -/
import Derived.Test.YtdbgehplmllgdaaGreatRq
namespace Go.Proofs.YtdbgehplmllgdaaGreat
open Go.RowKit Fl
open Scan hiding isN
set_option linter.unusedVariables false
set_option maxRecDepth 100000
set_option maxHeartbeats 4000000

section
variable {S : Nat → Prop} {w0 w : World} {b : Nat} {cf : Nat → Value} {c : PC} {p : RI} {vg vr : Value} {bf : Int} {sc : Bool} {lb : Nat → Int} {low high : List Nat} {t : TS} {G rd : List Int} {s : PV}

theorem rfO_enter {A : Nat → Prop} {o n most : Nat} (g : RfO o n most low high A w) (m : Int) (hl : low.length ≤ 1024) (hh : high.length ≤ 1024) :
    Calls Tryz.prog 128 #[.pointer (some ⟨o, 0, none⟩), .int .i64 m] w fun e w' => e = .returned (.bool (enS n m low high).1) ∧ RfO o n most (enS n m low high).2.1 (enS n m low high).2.2 (Ext A w w') w' ∧ Keeps A w w' :=
  g.open_.elim fun vl g => g.elim fun vh g => (rf_enter g m hl hh).mono fun e w' ⟨he, vl', vh', r⟩ => ⟨he, r.shut⟩
theorem rfO_touch {A : Nat → Prop} {o n most : Nat} (g : RfO o n most low high A w) (m : Int) (hl : low.length ≤ 1024) (hh : high.length ≤ 1024) :
    Calls Tryz.prog 72 #[.pointer (some ⟨o, 0, none⟩), .int .i64 m] w fun e w' => e = .returned (.bool (toS most m low high).1) ∧ RfO o n most (toS most m low high).2.1 (toS most m low high).2.2 (Ext A w w') w' ∧ Keeps A w w' :=
  g.open_.elim fun vl g => g.elim fun vh g => (rf_touch g m hl hh).mono fun e w' ⟨he, vl', vh', r⟩ => ⟨he, r.shut⟩
theorem rfO_leave {A : Nat → Prop} {o n most : Nat} (g : RfO o n most low high A w) (m : Int) (hl : low.length ≤ 1024) (hh : high.length ≤ 1024) :
    Calls Tryz.prog 127 #[.pointer (some ⟨o, 0, none⟩), .int .i64 m] w fun e w' => e = .returned (.bool (lvS m low high).1) ∧ RfO o n most (lvS m low high).2.1 (lvS m low high).2.2 (Ext A w w') w' ∧ Keeps A w w' :=
  g.open_.elim fun vl g => g.elim fun vh g => (rf_leave g m hl hh).mono fun e w' ⟨he, vl', vh', r⟩ => ⟨he, r.shut⟩

theorem rp_scans (hx : RpX b cf c p vg vr s.s0 sc lb low high t G s.rd S w) (hs : PB s) :
    Calls Tryz.prog 81 #[.pointer (some ⟨b, 0, none⟩)] w fun e w' => e = .returned (.int .i64 (scansP c s)) ∧ ∃ m, w' = w.drewN m := by
  obtain ⟨A, ca, rfl⟩ := own_any hx.rds
  have R := hx.rds
  have HB := Lib.hid (hs.scans (c := c))
  have SC := Lib.hid (fun n => rScans_any A s.rd.length ca c.long (zL s.rd) (w.drewN n) (by
      rcases R.2 with ⟨e, h0⟩ | ⟨g, cap, cur, e, _, _, h, _⟩
      · rw [h0]; exact Nat.zero_le _
      · simp at e; omega) (by have := hs.cnt; have := hs.s0; have := hs.N; omega) (fun i _ => zL_i64 hs.rd i) (fun h0 => by
      rcases R.2 with ⟨e, h1⟩ | ⟨g, cap, cur, e, _, hh, h, _⟩
      · omega
      · simp at e
        refine ⟨g, 0, e.1, fun i hi => ?_⟩
        have := R.cells (g := g) (by simp [Value.ownBlock, e.1]) i (.int .i64 (zL s.rd i)) (by
          rw [List.getElem?_map]
          unfold zL
          rw [List.getD_eq_getElem?_getD, List.getElem?_eq_getElem (by omega)]
          rfl)
        rw [addr_addG] at this
        exact this))
  have c15 := hx.cells.c15
  have c9 := hx.cells.c9
  have c16 := hx.cells.c16
  have E0 := Lib.hid (show s.s0 + (scansN (zL s.rd) c.long s.rd.length : Nat) = scansP c s from rfl)
  obtain ⟨L, hL⟩ : ∃ L, s.rd.length = L := ⟨_, rfl⟩
  rw [hL] at c15 SC E0
  have wr : IntKind.i64.wrap (s.s0 + (scansN (zL s.rd) c.long L : Nat)) = scansP c s := by
    rw [E0.out]; exact IntWalk.i64_in _ (by have := HB.out; have := hs.N; omega)
  clear hx R hs hL
  generalize scansN (zL s.rd) c.long L = k at *
  go_enter Tryz.func81, Tryz.ntmps81
  go_wp2_with fail
  go_quiet ((go_at_call 134; exact quiet_add (SC.out _)))
  go_wp2
  go_ret
  exact ⟨rfl, _, rfl⟩

theorem rp_reset (h : RpO b c s S w) (ho : Own S w) :
    Calls Tryz.prog 75 #[.pointer (some ⟨b, 0, none⟩)] w fun e w' => e = .returned (.tuple #[]) ∧ RpO b c (resetP c s) (Ext S w w') w' ∧ Keeps S w w' := by
  obtain ⟨⟨cf, p, vg, vr, hx⟩, hc, hs⟩ := h
  have PB1 := Lib.hid (hs.resetP (c := c))
  have HC := Lib.hid hc
  have SC := Lib.hid (rp_scans hx hs)
  have O0 := Lib.hid (OnWay.begin hx ho)
  have C0 := hx.cells
  have hb := C0.lt
  have c16 := C0.c16
  have c13 := C0.c13
  have c15 := C0.c15
  have c17 := C0.c17
  have f16 := C0.free 16
  have f13 := C0.free 13
  have f15 := C0.free 15
  have f17 := C0.free 17
  clear hx hc hs ho C0
  go_enter Tryz.func75, Tryz.ntmps75
  go_wp2_with fail
  refine SC.out.mono ?_
  rintro e w' ⟨rfl, m, rfl⟩
  go_wp2
  go_end0
  have h1 := (((((O0.out.drewN m).move (RpX.setBf (scansP c s))).move RpX.noneR).move RpX.setR).move (RpX.setScan false)).move RpX.noneG
  exact ⟨rfl, RpO.of (s := resetP c s) (h1.move RpX.setG) HC.out PB1.out⟩

theorem rp_enter (h : RpO b c s S w) (ho : Own S w) (pl : PL c s) (m z : Int) (hz : i64 z) :
    Calls Tryz.prog 73 #[.pointer (some ⟨b, 0, none⟩), .int .i64 m, .int .i64 z] w fun e w' => e = .returned (.bool (enterP c s m z).1) ∧ RpO b c (enterP c s m z).2 (Ext S w w') w' ∧ Keeps S w w' := by
  obtain ⟨⟨cf, p, vg, vr, hx⟩, hc, hs⟩ := h
  have PB1 := Lib.hid (hs.enterP (c := c) m hz)
  have HC := Lib.hid hc
  have PLH := Lib.hid pl
  have O0 := Lib.hid (OnWay.begin hx ho)
  have C0 := hx.cells
  have c11 := C0.c11
  clear hx hc hs ho C0 hz pl
  go_enter Tryz.func73, Tryz.ntmps73
  go_wp2_with fail
  refine (O0.out.call (RpX.ordc (fun A g o => rfO_enter g m PLH.out.lo PLH.out.hi))).mono ?_
  rintro e w1 ⟨rfl, h1⟩
  by_cases hb : 0 ≤ m ∧ m < c.n
  · have E : enS c.n m s.low s.high = (true, wo m.toNat s.low ++ [m.toNat], wo m.toNat s.high) := if_pos hb
    have EP := Lib.hid (show enterP c s m z = (true, { s with low := wo m.toNat s.low ++ [m.toNat], high := wo m.toNat s.high, lb := fun i => if i = m.toNat then z else s.lb i, G := woK (kU z) s.G }) by unfold enterP; rw [E]; rfl)
    rw [E] at h1 ⊢
    obtain ⟨A, ca, rfl⟩ := own_any h1.1.gho
    have C1 := h1.1.cells
    have c12 := C1.c12
    have c13 := C1.c13
    have bd1 := C1.lt
    obtain ⟨k, rfl⟩ : ∃ k : Nat, m = (k : Int) := ⟨m.toNat, by omega⟩
    have hk : k < c.n := by omega
    have L := h1.1.lbs
    have l0 : w1.cell? ⟨p.lb, k, none⟩ = some (.int .i64 (s.lb k)) := L.cell hk
    have l1 : w1.frozen? ⟨p.lb, k, none⟩ = false := L.free k
    have hne : b ≠ p.lb := h1.1.top.ne L (by decide)
    have H1 := Lib.hid (h1.move (RpX.setLb k z))
    have hn : (c.n : Int) ≤ 192 := by have := HC.out.n1; omega
    clear h1 L C1 hb E c11
    go_wp2_with fail
    generalize hw2 : w1.setCell ⟨p.lb, k, none⟩ (.int .i64 z) = w2 at *
    have RG := Lib.hid (rk_without (RowK.rd H1.out.1.gho) (by have := PLH.out.g; have := HC.out.cap; omega) (kU z))
    clear hw2 c12 l0 l1
    refine RG.out.mono ?_
    rintro e w3 ⟨v3, rfl, r3, b3⟩
    have h3 := H1.out.move (RpX.otherG b3 r3)
    have C3 := rp_cells (Two.l h3.1).choose_spec.1.2
    obtain ⟨A3, ca3, rfl⟩ := own_any r3
    have bd3 := C3.lt
    have c13' := C3.c13
    have f13' := C3.free 13
    have F := Lib.hid (RpO.of (s := (enterP c s (k : Int) z).2) (by rw [EP.out]; exact h3.move (RpX.setG)) HC.out PB1.out)
    have EP1 := Lib.hid (congrArg Prod.fst EP.out)
    clear h3 C3 r3 b3
    go_wp2
    go_ret
    exact ⟨by rw [EP1.out]; rfl, F.out⟩
  · have E : enS c.n m s.low s.high = (false, s.low, s.high) := if_neg hb
    have EP := Lib.hid (show enterP c s m z = (false, s) by unfold enterP; rw [E]; rfl)
    rw [E] at h1 ⊢
    have F := Lib.hid (RpO.of (s := (enterP c s m z).2) (by rw [EP.out]; exact h1) HC.out PB1.out)
    have EP1 := Lib.hid (congrArg Prod.fst EP.out)
    clear h1 E hb
    go_wp2
    go_ret
    exact ⟨by rw [EP1.out]; rfl, F.out⟩

theorem rp_leave (h : RpO b c s S w) (ho : Own S w) (pl : PL c s) (hN : s.N < 1000000) (m : Int) (gg : Bool) :
    Calls Tryz.prog 74 #[.pointer (some ⟨b, 0, none⟩), .int .i64 m, .bool gg] w fun e w' => e = .returned (.bool (leaveP c s m gg).1) ∧ RpO b c (leaveP c s m gg).2 (Ext S w w') w' ∧ Keeps S w w' := by
  obtain ⟨⟨cf, p, vg, vr, hx⟩, hc, hs⟩ := h
  have PB1 := Lib.hid (hs.leaveP (c := c) hN m gg)
  have HC := Lib.hid hc
  have PLH := Lib.hid pl
  have O0 := Lib.hid (OnWay.begin hx ho)
  have c11 := hx.cells.c11
  clear hx hc hs ho pl hN
  go_enter Tryz.func74, Tryz.ntmps74
  go_wp2_with fail
  refine (O0.out.call (RpX.ordc (fun A g o => rfO_leave g m PLH.out.lo PLH.out.hi))).mono ?_
  rintro e w1 ⟨rfl, h1⟩
  by_cases hb : (lvS m s.low s.high).1 = true
  · obtain ⟨k, rfl, hk, E⟩ := lvS_in PLH.out.oi hb
    rw [E] at h1 ⊢
    clear hb
    cases gg
    · have EP := Lib.hid (show leaveP c s (k : Int) false = (true, { s with low := wo k s.low, high := wo k s.high }) by unfold leaveP; rw [E]; rfl)
      have F := Lib.hid (RpO.of (s := (leaveP c s (k : Int) false).2) (by rw [EP.out]; exact h1) HC.out PB1.out)
      have EP1 := Lib.hid (congrArg Prod.fst EP.out)
      clear h1 E
      go_wp2
      go_ret
      exact ⟨by rw [EP1.out]; rfl, F.out⟩
    · have EP := Lib.hid (show leaveP c s (k : Int) true = (true, { s with low := wo k s.low, high := wo k s.high, G := putG c.cap s.G (kU (s.lb k)), N := s.N + 1 }) by unfold leaveP; rw [E]; rfl)
      have C1 := h1.1.cells
      have c12 := C1.c12
      have c13 := C1.c13
      have c14 := C1.c14
      have l0 : w1.cell? ⟨p.lb, k, none⟩ = some (.int .i64 (s.lb k)) := h1.1.lbs.cell hk
      have H1 := Lib.hid h1
      have hn : (c.n : Int) ≤ 192 := by have := HC.out.n1; omega
      have RP := Lib.hid (rk_put (RowK.rd h1.1.gho.drew) PLH.out.g HC.out.cap (IntKind.u64.wrap (s.lb k)))
      obtain ⟨A, ca, rfl⟩ := own_any h1.1.gho
      clear h1 C1 E c11
      go_wp2_with fail
      have bd := H1.out.1.cells.lt
      have f13 := H1.out.1.cells.free 13
      have FB := Lib.hid (fun w3 (b3 : Below w1.drew.heap.size w1.drew w3) => show w3.frozen? ⟨b, 13, none⟩ = false ∧ w3.cell? ⟨b, 13, none⟩ = some (.slice A s.G.length ca) from ⟨(b3.frozen (p := ⟨b, 13, none⟩) bd).trans f13, (b3.cell (p := ⟨b, 13, none⟩) bd).trans c13⟩)
      go_region_law (first | (go_simp; go_at_call 130; (with_reducible refine RP.out.mono ?_); rintro e w3 ⟨v3, rfl, r3, b3⟩; have fb3 := (FB.out _ b3).1; have cb3 := (FB.out _ b3).2; have HB3 := Lib.hid b3; obtain ⟨A3, ca3, rfl⟩ := own_any r3; have HR3 := Lib.hid r3; clear b3 r3))
      all_goals (
        have F := Lib.hid (RpO.of (s := (leaveP c s (k : Int) true).2) (by rw [EP.out]; exact (H1.out.drew.move (RpX.otherG HB3.out HR3.out)).move (RpX.setG)) HC.out PB1.out)
        have EP1 := Lib.hid (congrArg Prod.fst EP.out)
        clear c13 c12 c14 l0 fb3 cb3
        go_wp2
        go_ret
        exact ⟨by rw [EP1.out]; rfl, F.out⟩)
  · have E : lvS m s.low s.high = (false, s.low, s.high) := by
      unfold lvS at hb ⊢
      by_cases hi : (inI m s.low || inI m s.high) = true
      · rw [if_pos hi] at hb; exact absurd rfl hb
      · rw [if_neg hi]
    have EP := Lib.hid (show leaveP c s m gg = (false, s) by unfold leaveP; rw [E]; rfl)
    rw [E] at h1 ⊢
    have F := Lib.hid (RpO.of (s := (leaveP c s m gg).2) (by rw [EP.out]; exact h1) HC.out PB1.out)
    have EP1 := Lib.hid (congrArg Prod.fst EP.out)
    clear h1 E hb
    go_wp2
    go_ret
    exact ⟨by rw [EP1.out]; rfl, F.out⟩
end
end Go.Proofs.YtdbgehplmllgdaaGreat
