/- The document's policy: Victim, Welcome. -/
import Derived.Test.YtdbgehplmllgdaaGreatRu
import Derived.Test.YtdbgehplmllgdaaGreatPw
namespace Go.Proofs.YtdbgehplmllgdaaGreat
open Go.RowKit Fl
open Scan hiding isN
set_option linter.unusedVariables false
set_option maxRecDepth 100000
set_option maxHeartbeats 4000000

section
variable {S : Nat → Prop} {w0 w : World} {b : Nat} {cf : Nat → Value} {c : PC} {p : RI} {vg vr : Value} {bf : Int} {sc : Bool} {lb : Nat → Int} {low high : List Nat} {t : TS} {G rd : List Int} {s : PV}

theorem rp_victim (hx : RpX b cf c p vg vr bf sc s.lb s.low s.high t G rd S w) (hc : PK c) (pl : PL c s) :
    Calls Tryz.prog 76 #[.pointer (some ⟨b, 0, none⟩)] w fun e w' => e = .returned (.tuple #[.int .i64 (vicN s), .int .i64 (vicL s), .bool (anyP s)]) ∧ Below w.heap.size w w' := by
  obtain ⟨B, ho, _⟩ := hx.ord
  obtain ⟨vl, vh, hv⟩ := ho.open_
  have AL := Lib.hid (rf_all hv pl.lo pl.hi)
  have HX := Lib.hid hx
  have HC := Lib.hid hc
  have OI := Lib.hid pl.oi
  have c11 := hx.cells.c11
  have LN := Lib.hid (show (s.low ++ s.high).length ≤ 2048 by rw [List.length_append]; have := pl.lo; have := pl.hi; omega)
  clear hx hc ho hv pl
  go_enter Tryz.func76, Tryz.ntmps76
  go_wp2_with fail
  refine AL.out.mono ?_
  rintro e w1 ⟨v, rfl, o1, b1⟩
  obtain ⟨A, ca, rfl⟩ := own_any o1
  have B1 := Lib.hid b1
  cases ha : anyP s
  · have h0 : s.low ++ s.high = [] := by
      unfold anyP at ha
      simpa using ha
    rw [h0] at o1 ⊢
    have EL := Lib.hid (And.intro (show vicN s = 0 by unfold vicN; rw [ha]; rfl) (show vicL s = 0 by unfold vicL; rw [ha]; rfl))
    have HA := Lib.hid ha
    clear o1 b1 ha h0 c11
    go_wp2
    go_ret3
    exact ⟨by rw [EL.out.1, EL.out.2, HA.out]; rfl, B1.out⟩
  · have hv := vic_lt OI.out ha
    have EL := Lib.hid (And.intro (show vicN s = (vicP s : Int) by unfold vicN; rw [if_pos ha]) (show vicL s = s.lb (vicP s) by unfold vicL; rw [if_pos ha]))
    obtain ⟨a, r, hl⟩ : ∃ a r, s.low ++ s.high = a :: r := by
      unfold anyP at ha
      cases h : s.low ++ s.high with
      | nil => rw [h] at ha; cases ha
      | cons a r => exact ⟨a, r, rfl⟩
    have hva : vicP s = a := by unfold vicP; rw [hl]; rfl
    rw [hva] at hv EL
    obtain ⟨g, rfl⟩ : ∃ g, A = some ⟨g, 0, none⟩ := by
      rcases o1.2 with ⟨e, h0⟩ | ⟨g, cap, cur, e, _⟩
      · rw [hl] at h0; simp at h0
      · simp at e; exact ⟨g, e.1⟩
    have l1 : w1.cell? ⟨g, 0, none⟩ = some (.int .i64 (a : Int)) := by
      have := o1.cells (g := g) rfl 0 (intV a) (by rw [hl]; rfl)
      rw [addr_addG] at this
      exact this
    obtain ⟨L, hL⟩ : ∃ L, (s.low ++ s.high).length = L := ⟨_, rfl⟩
    have hL0 : 0 < L := by rw [← hL, hl]; simp
    have hL1 : L ≤ 2048 := hL ▸ LN.out
    have eL : decide ((L : Int) = 0) = false := decide_eq_false (by omega)
    have eL' : ((L : Int) == 0) = false := by simp; omega
    have hx1 := Two.keep (Two.own HX.out) (Keeps.of_below b1) (fun k h => Nat.not_le.2 h.2)
    have c12 := (RpX.cells hx1).c12
    have l0 : w1.cell? ⟨p.lb, a, none⟩ = some (.int .i64 (s.lb a)) := (RpX.lbs hx1).cell hv
    have hn : (c.n : Int) ≤ 192 := by have := HC.out.n1; omega
    have ha0 : (a : Int) < c.n := by omega
    have hL2 : (0 : Int) < L := by omega
    rw [hL]
    have HA := Lib.hid ha
    clear ha hx1 o1 b1 c11 hL hl hva
    go_wp2_with fail
    go_quiet (fail)
    go_wp2
    go_ret3
    exact ⟨by rw [EL.out.1, EL.out.2, HA.out]; rfl, below_drewN B1.out _⟩

theorem rp_welcomeX (hx : RpX b cf c p vg vr s.s0 s.scan s.lb s.low s.high s.t s.G s.rd S w) (hc : PK c) (ho : Own S w) (pl : PL c s) (z : Int) :
    Calls Tryz.prog 77 #[.pointer (some ⟨b, 0, none⟩), .int .i64 z] w fun e w' => e = .returned (.bool (welP c s z)) ∧ RpX b cf c p vg vr s.s0 s.scan s.lb s.low s.high s.t s.G s.rd (Ext S w w') w' ∧ Keeps S w w' := by
  have HC := Lib.hid hc
  have PV := Lib.hid (rp_victim hx hc pl)
  have O0 := Lib.hid (OnWay.begin hx ho)
  have LG := Lib.hid (show s.G.length ≤ 1000000 by have := pl.g; have := hc.cap; omega)
  obtain ⟨A, ca, rfl⟩ := own_any hx.gho
  have c17 := hx.cells.c17
  obtain hsc | hsc : s.scan = false ∨ s.scan = true := by cases s.scan <;> simp
  · rw [hsc] at c17
    have W0 := Lib.hid (And.intro (fun ha => welP_none (c := c) hsc ha z) (And.intro (fun ha (hk : kU z ∈ s.G) => welP_has (c := c) hsc ha hk) (fun ha (hk : kU z ∉ s.G) => welP_else (c := c) hsc ha hk)))
    clear hx hc ho hsc pl
    go_enter Tryz.func77, Tryz.ntmps77
    go_wp2_with fail
    refine PV.out.mono ?_
    rintro e w1 ⟨rfl, b1⟩
    have O1 := Lib.hid (O0.out.below b1)
    have c13 := O1.out.1.cells.c13
    have c7 := O1.out.1.cells.c7
    have c10 := O1.out.1.cells.c10
    clear b1 c17
    generalize hva : anyP s = va at *
    cases va
    · have EW := Lib.hid (W0.out.1 rfl)
      have F := Lib.hid (O1.out.done)
      clear W0
      go_wp2
      go_ret
      exact ⟨by rw [EW.out]; rfl, F.out⟩
    · have GH := Lib.hid (rk_has (RowK.rd O1.out.1.gho) LG.out (kU z))
      have MG := Lib.hid HC.out.mg
      by_cases hk : kU z ∈ s.G
      · have EW := Lib.hid (W0.out.2.1 rfl hk)
        have F := Lib.hid (O1.out.done)
        rw [decide_eq_true hk] at GH
        clear W0 hk
        go_wp2_with fail
        refine GH.out.mono ?_
        rintro e w' ⟨rfl, rfl⟩
        go_wp2
        go_ret
        exact ⟨by rw [EW.out]; rfl, F.out⟩
      · have EW := Lib.hid (W0.out.2.2 rfl hk)
        rw [decide_eq_false hk] at GH
        clear W0 hk
        go_wp2_with fail
        refine GH.out.mono ?_
        rintro e w' ⟨rfl, rfl⟩
        have EE := Lib.hid (show overB (thinkT (pickN c.seed (kU z) c.width) s.t) c.margin (thinkT (pickN c.seed (kU (vicL s)) c.width) s.t) = welP c s z from EW.out.symm)
        have AD := Lib.hid (fun (W : World) (k : OnWay (RpX b cf c p (Value.slice A s.G.length ca) vr s.s0 s.scan s.lb s.low s.high s.t s.G s.rd) S w W) => k.call (RpX.filc (fun A g o => rt_admit g o (kU z) (kU (vicL s)) (kU_bd _).1 (kU_bd _).2 (kU_bd _).1 (kU_bd _).2 c.margin MG.out _ _ rfl rfl)))
        go_wp2_with fail
        go_still_tail 13, (by kernel_rfl)
        change wpList _ _ _ _ _ w1.drew
        go_wp2_with fail
        refine (AD.out _ O1.out.drew).mono ?_
        rintro e w2 ⟨rfl, h2⟩
        have F := Lib.hid (OnWay.done h2)
        rw [EE.out]
        clear h2
        go_wp2
        go_ret
        exact ⟨rfl, F.out⟩
  · rw [hsc] at c17
    have EW := Lib.hid (welP_scan (c := c) hsc z)
    have F := Lib.hid (O0.out.done)
    clear hx hc ho hsc pl
    go_enter Tryz.func77, Tryz.ntmps77
    go_wp2
    go_ret
    exact ⟨by rw [EW.out]; rfl, F.out⟩

theorem rp_welcome (h : RpO b c s S w) (ho : Own S w) (pl : PL c s) (z : Int) :
    Calls Tryz.prog 77 #[.pointer (some ⟨b, 0, none⟩), .int .i64 z] w fun e w' => e = .returned (.bool (welP c s z)) ∧ RpO b c s (Ext S w w') w' ∧ Keeps S w w' := by
  obtain ⟨⟨cf, p, vg, vr, hx⟩, hc, hs⟩ := h
  exact (rp_welcomeX hx hc ho pl z).mono fun e w' ⟨he, h1, h2⟩ => ⟨he, ⟨⟨cf, p, vg, vr, h1⟩, hc, hs⟩, h2⟩
end
end Go.Proofs.YtdbgehplmllgdaaGreat
