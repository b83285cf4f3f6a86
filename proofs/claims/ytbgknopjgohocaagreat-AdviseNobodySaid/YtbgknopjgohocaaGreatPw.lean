/- The program's policy: Welcome. -/
import Derived.Test.YtbgknopjgohocaaGreatPq
import Derived.Deep.QuietTactic
import Derived.BigQuiet
import Derived.Deep.RegionHeldLaw
namespace Go.Proofs.YtbgknopjgohocaaGreat
open Go.RowKit Fl
open Scan hiding isN
set_option linter.unusedVariables false
set_option maxRecDepth 100000
set_option maxHeartbeats 4000000

section
variable {S : Nat → Prop} {w0 w : World} {b : Nat} {c : PC} {p : PI} {sc : Bool} {lb : Nat → Int} {low high : List Nat} {t : TS} {G : List Int} {N : Nat} {x : Wt} {s : PV}

theorem welP_scan (h : s.scan = true) (z : Int) : welP c s z = false := by unfold welP; rw [if_pos h]
theorem welP_none (h : s.scan = false) (ha : anyP s = false) (z : Int) : welP c s z = true := by unfold welP; rw [h, ha]; rfl
theorem welP_has (h : s.scan = false) (ha : anyP s = true) {z : Int} (hk : kU z ∈ s.G) : welP c s z = true := by unfold welP; rw [h, ha]; simp [hk]
theorem welP_else (h : s.scan = false) (ha : anyP s = true) {z : Int} (hk : kU z ∉ s.G) : welP c s z = overB (thinkP c s z) c.margin (thinkP c s (vicL s)) := by unfold welP; rw [h, ha]; simp [hk]

theorem po_welcome (h : PoO b c s S w) (ho : Own S w) (z : Int) :
    Calls Tryz.prog 94 #[.pointer (some ⟨b, 0, none⟩), .int .i64 z] w fun e w' => e = .returned (.bool (welP c s z)) ∧ PoO b c s (Ext S w w') w' ∧ Keeps S w w' := by
  obtain ⟨⟨p, hx⟩, hc, hs⟩ := h
  have PB1 := Lib.hid hs
  have HC := Lib.hid hc
  have PR := Lib.hid (po_real hx)
  have PV := Lib.hid (po_victim hx hc)
  have O0 := Lib.hid (OnWay.begin hx ho)
  obtain ⟨c0, c1, c2, c3, c4, c5, c6, f6⟩ := hx.cells
  cases hsc : s.scan
  · rw [hsc] at c6
    have W0 := Lib.hid (And.intro (fun ha => welP_none (c := c) hsc ha z) (And.intro (fun ha (hk : kU z ∈ s.G) => welP_has (c := c) hsc ha hk) (fun ha (hk : kU z ∉ s.G) => welP_else (c := c) hsc ha hk)))
    clear hx hc hs ho c0 c1 c2 c3 c4 c5 f6 hsc
    go_enter Tryz.func94, Tryz.ntmps94
    go_wp2_with fail
    refine PR.out.mono ?_
    rintro e w' ⟨rfl, rfl⟩
    go_wp2_with fail
    refine PV.out.mono ?_
    rintro e w1 ⟨rfl, b1⟩
    have O1 := Lib.hid (O0.out.below b1)
    obtain ⟨c0', c1', c2, c3, c4, c5, c6', f6⟩ := O1.out.1.cells
    clear b1 c0' c1' c4 c6 c6' f6
    generalize hva : anyP s = va at *
    cases va
    · have EW := Lib.hid (W0.out.1 rfl)
      clear W0
      go_wp2_with fail
      go_quiet (fail)
      go_wp2
      go_ret
      exact ⟨by rw [EW.out]; rfl, PoO.of (s := s) (O1.out.drewN _) HC.out PB1.out⟩
    · obtain ⟨B, gh, oB⟩ := O1.out.1.his
      have GH := Lib.hid (fun n => ((Rep.drewN gh oB n).has (kU z) (kU_bd z).1 (kU_bd z).2).mono fun e w' ⟨h1, h2⟩ => (⟨h1, h2.symm⟩ : _ ∧ w' = w1.drewN n))
      have MG := Lib.hid HC.out.mg
      clear gh oB
      by_cases hk : kU z ∈ s.G
      · have EW := Lib.hid (W0.out.2.1 rfl hk)
        have d1 := Lib.hid (decide_eq_true hk)
        clear W0 hk
        rw [d1.out] at GH
        go_wp2_with fail
        go_quiet (first | ((go_at_call 62; exact Calls.quiet_of_same (po_key _ _))) | ((go_at_call 117; exact Calls.quiet_of_same (GH.out _))))
        go_wp2
        go_ret
        exact ⟨by rw [EW.out]; rfl, PoO.of (s := s) (O1.out.drewN _) HC.out PB1.out⟩
      · have EW := Lib.hid (W0.out.2.2 rfl hk)
        have d1 := Lib.hid (decide_eq_false hk)
        clear W0 hk
        rw [d1.out] at GH
        go_wp2_with fail
        have GH0 := Lib.hid (show Calls Tryz.prog 117 #[.pointer (some ⟨p.gh, 0, none⟩), .int .u64 (kU z)] w1.drew fun e w' => e = .returned (.bool false) ∧ w' = w1.drew from GH.out 1)
        go_still_tail 24, (by kernel_rfl)
        still_call (po_key _ _)
        still_call GH0.out
        repeat still_step
        still_call (po_key _ _)
        repeat still_step
        still_call (po_key _ _)
        repeat still_step
        refine wpStill_nil ?_
        change wpList _ _ _ _ _ w1.drew
        have AD := Lib.hid (O1.out.drew.call (PoX.filc (fun A g o => ti_admit g o (kU z) (kU (vicL s)) (kU_bd _).1 (kU_bd _).2 (kU_bd _).1 (kU_bd _).2 c.margin MG.out _ _ rfl rfl)))
        go_wp2_with fail
        refine AD.out.mono ?_
        rintro e w2 ⟨rfl, h2⟩
        have F := Lib.hid (PoO.of (s := s) h2 HC.out PB1.out)
        have EE := Lib.hid (show overB (thinkT (pickN c.seed (kU z) c.width) s.t) c.margin (thinkT (pickN c.seed (kU (vicL s)) c.width) s.t) = welP c s z from EW.out.symm)
        rw [EE.out]
        clear h2
        go_wp2
        go_ret
        exact ⟨rfl, F.out⟩
  · rw [hsc] at c6
    have EW := Lib.hid (welP_scan (c := c) hsc z)
    have F := Lib.hid (PoO.of (s := s) O0.out HC.out PB1.out)
    clear hx hc hs ho c0 c1 c2 c3 c4 c5 f6 hsc
    go_enter Tryz.func94, Tryz.ntmps94
    go_wp2_with fail
    refine PR.out.mono ?_
    rintro e w' ⟨rfl, rfl⟩
    go_wp2
    go_ret
    exact ⟨by rw [EW.out]; rfl, F.out⟩
end
end Go.Proofs.YtbgknopjgohocaaGreat
