/- The program's policy: Victim, Welcome, Think, Ranks, Ghosts, Scans, Reset. -/
import Derived.Test.YtdbgehplmllgdaaGreatPo
namespace Go.Proofs.YtdbgehplmllgdaaGreat
open Go.RowKit Fl
open Scan hiding isN
set_option linter.unusedVariables false
set_option maxRecDepth 100000
set_option maxHeartbeats 4000000

section
variable {S : Nat → Prop} {w0 w : World} {b : Nat} {c : PC} {p : PI} {sc : Bool} {lb : Nat → Int} {low high : List Nat} {t : TS} {G : List Int} {N : Nat} {x : Wt} {s : PV}

theorem vic_lt {n : Nat} (oi : OInv n s.low s.high) (h : anyP s = true) : vicP s < n := by
  unfold anyP at h
  unfold vicP
  cases hl : s.low ++ s.high with
  | nil => rw [hl] at h; cases h
  | cons a r =>
    have ha : a ∈ s.low ++ s.high := by rw [hl]; exact List.mem_cons_self
    show a < n
    rcases List.mem_append.1 ha with h | h
    · exact oi.ll a h
    · exact oi.hl a h

theorem po_victim (hx : PoX b c p sc s.lb s.low s.high t G N x S w) (hc : PK c) :
    Calls Tryz.prog 13 #[.pointer (some ⟨b, 0, none⟩)] w fun e w' => e = .returned (.tuple #[.int .i64 (vicN s), .int .i64 (vicL s), .bool (anyP s)]) ∧ Below w.heap.size w w' := by
  have PR := Lib.hid (po_real hx)
  obtain ⟨B, ho, _⟩ := hx.ord
  have OI := Lib.hid ho.oinv
  have SV := Lib.hid (sl_victim ho)
  have HX := Lib.hid hx
  have HC := Lib.hid hc
  have EV := Lib.hid (show ((s.low ++ s.high).headD 0 : Nat) = vicP s from rfl)
  have EA := Lib.hid (show (!(s.low ++ s.high).isEmpty) = anyP s from rfl)
  obtain ⟨c0, c1, c2, c3, c4, c5, c6, f6⟩ := hx.cells
  clear hx hc ho c1 c2 c3 c4 c5 c6 f6
  go_enter Tryz.func13, Tryz.ntmps13
  go_wp2_with fail
  refine PR.out.mono ?_
  rintro e w' ⟨rfl, rfl⟩
  go_wp2_with fail
  refine SV.out.mono ?_
  rintro e w1 ⟨rfl, b1⟩
  rw [EV.out, EA.out]
  have B1 := Lib.hid b1
  clear b1
  cases ha : anyP s
  · have EL := Lib.hid (And.intro (show vicN s = 0 by unfold vicN; rw [ha]; rfl) (show vicL s = 0 by unfold vicL; rw [ha]; rfl))
    have HA := Lib.hid ha
    clear ha
    go_wp2
    go_ret3
    exact ⟨by rw [EL.out.1, EL.out.2, HA.out]; rfl, B1.out⟩
  · have EL := Lib.hid (And.intro (show vicN s = (vicP s : Int) by unfold vicN; rw [if_pos ha]) (show vicL s = s.lb (vicP s) by unfold vicL; rw [if_pos ha]))
    have hv := vic_lt OI.out ha
    have h1 := Two.keep (Two.own HX.out) (Keeps.of_below B1.out) (fun k h => Nat.not_le.2 h.2)
    obtain ⟨c0, c1, c2, c3, c4, c5, c6, f6⟩ := PoX.cells h1
    have l0 : w1.cell? ⟨p.lb, vicP s, none⟩ = some (.int .i64 (s.lb (vicP s))) := (PoX.lbs h1).cell hv
    have hn : (c.n : Int) ≤ 192 := by have := HC.out.n1; omega
    have HA := Lib.hid ha
    clear ha h1 c0 c2 c3 c4 c5 c6 f6
    generalize vicP s = k at *
    have hv0 : (k : Int) < c.n := by omega
    go_wp2_with fail
    go_quiet (fail)
    go_wp2
    go_ret3
    exact ⟨by rw [EL.out.1, EL.out.2, HA.out]; rfl, below_drewN B1.out _⟩

theorem po_think (h : PoO b c s S w) (ho : Own S w) (z : Int) :
    Calls Tryz.prog 19 #[.pointer (some ⟨b, 0, none⟩), .int .i64 z] w fun e w' => e = .returned (.int .i64 (thinkP c s z)) ∧ PoO b c s (Ext S w w') w' ∧ Keeps S w w' := by
  obtain ⟨⟨p, hx⟩, hc, hs⟩ := h
  have PB1 := Lib.hid hs
  have HC := Lib.hid hc
  have PR := Lib.hid (po_real hx)
  have O0 := Lib.hid (OnWay.begin hx ho)
  have ET := Lib.hid (show thinkP c s z = thinkT (pickN c.seed (kU z) c.width) s.t from rfl)
  obtain ⟨c0, c1, c2, c3, c4, c5, c6, f6⟩ := hx.cells
  clear hx hc hs ho c0 c1 c3 c4 c5 c6 f6
  go_enter Tryz.func19, Tryz.ntmps19
  go_wp2_with fail
  refine PR.out.mono ?_
  rintro e w' ⟨rfl, rfl⟩
  go_wp2_with fail
  go_still_tail 6, (by kernel_rfl)
  still_call (po_key _ _)
  refine wpStill_nil ?_
  change wpList _ _ _ _ _ w.drew
  go_wp2_with fail
  refine (O0.out.drew.call (PoX.filc (fun A g o => ti_think g o (kU z) (kU_bd z).1 (kU_bd z).2))).mono ?_
  rintro e w1 ⟨rfl, h1⟩
  rw [← ET.out]
  have F := Lib.hid (PoO.of (s := s) h1 HC.out PB1.out)
  clear h1
  go_wp2
  go_ret
  exact ⟨rfl, F.out⟩

theorem po_ranks (h : PoO b c s S w) :
    Calls Tryz.prog 20 #[.pointer (some ⟨b, 0, none⟩)] w fun e w' => ∃ v, e = .returned v ∧ RdI w' v (s.low ++ s.high) ∧ Below w.heap.size w w' := by
  obtain ⟨⟨p, hx⟩, hc, hs⟩ := h
  have PR := Lib.hid (po_real hx)
  obtain ⟨B, ho, _⟩ := hx.ord
  have AL := Lib.hid (sl_all ho)
  obtain ⟨c0, c1, c2, c3, c4, c5, c6, f6⟩ := hx.cells
  clear hx hc hs ho c1 c2 c3 c4 c5 c6 f6
  go_enter Tryz.func20, Tryz.ntmps20
  go_wp2_with fail
  refine PR.out.mono ?_
  rintro e w' ⟨rfl, rfl⟩
  go_wp2_with fail
  refine AL.out.mono ?_
  rintro e w1 ⟨v, rfl, r1, b1⟩
  have R1 := Lib.hid r1
  have B1 := Lib.hid b1
  clear r1 b1
  go_wp2
  go_ret
  exact ⟨_, rfl, R1.out, B1.out⟩

theorem po_ghosts (h : PoO b c s S w) :
    Calls Tryz.prog 21 #[.pointer (some ⟨b, 0, none⟩)] w fun e w' => ∃ v, e = .returned v ∧ RowK w' w.heap.size v s.G ∧ Below w.heap.size w w' := by
  obtain ⟨⟨p, hx⟩, hc, hs⟩ := h
  have PR := Lib.hid (po_real hx)
  obtain ⟨B, ho, _⟩ := hx.his
  have AL := Lib.hid (gh_all ho)
  obtain ⟨c0, c1, c2, c3, c4, c5, c6, f6⟩ := hx.cells
  clear hx hc hs ho c0 c1 c2 c4 c5 c6 f6
  go_enter Tryz.func21, Tryz.ntmps21
  go_wp2_with fail
  refine PR.out.mono ?_
  rintro e w' ⟨rfl, rfl⟩
  go_wp2_with fail
  refine AL.out.mono ?_
  rintro e w1 ⟨v, rfl, r1, b1⟩
  have R1 := Lib.hid r1
  have B1 := Lib.hid b1
  clear r1 b1
  go_wp2
  go_ret
  exact ⟨_, rfl, R1.out, B1.out⟩

theorem po_scans (h : PoO b c s S w) :
    Calls Tryz.prog 22 #[.pointer (some ⟨b, 0, none⟩)] w fun e w' => e = .returned (.int .i64 (scansP c s)) ∧ w = w' := by
  obtain ⟨⟨p, hx⟩, hc, hs⟩ := h
  have PR := Lib.hid (po_real hx)
  obtain ⟨B, ho⟩ := hx.wat
  have AL := Lib.hid (sScans_any ho)
  have ES := Lib.hid (show (wtP c s).scans = scansP c s from rfl)
  obtain ⟨c0, c1, c2, c3, c4, c5, c6, f6⟩ := hx.cells
  clear hx hc hs ho c0 c1 c2 c3 c5 c6 f6
  go_enter Tryz.func22, Tryz.ntmps22
  go_wp2_with fail
  refine PR.out.mono ?_
  rintro e w' ⟨rfl, rfl⟩
  go_wp2_with fail
  refine AL.out.mono ?_
  rintro e w1 ⟨rfl, rfl⟩
  rw [ES.out]
  go_wp2
  go_ret
  exact ⟨rfl, rfl⟩

theorem po_reset (h : PoO b c s S w) (ho : Own S w) :
    Calls Tryz.prog 12 #[.pointer (some ⟨b, 0, none⟩)] w fun e w' => e = .returned (.tuple #[]) ∧ PoO b c (resetP c s) (Ext S w w') w' ∧ Keeps S w w' := by
  obtain ⟨⟨p, hx⟩, hc, hs⟩ := h
  have PB1 := Lib.hid (hs.resetP (c := c))
  have HC := Lib.hid hc
  have PR := Lib.hid (po_real hx)
  have O0 := Lib.hid (OnWay.begin hx ho)
  have EW := Lib.hid (show { wtP c s with row := 0, last := none } = wtP c (resetP c s) from after_none _ _ _)
  obtain ⟨c0, c1, c2, c3, c4, c5, c6, f6⟩ := hx.cells
  clear hx hc hs ho c0 c1 c2 c3 c5 c6 f6
  go_enter Tryz.func12, Tryz.ntmps12
  go_wp2_with fail
  refine PR.out.mono ?_
  rintro e w' ⟨rfl, rfl⟩
  go_wp2_with fail
  refine (O0.out.call (PoX.watc (fun A g o => (sReset_any g).mono fun e w' ⟨he, g', k⟩ => ⟨he, WatchAt.mono g' (fun k h _ => .inl h), k⟩))).mono ?_
  rintro e w1 ⟨rfl, h1⟩
  rw [EW.out] at h1
  obtain ⟨c0, c1, c2, c3, c4, c5, c6, f6⟩ := h1.1.cells
  have H1 := Lib.hid h1
  clear h1 c0 c1 c2 c4 c5 c6 f6
  go_wp2_with fail
  refine (H1.out.call (PoX.hisc (fun A g o => gh_clear g))).mono ?_
  rintro e w2 ⟨rfl, h2⟩
  obtain ⟨c0, c1, c2, c3, c4, c5, c6, f6⟩ := h2.1.cells
  have F := Lib.hid (PoO.of (s := resetP c s) (h2.move (PoX.setScan false)) HC.out PB1.out)
  clear h2 c0 c1 c2 c3 c4 c5
  go_wp2
  go_end0
  exact ⟨rfl, F.out⟩
end
end Go.Proofs.YtdbgehplmllgdaaGreat
