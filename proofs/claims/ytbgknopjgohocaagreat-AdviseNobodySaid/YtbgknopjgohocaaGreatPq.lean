/- The program's policy: Victim, Welcome, Think, Ranks, Ghosts, Scans, Reset. -/
import Derived.Test.YtbgknopjgohocaaGreatPo
namespace Go.Proofs.YtbgknopjgohocaaGreat
open Go.RowKit Fl
open Scan hiding isN
set_option linter.unusedVariables false
set_option maxRecDepth 100000
set_option maxHeartbeats 4000000

section
variable {S : Nat → Prop} {w0 w : World} {b : Nat} {c : PC} {p : PI} {sc : Bool} {lb : Nat → Int} {low high : List Nat} {t : TS} {G : List Int} {N : Nat} {x : Wt} {s : PV}

theorem vic_lt {n : Nat} (oi : OInv n s.low s.high) (h : anyP s = true) : vicP s < n := by
  unfold anyP at h
  unfold vicP
  cases hl : s.low ++ s.high with
  | nil => rw [hl] at h; cases h
  | cons a r =>
    have ha : a ∈ s.low ++ s.high := by rw [hl]; exact List.mem_cons_self
    show a < n
    rcases List.mem_append.1 ha with h | h
    · exact oi.ll a h
    · exact oi.hl a h

theorem po_victim (hx : PoX b c p sc s.lb s.low s.high t G N x S w) (hc : PK c) :
    Calls Tryz.prog 93 #[.pointer (some ⟨b, 0, none⟩)] w fun e w' => e = .returned (.tuple #[.int .i64 (vicN s), .int .i64 (vicL s), .bool (anyP s)]) ∧ Below w.heap.size w w' := by
  have PR := Lib.hid (po_real hx)
  obtain ⟨B, ho, _⟩ := hx.ord
  have OI := Lib.hid ho.oinv
  have SV := Lib.hid (sl_victim ho)
  have HX := Lib.hid hx
  have HC := Lib.hid hc
  have EV := Lib.hid (show ((s.low ++ s.high).headD 0 : Nat) = vicP s from rfl)
  have EA := Lib.hid (show (!(s.low ++ s.high).isEmpty) = anyP s from rfl)
  obtain ⟨c0, c1, c2, c3, c4, c5, c6, f6⟩ := hx.cells
  clear hx hc ho c1 c2 c3 c4 c5 c6 f6
  go_enter Tryz.func93, Tryz.ntmps93
  go_wp2_with fail
  refine PR.out.mono ?_
  rintro e w' ⟨rfl, rfl⟩
  go_wp2_with fail
  refine SV.out.mono ?_
  rintro e w1 ⟨rfl, b1⟩
  rw [EV.out, EA.out]
  have B1 := Lib.hid b1
  clear b1
  cases ha : anyP s
  · have EL := Lib.hid (And.intro (show vicN s = 0 by unfold vicN; rw [ha]; rfl) (show vicL s = 0 by unfold vicL; rw [ha]; rfl))
    have HA := Lib.hid ha
    clear ha
    go_wp2
    go_ret3
    exact ⟨by rw [EL.out.1, EL.out.2, HA.out]; rfl, B1.out⟩
  · have EL := Lib.hid (And.intro (show vicN s = (vicP s : Int) by unfold vicN; rw [if_pos ha]) (show vicL s = s.lb (vicP s) by unfold vicL; rw [if_pos ha]))
    have hv := vic_lt OI.out ha
    have h1 := Two.keep (Two.own HX.out) (Keeps.of_below B1.out) (fun k h => Nat.not_le.2 h.2)
    obtain ⟨c0, c1, c2, c3, c4, c5, c6, f6⟩ := PoX.cells h1
    have l0 : w1.cell? ⟨p.lb, vicP s, none⟩ = some (.int .i64 (s.lb (vicP s))) := (PoX.lbs h1).cell hv
    have hn : (c.n : Int) ≤ 192 := by have := HC.out.n1; omega
    have HA := Lib.hid ha
    clear ha h1 c0 c2 c3 c4 c5 c6 f6
    generalize vicP s = k at *
    have hv0 : (k : Int) < c.n := by omega
    go_wp2_with fail
    go_quiet (fail)
    go_wp2
    go_ret3
    exact ⟨by rw [EL.out.1, EL.out.2, HA.out]; rfl, below_drewN B1.out _⟩

end
end Go.Proofs.YtbgknopjgohocaaGreat
