/- What a tier would keep that keeps all; and by how much it is better. -/
import Derived.Test.YtbgknopjgohocaaGreatKf
import Derived.Test.YtbgknopjgohocaaGreatZE
namespace Go.Proofs.YtbgknopjgohocaaGreat
open Go.RowKit Fl
open Scan hiding isN
set_option linter.unusedVariables false
set_option maxRecDepth 100000
set_option maxHeartbeats 2000000

def inR (nb : Nat) (x : Int) : Bool := decide (0 ≤ x ∧ x < nb)
/-- How often a block was read. -/
def occ (nb : Nat) (z : Nat → Int) (y : Int) : Nat → Nat
  | 0 => 0
  | k + 1 => occ nb z y k + (if inR nb (z k) = true ∧ z k = y then 1 else 0)
theorem occ_le (nb : Nat) (z : Nat → Int) (y : Int) : ∀ k, occ nb z y k ≤ k
  | 0 => Nat.le_refl _
  | k + 1 => by
    have := occ_le nb z y k
    simp only [occ]
    split <;> omega
/-- How many blocks were read again. -/
def agR (nb : Nat) (z : Nat → Int) : Nat → Nat
  | 0 => 0
  | k + 1 => agR nb z k + (if inR nb (z k) = true ∧ 0 < occ nb z (z k) k then 1 else 0)
theorem agR_le (nb : Nat) (z : Nat → Int) : ∀ k, agR nb z k ≤ k
  | 0 => Nat.le_refl _
  | k + 1 => by
    have := agR_le nb z k
    simp only [agR]
    split <;> omega
/-- What the map holds. -/
def seenM (nb : Nat) (z : Nat → Int) (k : Nat) (y : Int) : Option Value := if occ nb z y k = 0 then none else some (.int .i64 (occ nb z y k : Int))
theorem seenM_out {nb : Nat} {z : Nat → Int} {k : Nat} (h : inR nb (z k) = false) : seenM nb z (k + 1) = seenM nb z k := by
  funext y
  have : occ nb z y (k + 1) = occ nb z y k := by simp [occ, h]
  unfold seenM
  rw [this]
theorem seenM_in {nb : Nat} {z : Nat → Int} {k : Nat} (h : inR nb (z k) = true) : seenM nb z (k + 1) = fun y => if y = z k then some (.int .i64 ((occ nb z (z k) k : Int) + 1)) else seenM nb z k y := by
  funext y
  by_cases e : y = z k
  · subst e
    rw [if_pos rfl]
    have : occ nb z (z k) (k + 1) = occ nb z (z k) k + 1 := by simp [occ, h]
    unfold seenM
    rw [this, if_neg (by omega)]
    simp
  · rw [if_neg e]
    have : occ nb z y (k + 1) = occ nb z y k := by simp [occ, Ne.symm e]
    unfold seenM
    rw [this]
theorem seenM_get (nb : Nat) (z : Nat → Int) (k : Nat) (y : Int) : (seenM nb z k y).getD (.int .i64 0) = .int .i64 (occ nb z y k : Int) := by
  unfold seenM
  split
  · rename_i h
    rw [h]; rfl
  · rfl
theorem clamp_in (nb : Nat) (hb : 1 ≤ nb) (x : Int) : (clampI x 0 ((nb : Int) - 1) != x) = !inR nb x := by
  unfold clampI inR
  by_cases h1 : x < 0
  · rw [if_pos h1]
    have : (0 != x) = true := bne_iff_ne.2 (by omega)
    rw [this, decide_eq_false (by omega)]; rfl
  · rw [if_neg h1]
    by_cases h2 : (nb : Int) - 1 < x
    · rw [if_pos h2, decide_eq_false (by omega)]
      exact bne_iff_ne.2 (by omega)
    · rw [if_neg h2, decide_eq_true (by omega)]
      simp
theorem zeroIK (w : World) : (zeroValue 3).run Tryz.prog w = .ok (.int .i64 0) w := by kernel_rfl

theorem ad_keeps (c : CF) (nb : Nat) (hnb : c.blocks = (nb : Int)) (hb1 : 1 ≤ nb) (hb2 : nb ≤ 512) (a : Option Addr) (n cp : Nat) (z : Nat → Int) (w : World) (hr : RdZ2 w a n z) (hn : n ≤ 1000) (hc : n ≤ cp) (hm9 : cp ≤ 9223372036854775807) :
    Calls Tryz.prog 41 #[.agg c.cs, .slice a n cp] w fun e w' => ∃ f, e = .returned (.float .f64 f) ∧ (f < 18446744073709551616 ∧ cn f = opC .quo (cn (floatOfInt .f64 (agR nb z n : Int))) (cn (floatOfInt .f64 (cntR nb z n : Int)))) ∧ Below w.heap.size w w' := by
  have RA := Lib.hid (fun W => rate_any (agR nb z n : Int) (cntR nb z n : Int) W)
  have CL := Lib.hid (fun x W => clamp_any x 0 ((nb : Int) - 1) W)
  have CI := Lib.hid (clamp_in nb hb1)
  obtain ⟨k0, k1, k2, k3, k4, k5, k6, k7, k8, k9⟩ := c
  have hnb : k0 = (nb : Int) := hnb
  subst hnb
  have h1 : (1 : Int) ≤ (nb : Int) := by omega
  have h2 : (nb : Int) ≤ 512 := by omega
  have q1 : IntKind.i64.wrap ((nb : Int) - 1) = (nb : Int) - 1 := IntWalk.i64_in _ (by omega)
  have n1 : (n : Int) ≤ 1000 := by omega
  have hmm := @run_makeMap Tryz.prog
  change Calls Tryz.prog 41 #[.agg #[.int .i64 (nb : Int), .int .i64 k1, .int .i64 k2, .int .i64 k3, .int .i64 k4, .int .u64 k5, .float .f64 k6, .float .f64 k7, .float .f64 k8, .int .i64 k9], .slice a n cp] w _
  obtain ⟨w1, hw1⟩ : ∃ w1, w.alloc (.cells #[.int .i64 (nb : Int), .int .i64 k1, .int .i64 k2, .int .i64 k3, .int .i64 k4, .int .u64 k5, .float .f64 k6, .float .f64 k7, .float .f64 k8, .int .i64 k9] 28) = w1 := ⟨_, rfl⟩
  have s1 : w1.heap.size = w.heap.size + 1 := by rw [← hw1]; simp
  have B1 := Lib.hid (show Below w.heap.size w w1 by rw [← hw1]; exact (Below.refl _ w).alloc (Nat.le_refl _) _)
  have x0 : w1.cell? ⟨w.heap.size, 0, none⟩ = some (.int .i64 (nb : Int)) := by rw [← hw1]; exact blk_cell' (heap_at w (.cells #[.int .i64 (nb : Int), .int .i64 k1, .int .i64 k2, .int .i64 k3, .int .i64 k4, .int .u64 k5, .float .f64 k6, .float .f64 k7, .float .f64 k8, .int .i64 k9] 28) _ rfl) 0
  obtain ⟨w2, hw2⟩ : ∃ w2, w1.alloc (.map #[] 0) = w2 := ⟨_, rfl⟩
  have MV := Lib.hid (show MapV Tryz.prog 3 .i64 (plainElem Tryz.prog 3) w2 w1.heap.size 0 (seenM nb z 0) by rw [← hw2]; exact MapV.made _ _ _ _ w1)
  have B2 := Lib.hid (show Below w1.heap.size w1 w2 by rw [← hw2]; exact (Below.refl _ w1).alloc (Nat.le_refl _) _)
  have X0 := Lib.hid (fun W (k : Keeps (fun j => j = w1.heap.size) w2 W) => k.cell ((B2.out.cell (World.block_lt_of_cell? _ _ x0)).trans x0) (by show ¬ w.heap.size = w1.heap.size; omega))
  have RR := Lib.hid (fun W (k : Keeps (fun j => j = w1.heap.size) w2 W) => (hr.below ((((Keeps.of_below (B1.out.trans (B2.out.mono B1.out.size))).trans k (fun j (hj : j = w1.heap.size) => .inl (by omega))).below (Nat.le_refl _)) : Below w.heap.size w W)))
  have BB := Lib.hid (fun W (k : Keeps (fun j => j = w1.heap.size) w2 W) => ((((Keeps.of_below (B1.out.trans (B2.out.mono B1.out.size))).trans k (fun j (hj : j = w1.heap.size) => .inl (by omega))).below (Nat.le_refl _)) : Below w.heap.size w W))
  have HN := Lib.hid hn
  clear hr hn hc hm9 x0 s1
  go_enter Tryz.func41, Tryz.ntmps41
  go_wp2
  clear hw1 hw2
  go_loopw [6, 7, 9, 13] (fun t g _ i wr => ∃ k L : Nat, k ≤ n ∧ L ≤ k ∧ i = .int .i64 (k : Int) ∧ t = .int .i64 (cntR nb z k : Int) ∧ g = .int .i64 (agR nb z k : Int) ∧ MapV Tryz.prog 3 .i64 (plainElem Tryz.prog 3) wr w1.heap.size L (seenM nb z k) ∧ Keeps (fun j => j = w1.heap.size) w2 wr) (fun _ _ _ i _ => n - (intOf i).toNat)
  case atStart => exact ⟨0, 0, Nat.zero_le _, Nat.le_refl _, rfl, rfl, rfl, MV.out, Keeps.refl _ _⟩
  case round =>
    obtain ⟨k, L, hk, hL, rfl, rfl, rfl, hM, hK⟩ := hrel
    by_cases hc : k < n
    · obtain ⟨gA, oA, hAA, _, hcell⟩ := RR.out _ hK (by omega)
      subst hAA
      obtain ⟨cv, vb⟩ := hcell k hc
      have x0 := X0.out _ hK
      have hx : (k : Int) < (n : Int) := by omega
      have hx1 : (k : Int) + 1 ≤ 1000 := by omega
      have c1 : cntR nb z k ≤ k := cntR_le nb z k
      have c2 : agR nb z k ≤ k := agR_le nb z k
      have c3 := occ_le nb z (z k) k
      have wf : (Lit.int .i64 (z k)).wf = true := WalkArith.wf_i64 vb
      have LK := hM.look Tryz.underlying3 Tryz.underlying96 (plain_told Tryz.underlying3) (zeroIK wr) (plainElem_int Tryz.underlying3 (by decide)) (z k) wf
      rw [seenM_get] at LK
      obtain ⟨w5, ST, M5, T5⟩ := hM.store Tryz.underlying3 Tryz.underlying96 (by have := HN.out; unfold maxLen; omega) (z k) wf (v := .int .i64 ((occ nb z (z k) k : Int) + 1)) (plainElem_int Tryz.underlying3 (WalkArith.wf_i64 ⟨by omega, by have := HN.out; omega⟩))
      have CS : cntR nb z (k + 1) = cntR nb z k + (if inR nb (z k) = true then 1 else 0) := by rw [cntR_succ]; unfold inR; simp
      have GS : agR nb z (k + 1) = agR nb z k + (if inR nb (z k) = true ∧ 0 < occ nb z (z k) k then 1 else 0) := rfl
      have SO := Lib.hid (fun h => seenM_out (nb := nb) (z := z) (k := k) h)
      have SI := Lib.hid (fun h => seenM_in (nb := nb) (z := z) (k := k) h)
      have K5 := Lib.hid (keeps_turned T5)
      have M5 := Lib.hid M5
      have HM := Lib.hid hM
      have HK := Lib.hid hK
      have HC := Lib.hid (And.intro hc (And.intro hL hk))
      have y1 : (cntR nb z k : Int) + 1 ≤ 2000 := by have := HN.out; omega
      have y2 : (agR nb z k : Int) + 1 ≤ 2000 := by have := HN.out; omega
      have y3 : (occ nb z (z k) k : Int) + 1 ≤ 2000 := by have := HN.out; omega
      have CS := Lib.hid CS
      have GS := Lib.hid GS
      have CIk := CI.out (z k)
      have CLk := Lib.hid (CL.out (z k))
      generalize hct : cntR nb z k = ct at *
      generalize hag : agR nb z k = ag at *
      generalize hoc : occ nb z (z k) k = oc at *
      generalize hzk : z k = v at *
      generalize clampI v 0 ((nb : Int) - 1) = cl at *
      have HE := Lib.hid (And.intro hct (And.intro hag (And.intro hoc hzk)))
      clear hcell vb c1 c2 c3 wf T5 hM hK hL hk hc hct hag hoc hzk
      cases hin : inR nb v
      · rw [hin] at CIk
        have SO := Lib.hid (SO.out hin)
        rw [hin] at CS GS
        have CIk : (cl != v) = true := by simpa using CIk
        have CIe : (cl == v) = false := by simpa using CIk
        have e1 := CS.out
        have e2 := GS.out
        simp at e1 e2
        have E := Lib.hid (And.intro e1 e2)
        clear e1 e2 LK ST
        go_wp2_with fail
        refine (CLk.out _).mono ?_
        rintro e _ ⟨rfl, rfl⟩
        go_wp2
        go_roundw
        case rel => exact ⟨k + 1, L, HC.out.1, by have := HC.out.2.1; omega, by simp, by rw [E.out.1], by rw [E.out.2], by rw [SO.out]; exact HM.out, HK.out⟩
        case measure => simp only [intOf]; have := HC.out.1; omega
      · rw [hin] at CIk
        have SI := Lib.hid (SI.out hin)
        rw [hin] at CS GS
        have CIk : (cl != v) = false := by simpa using CIk
        have CIe : (cl == v) = true := by simpa using CIk
        have e1 := CS.out
        have e2 := GS.out
        simp at e1 e2
        have E := Lib.hid (And.intro e1 e2)
        clear e1 e2
        by_cases ho : 0 < oc
        · have d1 : decide ((0 : Int) < (oc : Int)) = true := decide_eq_true (by omega)
          have d1' : decide (0 < oc) = true := decide_eq_true ho
          have E2 := Lib.hid (show agR nb z (k + 1) = ag + 1 by rw [E.out.2, if_pos ho])
          clear ho
          go_wp2_with fail
          refine (CLk.out _).mono ?_
          rintro e _ ⟨rfl, rfl⟩
          go_wp2
          go_roundw
          case rel => exact ⟨k + 1, (if (seenM nb z k v).isSome then L else L + 1), HC.out.1, by split <;> (have := HC.out.2.1; omega), by simp, by rw [E.out.1]; simp, by rw [E2.out]; simp, by rw [SI.out]; exact M5.out, HK.out.trans K5.out (fun j hj => .inl hj)⟩
          case measure => simp only [intOf]; have := HC.out.1; omega
        · have d1 : decide ((0 : Int) < (oc : Int)) = false := decide_eq_false (by omega)
          have d1' : decide (0 < oc) = false := decide_eq_false ho
          have E2 := Lib.hid (show agR nb z (k + 1) = ag by rw [E.out.2, if_neg ho, Nat.add_zero])
          clear ho
          go_wp2_with fail
          refine (CLk.out _).mono ?_
          rintro e _ ⟨rfl, rfl⟩
          go_wp2
          go_roundw
          case rel => exact ⟨k + 1, (if (seenM nb z k v).isSome then L else L + 1), HC.out.1, by split <;> (have := HC.out.2.1; omega), by simp, by rw [E.out.1]; simp, by rw [E2.out], by rw [SI.out]; exact M5.out, HK.out.trans K5.out (fun j hj => .inl hj)⟩
          case measure => simp only [intOf]; have := HC.out.1; omega
    · have hx : ¬ (k : Int) < (n : Int) := by omega
      have hkn : k = n := by omega
      subst hkn
      have HK := Lib.hid (BB.out _ hK)
      clear hM hK hk hL hc
      go_wp2_with fail
      refine (RA.out _).mono ?_
      rintro e w6 ⟨f, rfl, hf, hcf, m, rfl⟩
      have FF := Lib.hid (And.intro hf hcf)
      clear hf hcf
      go_wp2
      go_ret
      exact ⟨_, rfl, FF.out, ((Keeps.of_below HK.out).drewN m).below (Nat.le_refl _)⟩
end Go.Proofs.YtbgknopjgohocaaGreat
