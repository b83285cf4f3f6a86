/- Who is protected, and who goes first: the statement's walk. -/
import Derived.Test.YtbhcpedokgdipaaSe
namespace Go.Proofs.Ytbhcpedokgdipaa
open Go.RowKit Fl
set_option linter.unusedVariables false

set_option maxRecDepth 100000 in
set_option maxHeartbeats 8000000 in
theorem slKeeps_at (sl keep : Int) (a : Option Addr) (n cp : Nat) (K Y : Nat → Int) (w : World) (N most : Nat) (s0 : 0 ≤ sl) (s1 : sl ≤ 255) (hN : sl % 20 = (N : Int)) (hN20 : N < 20) (k0 : 0 ≤ keep) (k1 : keep ≤ 18446744073709551615)
    (hmo : (most : Int) = shareI N keep.toNat) (hmn : most ≤ N) (h : Act2 w a n K Y) (hc : n ≤ cp) (hm : cp ≤ 9223372036854775807) :
    Calls Try.prog 9 #[.int .u8 sl, .int .u64 keep, .slice a n cp] w fun e w' => e = .returned (.bool true) ∧ Below w.heap.size w w' := by
  have NW := Lib.hid (sl_new w N keep.toNat (by omega) (by omega) most hmo)
  clear hmo
  have CP := Lib.hid (fun b l h W (x : Run1 (SlO b N most l h) w W) => sl_cap x.1)
  have PR := Lib.hid (fun b l h W (x : Run1 (SlO b N most l h) w W) m => sl_protected x.1 m)
  have LN := Lib.hid (fun b l h W (x : Run1 (SlO b N most l h) w W) => (sl_len x.1).mono fun e w' (hh : e = .returned (.int .i64 ((l.length + h.length : Nat) : Int)) ∧ ∃ k, w' = W.drewN k) => (show e = .returned (.int .i64 ((l.length + h.length : Nat) : Int)) ∧ Run1 (SlO b N most l h) w w' from ⟨hh.1, by obtain ⟨k, rfl⟩ := hh.2; exact x.keep (below_drewN (Below.refl _ _) k)⟩))
  have VC := Lib.hid (fun b l h W (x : Run1 (SlO b N most l h) w W) => (sl_victim x.1).mono fun e w' (hh : e = .returned (.tuple #[.int .i64 (((l ++ h).headD 0 : Nat) : Int), .bool (!(l ++ h).isEmpty)]) ∧ Below W.heap.size W w') => (show e = .returned (.tuple #[.int .i64 (((l ++ h).headD 0 : Nat) : Int), .bool (!(l ++ h).isEmpty)]) ∧ Run1 (SlO b N most l h) w w' from ⟨hh.1, x.keep hh.2⟩))
  have EN := Lib.hid (fun b l h W (x : Run1 (SlO b N most l h) w W) m => Run1.step x (fun A g o => sl_enter_any g m))
  have LV := Lib.hid (fun b l h W (x : Run1 (SlO b N most l h) w W) m => Run1.step x (fun A g o => sl_leave_any g m))
  have TO := Lib.hid (fun b l h W (x : Run1 (SlO b N most l h) w W) m => Run1.step x (fun A g o => sl_touch_any g m))
  have HA := Lib.hid h
  have hmn' : ¬ (N : Int) < (most : Int) := by omega
  have hdni : decide ((N : Int) < (most : Int)) = false := decide_eq_false hmn'
  have hdnn : decide (N < most) = false := decide_eq_false (by omega)
  clear h
  go_enter Try.func9, Try.ntmps9
  go_wp2_with fail
  refine NW.out.mono ?_
  rintro e w1 ⟨b, rfl, g1, b1⟩
  have G1 := Lib.hid (show Run1 (SlO b N most [] []) w w1 from ⟨g1, b1⟩)
  clear g1 b1
  go_wp2
  go_loopw [10] (fun i wr => ∃ (k : Nat) (l h : List Nat), k ≤ n ∧ k ≤ 60 ∧ i = .int .i64 (k : Int) ∧ h.length ≤ most ∧ Run1 (SlO b N most l h) w wr) (fun i _ => 60 - (intOf i).toNat)
  case atStart => exact ⟨0, [], [], Nat.zero_le _, by omega, rfl, Nat.zero_le _, G1.out⟩
  case round =>
    obtain ⟨k, l, h, hkn, hk60, rfl, hcap, hR⟩ := hrel
    have HR := Lib.hid hR
    have HC := Lib.hid hcap
    clear hR hcap
    by_cases h1 : k < n
    · by_cases h2 : k < 60
      · obtain ⟨ab, off, rfl, hcc⟩ := HA.out (by omega)
        obtain ⟨q0, q1⟩ := hcc k h1
        have HK := Lib.hid (HR.out.2)
        have r0 := (HK.out.cell (World.block_lt_of_cell? w _ q0)).trans q0
        have r1 := (HK.out.cell (World.block_lt_of_cell? w _ q1)).trans q1
        clear q0 q1 hcc
        have hkm : (k : Int) < (n : Int) := by omega
        have hk4 : (k : Int) < 60 := by omega
        have hnn : (k : Int) + 1 ≤ 9223372036854775807 := by omega
        by_cases K0 : K k = 0
        · rw [K0] at r0
          have D := EN.out _ _ _ _ HR.out (Y k)
          have CC := Lib.hid (enS_cap (n := N) (m := Y k) (low := l) HC.out)
          generalize (enS N (Y k) l h).1 = ans at *
          generalize (enS N (Y k) l h).2.1 = l2 at *
          generalize (enS N (Y k) l h).2.2 = h2 at *
          have D := Lib.hid D
          go_wp2_with fail
          refine D.out.mono ?_
          rintro e w3 ⟨rfl, g3⟩
          have G3 := Lib.hid g3
          clear g3
          have hc3 := CC.out
          go_wp2
          obtain ⟨T, hT⟩ : ∃ T : Nat, l2.length + h2.length = T := ⟨_, rfl⟩
          obtain ⟨q, hq⟩ : ∃ q : Nat, h2.length = q := ⟨_, rfl⟩
          have LN2 := LN.out b l2 h2
          rw [hT] at LN2
          have LN2 := Lib.hid LN2
          have OI := Lib.hid (SlO.oinv G3.out.1)
          have CF := Lib.hid ((cntH_full OI.out.h1 OI.out.hl).trans hq)
          have HC3 := Lib.hid hc3
          have hd1 : ¬ (most : Int) < (q : Int) := by omega
          have hd2 : decide ((most : Int) < (q : Int)) = false := decide_eq_false hd1
          have hd3 : decide (most < q) = false := decide_eq_false (by omega)
          have VCS := Lib.hid (vic_cases OI.out)
          have VV := Lib.hid (VC.out b l2 h2)
          have HT := Lib.hid hT
          have HQ := Lib.hid hq
          clear hT hq hc3
          go_loopw [13, 14] (fun c s wq => ∃ j : Nat, j ≤ N ∧ s = .int .i64 (j : Int) ∧ c = .int .i64 (cntH h2 j : Int) ∧ wq = w3) (fun _ s _ => N - (intOf s).toNat)
          case atStart => exact ⟨0, Nat.zero_le _, rfl, rfl, rfl⟩
          case round =>
            obtain ⟨j, hj, rfl, rfl, rfl⟩ := hrel
            have HC2 := Lib.hid (cntH_le h2 j)
            by_cases hjn : j < N
            · have hjn' : (j : Int) < (N : Int) := by omega
              have hb1 : (j : Int) + 1 ≤ 9223372036854775807 := by omega
              have hb2 : (cntH h2 j : Int) + 1 ≤ 9223372036854775807 := by have := HC2.out; omega
              have PJ := PR.out _ _ _ _ G3.out (j : Int)
              rw [inI_nat] at PJ
              have CS := Lib.hid (cntH_succ h2 j)
              by_cases hin : j ∈ h2
              · rw [decide_eq_true hin] at PJ
                have PJ := Lib.hid PJ
                have CS := Lib.hid (CS.out.trans (by rw [if_pos hin]))
                generalize cntH h2 j = c0 at *
                go_wp2_with fail
                refine PJ.out.mono ?_
                rintro e w4 ⟨rfl, rfl⟩
                go_wp2
                go_roundw
                case rel => exact ⟨j + 1, by omega, by simp, by rw [CS.out]; simp, (by first | rfl | trivial)⟩
                case measure => simp only [intOf]; omega
              · rw [decide_eq_false hin] at PJ
                have PJ := Lib.hid PJ
                have CS := Lib.hid (CS.out.trans (by rw [if_neg hin]))
                generalize cntH h2 j = c0 at *
                go_wp2_with fail
                refine PJ.out.mono ?_
                rintro e w4 ⟨rfl, rfl⟩
                go_wp2
                go_roundw
                case rel => exact ⟨j + 1, by omega, by simp, by rw [CS.out]; simp, (by first | rfl | trivial)⟩
                case measure => simp only [intOf]; omega
            · have hjn' : ¬ (j : Int) < (N : Int) := by omega
              obtain rfl : j = N := by omega
              rw [CF.out]
              rcases VCS.out with ⟨e1, e2⟩ | ⟨e1, e2⟩ | ⟨e1, e2, e3⟩
              · have VV := VV.out
                rw [e1] at VV
                have ht1 : ¬ (1 : Int) < (T : Int) := by have := HT.out; omega
                have ht1i : decide ((1 : Int) < (T : Int)) = false := decide_eq_false (by omega)
                have ht1n : decide (1 < T) = false := decide_eq_false (by omega)
                clear e1 e2
                generalize (l2 ++ h2).headD 0 = hd at *
                have VV := Lib.hid VV
                go_wp2_with fail
                refine (VV.out _ G3.out).mono ?_
                rintro e w5 ⟨rfl, g5⟩
                have X5 := Lib.hid g5
                clear g5
                go_wp2_with fail
                refine (CP.out _ _ _ _ X5.out).mono ?_
                rintro e w6 ⟨rfl, rfl⟩
                go_wp2_with fail
                refine (CP.out _ _ _ _ X5.out).mono ?_
                rintro e w6 ⟨rfl, rfl⟩
                go_wp2
                go_roundw
                case rel => exact ⟨k + 1, _, _, by omega, by omega, by simp, HC3.out, X5.out⟩
                case measure => simp only [intOf]; omega
              · have VV := VV.out
                rw [e1] at VV
                have PV := fun W (x : Run1 (SlO b j most l2 h2) w W) => PR.out _ _ _ _ x (((l2 ++ h2).headD 0 : Nat) : Int)
                rw [e2] at PV
                have PV := Lib.hid PV
                clear e1 e2
                generalize (l2 ++ h2).headD 0 = hd at *
                have VV := Lib.hid VV
                go_wp2_with fail
                refine (VV.out _ G3.out).mono ?_
                rintro e w5 ⟨rfl, g5⟩
                have X5 := Lib.hid g5
                clear g5
                go_wp2_with fail
                refine (CP.out _ _ _ _ X5.out).mono ?_
                rintro e w6 ⟨rfl, rfl⟩
                go_wp2_with fail
                refine (CP.out _ _ _ _ X5.out).mono ?_
                rintro e w6 ⟨rfl, rfl⟩
                go_wp2_with fail
                refine (PV.out _ X5.out).mono ?_
                rintro e w6 ⟨rfl, rfl⟩
                go_wp2
                go_roundw
                case rel => exact ⟨k + 1, _, _, by omega, by omega, by simp, HC3.out, X5.out⟩
                case measure => simp only [intOf]; omega
              · have VV := VV.out
                rw [e1] at VV
                have PV := fun W (x : Run1 (SlO b j most l2 h2) w W) => PR.out _ _ _ _ x (((l2 ++ h2).headD 0 : Nat) : Int)
                rw [e2] at PV
                have PV := Lib.hid PV
                have hqt : ¬ (q : Int) < (T : Int) := by have := HT.out; have := HQ.out; omega
                have hqti : decide ((q : Int) < (T : Int)) = false := decide_eq_false (by omega)
                have hqtn : decide (q < T) = false := decide_eq_false (by omega)
                clear e1 e2 e3
                generalize (l2 ++ h2).headD 0 = hd at *
                have VV := Lib.hid VV
                go_wp2_with fail
                refine (VV.out _ G3.out).mono ?_
                rintro e w5 ⟨rfl, g5⟩
                have X5 := Lib.hid g5
                clear g5
                go_wp2_with fail
                refine (CP.out _ _ _ _ X5.out).mono ?_
                rintro e w6 ⟨rfl, rfl⟩
                go_wp2_with fail
                refine (CP.out _ _ _ _ X5.out).mono ?_
                rintro e w6 ⟨rfl, rfl⟩
                go_wp2_with fail
                refine (PV.out _ X5.out).mono ?_
                rintro e w6 ⟨rfl, rfl⟩
                go_wp2_with fail
                refine (LN2.out _ X5.out).mono ?_
                rintro e w6 ⟨rfl, g6⟩
                have X5 := Lib.hid g6
                clear g6
                go_wp2
                go_roundw
                case rel => exact ⟨k + 1, _, _, by omega, by omega, by simp, HC3.out, X5.out⟩
                case measure => simp only [intOf]; omega
        · by_cases K1 : K k = 1
          · rw [K1] at r0
            have D := TO.out _ _ _ _ HR.out (Y k)
            by_cases ht : (toS most (Y k) l h).1 = true
            · have CC := Lib.hid (toS_cap (m := Y k) (low := l) HC.out)
              have NE0 := Lib.hid (fun (W : World) (x : Run1 (SlO b N most (toS most (Y k) l h).2.1 (toS most (Y k) l h).2.2) w W) hm0 hl => toS_last HC.out hm0 ht (SlO.oinv x.1) hl)
              rw [ht] at D
              have D := Lib.hid D
              clear ht
              generalize (toS most (Y k) l h).2.1 = l2 at *
              generalize (toS most (Y k) l h).2.2 = h2 at *
              go_wp2_with fail
              refine D.out.mono ?_
              rintro e w3 ⟨rfl, g3⟩
              have G3 := Lib.hid g3
              clear g3
              have hc3 := CC.out
              have NE := Lib.hid (NE0.out _ G3.out)
              go_wp2
              obtain ⟨T, hT⟩ : ∃ T : Nat, l2.length + h2.length = T := ⟨_, rfl⟩
              obtain ⟨q, hq⟩ : ∃ q : Nat, h2.length = q := ⟨_, rfl⟩
              have LN2 := LN.out b l2 h2
              rw [hT] at LN2
              have LN2 := Lib.hid LN2
              have OI := Lib.hid (SlO.oinv G3.out.1)
              have CF := Lib.hid ((cntH_full OI.out.h1 OI.out.hl).trans hq)
              have HC3 := Lib.hid hc3
              have hd1 : ¬ (most : Int) < (q : Int) := by omega
              have hd2 : decide ((most : Int) < (q : Int)) = false := decide_eq_false hd1
              have hd3 : decide (most < q) = false := decide_eq_false (by omega)
              have VCS := Lib.hid (vic_cases OI.out)
              have VV := Lib.hid (VC.out b l2 h2)
              have HT := Lib.hid hT
              have HQ := Lib.hid hq
              clear hT hq hc3
              go_loopw [13, 14] (fun c s wq => ∃ j : Nat, j ≤ N ∧ s = .int .i64 (j : Int) ∧ c = .int .i64 (cntH h2 j : Int) ∧ wq = w3) (fun _ s _ => N - (intOf s).toNat)
              case atStart => exact ⟨0, Nat.zero_le _, rfl, rfl, rfl⟩
              case round =>
                obtain ⟨j, hj, rfl, rfl, rfl⟩ := hrel
                have HC2 := Lib.hid (cntH_le h2 j)
                by_cases hjn : j < N
                · have hjn' : (j : Int) < (N : Int) := by omega
                  have hb1 : (j : Int) + 1 ≤ 9223372036854775807 := by omega
                  have hb2 : (cntH h2 j : Int) + 1 ≤ 9223372036854775807 := by have := HC2.out; omega
                  have PJ := PR.out _ _ _ _ G3.out (j : Int)
                  rw [inI_nat] at PJ
                  have CS := Lib.hid (cntH_succ h2 j)
                  by_cases hin : j ∈ h2
                  · rw [decide_eq_true hin] at PJ
                    have PJ := Lib.hid PJ
                    have CS := Lib.hid (CS.out.trans (by rw [if_pos hin]))
                    generalize cntH h2 j = c0 at *
                    go_wp2_with fail
                    refine PJ.out.mono ?_
                    rintro e w4 ⟨rfl, rfl⟩
                    go_wp2
                    go_roundw
                    case rel => exact ⟨j + 1, by omega, by simp, by rw [CS.out]; simp, (by first | rfl | trivial)⟩
                    case measure => simp only [intOf]; omega
                  · rw [decide_eq_false hin] at PJ
                    have PJ := Lib.hid PJ
                    have CS := Lib.hid (CS.out.trans (by rw [if_neg hin]))
                    generalize cntH h2 j = c0 at *
                    go_wp2_with fail
                    refine PJ.out.mono ?_
                    rintro e w4 ⟨rfl, rfl⟩
                    go_wp2
                    go_roundw
                    case rel => exact ⟨j + 1, by omega, by simp, by rw [CS.out]; simp, (by first | rfl | trivial)⟩
                    case measure => simp only [intOf]; omega
                · have hjn' : ¬ (j : Int) < (N : Int) := by omega
                  obtain rfl : j = N := by omega
                  rw [CF.out]
                  rcases VCS.out with ⟨e1, e2⟩ | ⟨e1, e2⟩ | ⟨e1, e2, e3⟩
                  · have VV := VV.out
                    rw [e1] at VV
                    have ht1 : ¬ (1 : Int) < (T : Int) := by have := HT.out; omega
                    have ht1i : decide ((1 : Int) < (T : Int)) = false := decide_eq_false (by omega)
                    have ht1n : decide (1 < T) = false := decide_eq_false (by omega)
                    clear e1 e2
                    generalize (l2 ++ h2).headD 0 = hd at *
                    have VV := Lib.hid VV
                    go_wp2_with fail
                    refine (VV.out _ G3.out).mono ?_
                    rintro e w5 ⟨rfl, g5⟩
                    have X5 := Lib.hid g5
                    clear g5
                    go_wp2_with fail
                    refine (CP.out _ _ _ _ X5.out).mono ?_
                    rintro e w6 ⟨rfl, rfl⟩
                    go_wp2_with fail
                    refine (CP.out _ _ _ _ X5.out).mono ?_
                    rintro e w6 ⟨rfl, rfl⟩
                    by_cases hm0 : 0 < most
                    · have hm0' : (0 : Int) < (most : Int) := by omega
                      have hm0i : decide ((0 : Int) < (most : Int)) = true := decide_eq_true (by omega)
                      have hm0n : decide (0 < most) = true := decide_eq_true (by omega)
                      go_wp2_with fail
                      refine (CP.out _ _ _ _ X5.out).mono ?_
                      rintro e w6 ⟨rfl, rfl⟩
                      go_wp2_with fail
                      refine (LN2.out _ X5.out).mono ?_
                      rintro e w6 ⟨rfl, g6⟩
                      have X5 := Lib.hid g6
                      clear g6
                      go_wp2
                      go_roundw
                      case rel => exact ⟨k + 1, _, _, by omega, by omega, by simp, HC3.out, X5.out⟩
                      case measure => simp only [intOf]; omega
                    · have hm0' : ¬ (0 : Int) < (most : Int) := by omega
                      have hm0i : decide ((0 : Int) < (most : Int)) = false := decide_eq_false (by omega)
                      have hm0n : decide (0 < most) = false := decide_eq_false (by omega)
                      go_wp2_with fail
                      refine (CP.out _ _ _ _ X5.out).mono ?_
                      rintro e w6 ⟨rfl, rfl⟩
                      go_wp2
                      go_roundw
                      case rel => exact ⟨k + 1, _, _, by omega, by omega, by simp, HC3.out, X5.out⟩
                      case measure => simp only [intOf]; omega
                  · have VV := VV.out
                    rw [e1] at VV
                    have PV := fun W (x : Run1 (SlO b j most l2 h2) w W) => PR.out _ _ _ _ x (((l2 ++ h2).headD 0 : Nat) : Int)
                    rw [e2] at PV
                    have PV := Lib.hid PV
                    clear e1 e2
                    generalize (l2 ++ h2).headD 0 = hd at *
                    have VV := Lib.hid VV
                    go_wp2_with fail
                    refine (VV.out _ G3.out).mono ?_
                    rintro e w5 ⟨rfl, g5⟩
                    have X5 := Lib.hid g5
                    clear g5
                    go_wp2_with fail
                    refine (CP.out _ _ _ _ X5.out).mono ?_
                    rintro e w6 ⟨rfl, rfl⟩
                    go_wp2_with fail
                    refine (CP.out _ _ _ _ X5.out).mono ?_
                    rintro e w6 ⟨rfl, rfl⟩
                    go_wp2_with fail
                    refine (PV.out _ X5.out).mono ?_
                    rintro e w6 ⟨rfl, rfl⟩
                    by_cases hm0 : 0 < most
                    · have hm0' : (0 : Int) < (most : Int) := by omega
                      have hm0i : decide ((0 : Int) < (most : Int)) = true := decide_eq_true (by omega)
                      have hm0n : decide (0 < most) = true := decide_eq_true (by omega)
                      go_wp2_with fail
                      refine (CP.out _ _ _ _ X5.out).mono ?_
                      rintro e w6 ⟨rfl, rfl⟩
                      by_cases ht1 : (1 : Int) < (T : Int)
                      · have hne := NE.out hm0 (by have := HT.out; omega)
                        have hneb : (((hd : Nat) : Int) == Y k) = false := by simp [hne]
                        have hned : decide ((hd : Int) = Y k) = false := decide_eq_false hne
                        have ht1i : decide ((1 : Int) < (T : Int)) = true := decide_eq_true (by omega)
                        have ht1n : decide (1 < T) = true := decide_eq_true (by omega)
                        go_wp2_with fail
                        refine (LN2.out _ X5.out).mono ?_
                        rintro e w6 ⟨rfl, g6⟩
                        have X5 := Lib.hid g6
                        clear g6
                        go_wp2
                        go_roundw
                        case rel => exact ⟨k + 1, _, _, by omega, by omega, by simp, HC3.out, X5.out⟩
                        case measure => simp only [intOf]; omega
                      · have ht1i : decide ((1 : Int) < (T : Int)) = false := decide_eq_false (by omega)
                        have ht1n : decide (1 < T) = false := decide_eq_false (by omega)
                        go_wp2_with fail
                        refine (LN2.out _ X5.out).mono ?_
                        rintro e w6 ⟨rfl, g6⟩
                        have X5 := Lib.hid g6
                        clear g6
                        go_wp2
                        go_roundw
                        case rel => exact ⟨k + 1, _, _, by omega, by omega, by simp, HC3.out, X5.out⟩
                        case measure => simp only [intOf]; omega
                    · have hm0' : ¬ (0 : Int) < (most : Int) := by omega
                      have hm0i : decide ((0 : Int) < (most : Int)) = false := decide_eq_false (by omega)
                      have hm0n : decide (0 < most) = false := decide_eq_false (by omega)
                      go_wp2_with fail
                      refine (CP.out _ _ _ _ X5.out).mono ?_
                      rintro e w6 ⟨rfl, rfl⟩
                      go_wp2
                      go_roundw
                      case rel => exact ⟨k + 1, _, _, by omega, by omega, by simp, HC3.out, X5.out⟩
                      case measure => simp only [intOf]; omega
                  · have VV := VV.out
                    rw [e1] at VV
                    have PV := fun W (x : Run1 (SlO b j most l2 h2) w W) => PR.out _ _ _ _ x (((l2 ++ h2).headD 0 : Nat) : Int)
                    rw [e2] at PV
                    have PV := Lib.hid PV
                    have hqt : ¬ (q : Int) < (T : Int) := by have := HT.out; have := HQ.out; omega
                    have hqti : decide ((q : Int) < (T : Int)) = false := decide_eq_false (by omega)
                    have hqtn : decide (q < T) = false := decide_eq_false (by omega)
                    clear e1 e2 e3
                    generalize (l2 ++ h2).headD 0 = hd at *
                    have VV := Lib.hid VV
                    go_wp2_with fail
                    refine (VV.out _ G3.out).mono ?_
                    rintro e w5 ⟨rfl, g5⟩
                    have X5 := Lib.hid g5
                    clear g5
                    go_wp2_with fail
                    refine (CP.out _ _ _ _ X5.out).mono ?_
                    rintro e w6 ⟨rfl, rfl⟩
                    go_wp2_with fail
                    refine (CP.out _ _ _ _ X5.out).mono ?_
                    rintro e w6 ⟨rfl, rfl⟩
                    go_wp2_with fail
                    refine (PV.out _ X5.out).mono ?_
                    rintro e w6 ⟨rfl, rfl⟩
                    go_wp2_with fail
                    refine (LN2.out _ X5.out).mono ?_
                    rintro e w6 ⟨rfl, g6⟩
                    have X5 := Lib.hid g6
                    clear g6
                    by_cases hm0 : 0 < most
                    · have hm0' : (0 : Int) < (most : Int) := by omega
                      have hm0i : decide ((0 : Int) < (most : Int)) = true := decide_eq_true (by omega)
                      have hm0n : decide (0 < most) = true := decide_eq_true (by omega)
                      go_wp2_with fail
                      refine (CP.out _ _ _ _ X5.out).mono ?_
                      rintro e w6 ⟨rfl, rfl⟩
                      by_cases ht1 : (1 : Int) < (T : Int)
                      · have hne := NE.out hm0 (by have := HT.out; omega)
                        have hneb : (((hd : Nat) : Int) == Y k) = false := by simp [hne]
                        have hned : decide ((hd : Int) = Y k) = false := decide_eq_false hne
                        have ht1i : decide ((1 : Int) < (T : Int)) = true := decide_eq_true (by omega)
                        have ht1n : decide (1 < T) = true := decide_eq_true (by omega)
                        go_wp2_with fail
                        refine (LN2.out _ X5.out).mono ?_
                        rintro e w6 ⟨rfl, g6⟩
                        have X5 := Lib.hid g6
                        clear g6
                        go_wp2
                        go_roundw
                        case rel => exact ⟨k + 1, _, _, by omega, by omega, by simp, HC3.out, X5.out⟩
                        case measure => simp only [intOf]; omega
                      · have ht1i : decide ((1 : Int) < (T : Int)) = false := decide_eq_false (by omega)
                        have ht1n : decide (1 < T) = false := decide_eq_false (by omega)
                        go_wp2_with fail
                        refine (LN2.out _ X5.out).mono ?_
                        rintro e w6 ⟨rfl, g6⟩
                        have X5 := Lib.hid g6
                        clear g6
                        go_wp2
                        go_roundw
                        case rel => exact ⟨k + 1, _, _, by omega, by omega, by simp, HC3.out, X5.out⟩
                        case measure => simp only [intOf]; omega
                    · have hm0' : ¬ (0 : Int) < (most : Int) := by omega
                      have hm0i : decide ((0 : Int) < (most : Int)) = false := decide_eq_false (by omega)
                      have hm0n : decide (0 < most) = false := decide_eq_false (by omega)
                      go_wp2_with fail
                      refine (CP.out _ _ _ _ X5.out).mono ?_
                      rintro e w6 ⟨rfl, rfl⟩
                      go_wp2
                      go_roundw
                      case rel => exact ⟨k + 1, _, _, by omega, by omega, by simp, HC3.out, X5.out⟩
                      case measure => simp only [intOf]; omega
            · rw [Bool.not_eq_true] at ht
              have CC := Lib.hid (toS_cap (m := Y k) (low := l) HC.out)
              rw [ht] at D
              have D := Lib.hid D
              clear ht
              generalize (toS most (Y k) l h).2.1 = l2 at *
              generalize (toS most (Y k) l h).2.2 = h2 at *
              go_wp2_with fail
              refine D.out.mono ?_
              rintro e w3 ⟨rfl, g3⟩
              have G3 := Lib.hid g3
              clear g3
              have hc3 := CC.out
              go_wp2
              obtain ⟨T, hT⟩ : ∃ T : Nat, l2.length + h2.length = T := ⟨_, rfl⟩
              obtain ⟨q, hq⟩ : ∃ q : Nat, h2.length = q := ⟨_, rfl⟩
              have LN2 := LN.out b l2 h2
              rw [hT] at LN2
              have LN2 := Lib.hid LN2
              have OI := Lib.hid (SlO.oinv G3.out.1)
              have CF := Lib.hid ((cntH_full OI.out.h1 OI.out.hl).trans hq)
              have HC3 := Lib.hid hc3
              have hd1 : ¬ (most : Int) < (q : Int) := by omega
              have hd2 : decide ((most : Int) < (q : Int)) = false := decide_eq_false hd1
              have hd3 : decide (most < q) = false := decide_eq_false (by omega)
              have VCS := Lib.hid (vic_cases OI.out)
              have VV := Lib.hid (VC.out b l2 h2)
              have HT := Lib.hid hT
              have HQ := Lib.hid hq
              clear hT hq hc3
              go_loopw [13, 14] (fun c s wq => ∃ j : Nat, j ≤ N ∧ s = .int .i64 (j : Int) ∧ c = .int .i64 (cntH h2 j : Int) ∧ wq = w3) (fun _ s _ => N - (intOf s).toNat)
              case atStart => exact ⟨0, Nat.zero_le _, rfl, rfl, rfl⟩
              case round =>
                obtain ⟨j, hj, rfl, rfl, rfl⟩ := hrel
                have HC2 := Lib.hid (cntH_le h2 j)
                by_cases hjn : j < N
                · have hjn' : (j : Int) < (N : Int) := by omega
                  have hb1 : (j : Int) + 1 ≤ 9223372036854775807 := by omega
                  have hb2 : (cntH h2 j : Int) + 1 ≤ 9223372036854775807 := by have := HC2.out; omega
                  have PJ := PR.out _ _ _ _ G3.out (j : Int)
                  rw [inI_nat] at PJ
                  have CS := Lib.hid (cntH_succ h2 j)
                  by_cases hin : j ∈ h2
                  · rw [decide_eq_true hin] at PJ
                    have PJ := Lib.hid PJ
                    have CS := Lib.hid (CS.out.trans (by rw [if_pos hin]))
                    generalize cntH h2 j = c0 at *
                    go_wp2_with fail
                    refine PJ.out.mono ?_
                    rintro e w4 ⟨rfl, rfl⟩
                    go_wp2
                    go_roundw
                    case rel => exact ⟨j + 1, by omega, by simp, by rw [CS.out]; simp, (by first | rfl | trivial)⟩
                    case measure => simp only [intOf]; omega
                  · rw [decide_eq_false hin] at PJ
                    have PJ := Lib.hid PJ
                    have CS := Lib.hid (CS.out.trans (by rw [if_neg hin]))
                    generalize cntH h2 j = c0 at *
                    go_wp2_with fail
                    refine PJ.out.mono ?_
                    rintro e w4 ⟨rfl, rfl⟩
                    go_wp2
                    go_roundw
                    case rel => exact ⟨j + 1, by omega, by simp, by rw [CS.out]; simp, (by first | rfl | trivial)⟩
                    case measure => simp only [intOf]; omega
                · have hjn' : ¬ (j : Int) < (N : Int) := by omega
                  obtain rfl : j = N := by omega
                  rw [CF.out]
                  rcases VCS.out with ⟨e1, e2⟩ | ⟨e1, e2⟩ | ⟨e1, e2, e3⟩
                  · have VV := VV.out
                    rw [e1] at VV
                    have ht1 : ¬ (1 : Int) < (T : Int) := by have := HT.out; omega
                    have ht1i : decide ((1 : Int) < (T : Int)) = false := decide_eq_false (by omega)
                    have ht1n : decide (1 < T) = false := decide_eq_false (by omega)
                    clear e1 e2
                    generalize (l2 ++ h2).headD 0 = hd at *
                    have VV := Lib.hid VV
                    go_wp2_with fail
                    refine (VV.out _ G3.out).mono ?_
                    rintro e w5 ⟨rfl, g5⟩
                    have X5 := Lib.hid g5
                    clear g5
                    go_wp2_with fail
                    refine (CP.out _ _ _ _ X5.out).mono ?_
                    rintro e w6 ⟨rfl, rfl⟩
                    go_wp2_with fail
                    refine (CP.out _ _ _ _ X5.out).mono ?_
                    rintro e w6 ⟨rfl, rfl⟩
                    go_wp2
                    go_roundw
                    case rel => exact ⟨k + 1, _, _, by omega, by omega, by simp, HC3.out, X5.out⟩
                    case measure => simp only [intOf]; omega
                  · have VV := VV.out
                    rw [e1] at VV
                    have PV := fun W (x : Run1 (SlO b j most l2 h2) w W) => PR.out _ _ _ _ x (((l2 ++ h2).headD 0 : Nat) : Int)
                    rw [e2] at PV
                    have PV := Lib.hid PV
                    clear e1 e2
                    generalize (l2 ++ h2).headD 0 = hd at *
                    have VV := Lib.hid VV
                    go_wp2_with fail
                    refine (VV.out _ G3.out).mono ?_
                    rintro e w5 ⟨rfl, g5⟩
                    have X5 := Lib.hid g5
                    clear g5
                    go_wp2_with fail
                    refine (CP.out _ _ _ _ X5.out).mono ?_
                    rintro e w6 ⟨rfl, rfl⟩
                    go_wp2_with fail
                    refine (CP.out _ _ _ _ X5.out).mono ?_
                    rintro e w6 ⟨rfl, rfl⟩
                    go_wp2_with fail
                    refine (PV.out _ X5.out).mono ?_
                    rintro e w6 ⟨rfl, rfl⟩
                    go_wp2
                    go_roundw
                    case rel => exact ⟨k + 1, _, _, by omega, by omega, by simp, HC3.out, X5.out⟩
                    case measure => simp only [intOf]; omega
                  · have VV := VV.out
                    rw [e1] at VV
                    have PV := fun W (x : Run1 (SlO b j most l2 h2) w W) => PR.out _ _ _ _ x (((l2 ++ h2).headD 0 : Nat) : Int)
                    rw [e2] at PV
                    have PV := Lib.hid PV
                    have hqt : ¬ (q : Int) < (T : Int) := by have := HT.out; have := HQ.out; omega
                    have hqti : decide ((q : Int) < (T : Int)) = false := decide_eq_false (by omega)
                    have hqtn : decide (q < T) = false := decide_eq_false (by omega)
                    clear e1 e2 e3
                    generalize (l2 ++ h2).headD 0 = hd at *
                    have VV := Lib.hid VV
                    go_wp2_with fail
                    refine (VV.out _ G3.out).mono ?_
                    rintro e w5 ⟨rfl, g5⟩
                    have X5 := Lib.hid g5
                    clear g5
                    go_wp2_with fail
                    refine (CP.out _ _ _ _ X5.out).mono ?_
                    rintro e w6 ⟨rfl, rfl⟩
                    go_wp2_with fail
                    refine (CP.out _ _ _ _ X5.out).mono ?_
                    rintro e w6 ⟨rfl, rfl⟩
                    go_wp2_with fail
                    refine (PV.out _ X5.out).mono ?_
                    rintro e w6 ⟨rfl, rfl⟩
                    go_wp2_with fail
                    refine (LN2.out _ X5.out).mono ?_
                    rintro e w6 ⟨rfl, g6⟩
                    have X5 := Lib.hid g6
                    clear g6
                    go_wp2
                    go_roundw
                    case rel => exact ⟨k + 1, _, _, by omega, by omega, by simp, HC3.out, X5.out⟩
                    case measure => simp only [intOf]; omega
          · have hz0 : (K k == 0) = false := by simp [K0]
            have hz1 : (K k == 1) = false := by simp [K1]
            have D := LV.out _ _ _ _ HR.out (Y k)
            have CC := Lib.hid (lvS_cap (m := Y k) (low := l) HC.out)
            generalize (lvS (Y k) l h).1 = ans at *
            generalize (lvS (Y k) l h).2.1 = l2 at *
            generalize (lvS (Y k) l h).2.2 = h2 at *
            have D := Lib.hid D
            go_wp2_with fail
            refine D.out.mono ?_
            rintro e w3 ⟨rfl, g3⟩
            have G3 := Lib.hid g3
            clear g3
            have hc3 := CC.out
            go_wp2
            obtain ⟨T, hT⟩ : ∃ T : Nat, l2.length + h2.length = T := ⟨_, rfl⟩
            obtain ⟨q, hq⟩ : ∃ q : Nat, h2.length = q := ⟨_, rfl⟩
            have LN2 := LN.out b l2 h2
            rw [hT] at LN2
            have LN2 := Lib.hid LN2
            have OI := Lib.hid (SlO.oinv G3.out.1)
            have CF := Lib.hid ((cntH_full OI.out.h1 OI.out.hl).trans hq)
            have HC3 := Lib.hid hc3
            have hd1 : ¬ (most : Int) < (q : Int) := by omega
            have hd2 : decide ((most : Int) < (q : Int)) = false := decide_eq_false hd1
            have hd3 : decide (most < q) = false := decide_eq_false (by omega)
            have VCS := Lib.hid (vic_cases OI.out)
            have VV := Lib.hid (VC.out b l2 h2)
            have HT := Lib.hid hT
            have HQ := Lib.hid hq
            clear hT hq hc3
            go_loopw [13, 14] (fun c s wq => ∃ j : Nat, j ≤ N ∧ s = .int .i64 (j : Int) ∧ c = .int .i64 (cntH h2 j : Int) ∧ wq = w3) (fun _ s _ => N - (intOf s).toNat)
            case atStart => exact ⟨0, Nat.zero_le _, rfl, rfl, rfl⟩
            case round =>
              obtain ⟨j, hj, rfl, rfl, rfl⟩ := hrel
              have HC2 := Lib.hid (cntH_le h2 j)
              by_cases hjn : j < N
              · have hjn' : (j : Int) < (N : Int) := by omega
                have hb1 : (j : Int) + 1 ≤ 9223372036854775807 := by omega
                have hb2 : (cntH h2 j : Int) + 1 ≤ 9223372036854775807 := by have := HC2.out; omega
                have PJ := PR.out _ _ _ _ G3.out (j : Int)
                rw [inI_nat] at PJ
                have CS := Lib.hid (cntH_succ h2 j)
                by_cases hin : j ∈ h2
                · rw [decide_eq_true hin] at PJ
                  have PJ := Lib.hid PJ
                  have CS := Lib.hid (CS.out.trans (by rw [if_pos hin]))
                  generalize cntH h2 j = c0 at *
                  go_wp2_with fail
                  refine PJ.out.mono ?_
                  rintro e w4 ⟨rfl, rfl⟩
                  go_wp2
                  go_roundw
                  case rel => exact ⟨j + 1, by omega, by simp, by rw [CS.out]; simp, (by first | rfl | trivial)⟩
                  case measure => simp only [intOf]; omega
                · rw [decide_eq_false hin] at PJ
                  have PJ := Lib.hid PJ
                  have CS := Lib.hid (CS.out.trans (by rw [if_neg hin]))
                  generalize cntH h2 j = c0 at *
                  go_wp2_with fail
                  refine PJ.out.mono ?_
                  rintro e w4 ⟨rfl, rfl⟩
                  go_wp2
                  go_roundw
                  case rel => exact ⟨j + 1, by omega, by simp, by rw [CS.out]; simp, (by first | rfl | trivial)⟩
                  case measure => simp only [intOf]; omega
              · have hjn' : ¬ (j : Int) < (N : Int) := by omega
                obtain rfl : j = N := by omega
                rw [CF.out]
                rcases VCS.out with ⟨e1, e2⟩ | ⟨e1, e2⟩ | ⟨e1, e2, e3⟩
                · have VV := VV.out
                  rw [e1] at VV
                  have ht1 : ¬ (1 : Int) < (T : Int) := by have := HT.out; omega
                  have ht1i : decide ((1 : Int) < (T : Int)) = false := decide_eq_false (by omega)
                  have ht1n : decide (1 < T) = false := decide_eq_false (by omega)
                  clear e1 e2
                  generalize (l2 ++ h2).headD 0 = hd at *
                  have VV := Lib.hid VV
                  go_wp2_with fail
                  refine (VV.out _ G3.out).mono ?_
                  rintro e w5 ⟨rfl, g5⟩
                  have X5 := Lib.hid g5
                  clear g5
                  go_wp2_with fail
                  refine (CP.out _ _ _ _ X5.out).mono ?_
                  rintro e w6 ⟨rfl, rfl⟩
                  go_wp2_with fail
                  refine (CP.out _ _ _ _ X5.out).mono ?_
                  rintro e w6 ⟨rfl, rfl⟩
                  go_wp2
                  go_roundw
                  case rel => exact ⟨k + 1, _, _, by omega, by omega, by simp, HC3.out, X5.out⟩
                  case measure => simp only [intOf]; omega
                · have VV := VV.out
                  rw [e1] at VV
                  have PV := fun W (x : Run1 (SlO b j most l2 h2) w W) => PR.out _ _ _ _ x (((l2 ++ h2).headD 0 : Nat) : Int)
                  rw [e2] at PV
                  have PV := Lib.hid PV
                  clear e1 e2
                  generalize (l2 ++ h2).headD 0 = hd at *
                  have VV := Lib.hid VV
                  go_wp2_with fail
                  refine (VV.out _ G3.out).mono ?_
                  rintro e w5 ⟨rfl, g5⟩
                  have X5 := Lib.hid g5
                  clear g5
                  go_wp2_with fail
                  refine (CP.out _ _ _ _ X5.out).mono ?_
                  rintro e w6 ⟨rfl, rfl⟩
                  go_wp2_with fail
                  refine (CP.out _ _ _ _ X5.out).mono ?_
                  rintro e w6 ⟨rfl, rfl⟩
                  go_wp2_with fail
                  refine (PV.out _ X5.out).mono ?_
                  rintro e w6 ⟨rfl, rfl⟩
                  go_wp2
                  go_roundw
                  case rel => exact ⟨k + 1, _, _, by omega, by omega, by simp, HC3.out, X5.out⟩
                  case measure => simp only [intOf]; omega
                · have VV := VV.out
                  rw [e1] at VV
                  have PV := fun W (x : Run1 (SlO b j most l2 h2) w W) => PR.out _ _ _ _ x (((l2 ++ h2).headD 0 : Nat) : Int)
                  rw [e2] at PV
                  have PV := Lib.hid PV
                  have hqt : ¬ (q : Int) < (T : Int) := by have := HT.out; have := HQ.out; omega
                  have hqti : decide ((q : Int) < (T : Int)) = false := decide_eq_false (by omega)
                  have hqtn : decide (q < T) = false := decide_eq_false (by omega)
                  clear e1 e2 e3
                  generalize (l2 ++ h2).headD 0 = hd at *
                  have VV := Lib.hid VV
                  go_wp2_with fail
                  refine (VV.out _ G3.out).mono ?_
                  rintro e w5 ⟨rfl, g5⟩
                  have X5 := Lib.hid g5
                  clear g5
                  go_wp2_with fail
                  refine (CP.out _ _ _ _ X5.out).mono ?_
                  rintro e w6 ⟨rfl, rfl⟩
                  go_wp2_with fail
                  refine (CP.out _ _ _ _ X5.out).mono ?_
                  rintro e w6 ⟨rfl, rfl⟩
                  go_wp2_with fail
                  refine (PV.out _ X5.out).mono ?_
                  rintro e w6 ⟨rfl, rfl⟩
                  go_wp2_with fail
                  refine (LN2.out _ X5.out).mono ?_
                  rintro e w6 ⟨rfl, g6⟩
                  have X5 := Lib.hid g6
                  clear g6
                  go_wp2
                  go_roundw
                  case rel => exact ⟨k + 1, _, _, by omega, by omega, by simp, HC3.out, X5.out⟩
                  case measure => simp only [intOf]; omega
      · have hkm : (k : Int) < (n : Int) := by omega
        have hk4 : ¬ (k : Int) < 60 := by omega
        go_wp2_with fail
        refine (slAwake _).mono ?_
        rintro e w6 ⟨rfl, b6⟩
        have B6 := Lib.hid (HR.out.2.trans (b6.mono HR.out.2.size))
        clear b6
        go_wp2
        go_ret
        exact ⟨rfl, B6.out⟩
    · have hkm : ¬ (k : Int) < (n : Int) := by omega
      go_wp2_with fail
      refine (slAwake _).mono ?_
      rintro e w6 ⟨rfl, b6⟩
      have B6 := Lib.hid (HR.out.2.trans (b6.mono HR.out.2.size))
      clear b6
      go_wp2
      go_ret
      exact ⟨rfl, B6.out⟩

theorem slKeeps_walk (sl keep : Int) (a : Option Addr) (n cp : Nat) (K Y : Nat → Int) (w : World) (s0 : 0 ≤ sl) (s1 : sl ≤ 255) (k0 : 0 ≤ keep) (k1 : keep ≤ 18446744073709551615)
    (h : Act2 w a n K Y) (hc : n ≤ cp) (hm : cp ≤ 9223372036854775807) :
    Calls Try.prog 9 #[.int .u8 sl, .int .u64 keep, .slice a n cp] w fun e w' => e = .returned (.bool true) ∧ Below w.heap.size w w' := by
  obtain ⟨N, hN⟩ : ∃ m : Nat, sl % 20 = (m : Int) := ⟨(sl % 20).toNat, by omega⟩
  have hb := shareI_bd N keep.toNat (by omega)
  exact slKeeps_at sl keep a n cp K Y w N (shareI N keep.toNat).toNat s0 s1 hN (by omega) k0 k1 (by omega) (by omega) h hc hm

end Go.Proofs.Ytbhcpedokgdipaa
