/- What is thought of keys: the statement's walk. -/
import Derived.Test.YtbhcpedokgdipaaTl
import Derived.Deep.DrawnRows
namespace Go.Proofs.Ytbhcpedokgdipaa
open Go.RowKit Fl
set_option linter.unusedVariables false
attribute [local go_sem ↓] Go.wp_at_zero Go.wp_at_succ


set_option maxRecDepth 1000000 in
set_option maxHeartbeats 8000000 in
theorem tyPlays_walk (width sample seed : Int) (a : Option Addr) (n cp : Nat) (Z : Nat → Int) (key : Int) (w : World) (hw0 : 0 ≤ width) (hw1 : width ≤ 65535) (hs0 : 0 ≤ sample) (hs1 : sample ≤ 65535) (s0 : 0 ≤ seed) (s1 : seed ≤ 18446744073709551615) (k0 : 0 ≤ key) (k1 : key ≤ 18446744073709551615)
    (h : IntsAt .u64 w a n Z) (hc : n ≤ cp) (hm : cp ≤ 9223372036854775807) :
    Calls Try.prog 6 #[.int .u16 width, .int .u16 sample, .int .u64 seed, .slice a n cp, .int .u64 key] w fun e w' => e = .returned (.bool true) ∧ Below w.heap.size w w' := by
  obtain ⟨wd, hwd⟩ : ∃ m : Nat, 1 + width % 200 = (m : Int) := ⟨(1 + width % 200).toNat, by omega⟩
  obtain ⟨sm, hsm⟩ : ∃ m : Nat, 1 + sample % 100 = (m : Int) := ⟨(1 + sample % 100).toNat, by omega⟩
  have BO := Lib.hid (tyBoth w width sample seed hw0 hw1 hs0 hs1 s0 s1 wd sm hwd hsm)
  obtain ⟨qk, hqk⟩ : ∃ qk, qk = pickN seed key wd := ⟨_, rfl⟩
  have TH := Lib.hid (fun (b b' : Nat) (t t' : TS) (W : World) (x : TT b b' seed wd sm t t' w W) => x.think key k0 k1 qk hqk)
  have RTH := Lib.hid (fun (b b' : Nat) (t t' : TS) (W : World) (x : TT b b' seed wd sm t t' w W) => x.rthink key k0 k1 qk hqk)
  have HA := Lib.hid h
  clear h hqk hwd hsm
  go_enter Try.func6, Try.ntmps6
  go_wp2_with fail
  refine BO.out.mono ?_
  rintro e w1 ⟨b, b', rfl, g1⟩
  have G1 := Lib.hid g1
  clear g1
  go_wp2
  go_loopw [14] (fun i wr => ∃ (k : Nat) (t : TS), k ≤ n ∧ k ≤ 200 ∧ i = .int .i64 (k : Int) ∧ TT b b' seed wd sm t t w wr) (fun i _ => 200 - (intOf i).toNat)
  case atStart => exact ⟨0, _, Nat.zero_le _, by omega, rfl, G1.out⟩
  case round =>
    obtain ⟨k, t, hkn, hk30, rfl, hP⟩ := hrel
    have HP := Lib.hid hP
    clear hP
    by_cases h1 : k < n
    · by_cases h2 : k < 200
      · obtain ⟨kb, off, rfl, hcc⟩ := HA.out.2 (by omega)
        have q0 := hcc k h1
        have yb := u64_bd (HA.out.1 k h1)
        have r0 := HP.out.old q0
        obtain ⟨pk, hpk⟩ : ∃ pk, pk = pickN seed (Z k) wd := ⟨_, rfl⟩
        have SE := Lib.hid (HP.out.drew.see (Z k) yb.1 yb.2 pk hpk)
        have RSE := Lib.hid (fun (t t' : TS) (W : World) (x : TT b b' seed wd sm t t' w W) => x.rsee (Z k) yb.1 yb.2 pk hpk)
        have OL := Lib.hid (fun (t t' : TS) (W : World) (x : TT b b' seed wd sm t t' w W) => x.old q0)
        have le16 := thinkT_le qk (seeT pk sm t)
        clear q0 hcc hpk
        have hkm : (k : Int) < (n : Int) := by omega
        have hk4 : (k : Int) < 200 := by omega
        have hnn : (k : Int) + 1 ≤ 9223372036854775807 := by omega
        have h16 : decide ((16 : Int) < (thinkT qk (seeT pk sm t) : Int)) = false := decide_eq_false (by omega)
        clear yb le16
        go_wp2_with fail
        go_region_with (first | (go_at_call 23; (with_reducible refine SE.out.mono ?_); rintro e w2 ⟨rfl, g2⟩; have z1 := OL.out _ _ _ g2) | (go_at_call 24; (with_reducible refine (RSE.out _ _ _ g2).mono ?_); rintro e w3 ⟨rfl, g3⟩) | (go_at_call 25; (with_reducible refine (TH.out _ _ _ _ _ g3).mono ?_); rintro e w4 ⟨rfl, g4⟩) | (go_at_call 26; (with_reducible refine (RTH.out _ _ _ _ _ g4).mono ?_); rintro e w5 ⟨rfl, g5⟩; have zn := g5.celln) | (go_at_call 27; (with_reducible refine g5.seen.mono ?_); rintro e w' ⟨rfl, rfl⟩) | (go_at_call 25; (with_reducible refine (TH.out _ _ _ _ _ g5).mono ?_); rintro e w6 ⟨rfl, g6⟩))
        all_goals
          have HG := Lib.hid g6
          clear g2 g3 g4 g5 g6 zn
          dsimp only [Act.put, List.getElem_toArray, List.getElem_cons_succ, List.getElem_cons_zero]
          simp only [List.setIfInBounds_toArray, List.set_cons_zero, List.set_cons_succ]
          go_wp2
          go_roundw
          case rel => exact ⟨k + 1, _, by omega, by omega, by simp, HG.out⟩
          case measure => simp only [intOf]; omega
      · have hkm : (k : Int) < (n : Int) := by omega
        have hk4 : ¬ (k : Int) < 200 := by omega
        go_wp2_with fail
        refine (TH.out _ _ _ _ _ HP.out).mono ?_
        rintro e w2 ⟨rfl, g2⟩
        have G2 := Lib.hid g2
        clear g2
        go_wp2_with fail
        refine (RTH.out _ _ _ _ _ G2.out).mono ?_
        rintro e w3 ⟨rfl, g3⟩
        have B3 := Lib.hid g3.2
        clear g3
        go_wp2_with fail
        refine (tyAwake _).mono ?_
        rintro e w4 ⟨rfl, b4⟩
        go_wp2
        go_ret
        exact ⟨rfl, B3.out.trans (b4.mono B3.out.size)⟩
    · have hkm : ¬ (k : Int) < (n : Int) := by omega
      go_wp2_with fail
      refine (TH.out _ _ _ _ _ HP.out).mono ?_
      rintro e w2 ⟨rfl, g2⟩
      have G2 := Lib.hid g2
      clear g2
      go_wp2_with fail
      refine (RTH.out _ _ _ _ _ G2.out).mono ?_
      rintro e w3 ⟨rfl, g3⟩
      have B3 := Lib.hid g3.2
      clear g3
      go_wp2_with fail
      refine (tyAwake _).mono ?_
      rintro e w4 ⟨rfl, b4⟩
      go_wp2
      go_ret
      exact ⟨rfl, B3.out.trans (b4.mono B3.out.size)⟩

end Go.Proofs.Ytbhcpedokgdipaa
