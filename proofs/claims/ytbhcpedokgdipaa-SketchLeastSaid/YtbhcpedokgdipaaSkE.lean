/- A count is never too low: the statement's walk. -/
import Derived.Test.YtbhcpedokgdipaaSkL
namespace Go.Proofs.Ytbhcpedokgdipaa
open Go.RowKit
set_option linter.unusedVariables false

theorem One.cap {F : Nat → Prop} {w : World} {b : Nat} {seed : Int} {width : Nat} {c : Nat → Nat → Nat} (h : One F w b seed width c) : ∀ r i, r < 4 → i < width → c r i ≤ 15 := by
  obtain ⟨h0, ⟨g, L, W, hs, hc, hb, hg⟩⟩ := h
  intro r i hr hi
  rw [← hc r i hr hi]; have := cnt_lt (W r) i; omega

theorem least_ge {c : Nat → Nat} {m : Nat} (hm : m ≤ 15) : ∀ k, (∀ r, r < k → m ≤ c r) → m ≤ least c k
  | 0, _ => hm
  | k + 1, h => by
    have := least_ge hm k (fun r hr => h r (by omega))
    have := h k (by omega)
    simp only [least]; omega
theorem least_mono {c d : Nat → Nat} : ∀ k, (∀ r, r < k → c r ≤ d r) → least c k ≤ least d k
  | 0, _ => Nat.le_refl _
  | k + 1, h => by
    have := least_mono k (fun r hr => h r (by omega))
    have := h k (by omega)
    simp only [least]; omega

theorem addA_ge {c : Nat → Nat → Nat} {pk : Nat → Nat} {r i : Nat} (h : c r i ≤ 15) : c r i ≤ addA c pk r i := by unfold addA; split <;> omega

set_option maxRecDepth 100000 in
set_option maxHeartbeats 4000000 in
theorem least_walk (width seed : Int) (a : Option Addr) (n cp : Nat) (K Y T : Nat → Int) (key : Int) (w : World) (hw0 : 0 ≤ width) (hw1 : width ≤ 65535) (s0 : 0 ≤ seed) (s1 : seed ≤ 18446744073709551615) (k0 : 0 ≤ key) (k1 : key ≤ 18446744073709551615)
    (h : Acts w a n K Y T) (hc : n ≤ cp) (hm : cp ≤ 9223372036854775807) :
    Calls Try.prog 4 #[.int .u16 width, .int .u64 seed, .slice a n cp, .int .u64 key] w fun e w' => e = .returned (.bool true) ∧ Below w.heap.size w w' := by
  obtain ⟨m, hmw⟩ : ∃ m : Nat, 1 + width % 200 = (m : Int) := ⟨(1 + width % 200).toNat, by omega⟩
  have hm1 : 1 ≤ m ∧ m ≤ 4096 := by omega
  obtain ⟨P, hP⟩ : ∃ P : Int → Nat → Nat, P = fun y => pickN seed y m := ⟨_, rfl⟩
  have hPlt : ∀ y r, P y r < m := fun y r => by rw [hP]; exact pickN_lt seed y m r hm1.1
  have C0 : ∀ (F : Nat → Prop) (w : World) (b : Nat) (c : Nat → Nat → Nat) (h : One F w b seed m c), Calls Try.prog 15 #[.pointer (some ⟨b, 0, none⟩), .int .u64 key] w fun e w' => e = .returned (.int .i64 (cntC c (P key) : Int)) ∧ One F w' b seed m c ∧ Keeps (fun j => ¬ F j) w w' := fun F w b c h => by
    rw [hP]; exact oCount h key k0 k1
  have A0 : ∀ (y : Int) (F : Nat → Prop) (w : World) (b : Nat) (c : Nat → Nat → Nat) (h : One F w b seed m c), 0 ≤ y → y ≤ 18446744073709551615 → Calls Try.prog 18 #[.pointer (some ⟨b, 0, none⟩), .int .u64 y] w fun e w' => (∃ z : Int, e = .returned (.int .i64 z)) ∧ One F w' b seed m (addA c (P y)) ∧ Keeps (fun j => ¬ F j) w w' := fun y F w b c h y0 y1 => by
    rw [hP]; exact (oAdd h y y0 y1).mono fun e w' ⟨he, h⟩ => ⟨⟨_, he⟩, h⟩
  have L0 := Lib.hid hPlt
  obtain ⟨pk, hpk⟩ : ∃ pk, pk = P key := ⟨_, rfl⟩
  have PK := Lib.hid hpk
  rw [← hpk] at C0
  have C := Lib.hid (fun w b c h => C0 (fun j => j < w.heap.size) w b c h)
  clear C
  have C := Lib.hid C0
  have A := Lib.hid A0
  clear hP hPlt C0 A0 hpk
  have N := Lib.hid (oNew w m seed hm1.1 hm1.2 s0 s1)
  have HA := Lib.hid h
  clear h
  go_enter Try.func4, Try.ntmps4
  go_wp2_with fail
  refine N.out.mono ?_
  rintro e w1 ⟨rfl, h1, b1⟩
  have H1 := Lib.hid h1
  have B1 := Lib.hid b1
  clear h1 b1
  go_wp2
  go_loopw [11, 12] (fun x i wr => ∃ (k q : Nat) (c : Nat → Nat → Nat), k ≤ n ∧ k ≤ 30 ∧ q ≤ k ∧ x = .int .i64 (q : Int) ∧ i = .int .i64 (k : Int) ∧ One (fun j => j < w.heap.size) wr w.heap.size seed m c ∧ Keeps (fun j => ¬ j < w.heap.size) w wr ∧ ∀ r, r < 4 → min q 15 ≤ c r (pk r)) (fun _ i _ => 30 - (intOf i).toNat)
  case atStart => exact ⟨0, 0, _, Nat.zero_le _, by omega, by omega, rfl, rfl, H1.out, (Keeps.of_below B1.out).mono (fun j _ hj => by omega), fun r _ => by omega⟩
  case round =>
    obtain ⟨k, q, c, hkn, hk30, hqk, rfl, rfl, hP, hK, hQ⟩ := hrel
    have HP := Lib.hid hP
    have HK := Lib.hid hK
    have HQ := Lib.hid hQ
    clear hP hK hQ
    by_cases h1 : k < n
    · by_cases h2 : k < 30
      · obtain ⟨b, off, rfl, hcc⟩ := HA.out.2 (by omega)
        obtain ⟨q0, q1, q2⟩ := hcc k h1
        obtain ⟨-, ⟨y0, y1⟩, t0, t1⟩ := HA.out.1 k h1
        have hkm : (k : Int) < (n : Int) := by omega
        have hk4 : (k : Int) < 30 := by omega
        have hnn : (k : Int) + 1 ≤ 9223372036854775807 := by omega
        have hcap := Lib.hid HP.out.cap
        go_wp2_with fail
        refine (C.out _ _ _ _ HP.out).mono ?_
        rintro e w2 ⟨rfl, h2', k2⟩
        have H2 := Lib.hid h2'
        have K2 := Lib.hid (HK.out.trans k2 (fun n h => .inl h))
        clear h2' k2
        have r0 := K2.out.cell q0 (fun x => x (World.block_lt_of_cell? w _ q0))
        have r1 := K2.out.cell q1 (fun x => x (World.block_lt_of_cell? w _ q1))
        clear q0 q1 q2 hcc
        generalize hY : Y k = y at *
        generalize hX : K k = x at *
        clear hY hX
        have hle : cntC c pk ≤ cntC (addA c (P y)) pk := least_mono 4 (fun r hr => addA_ge (hcap.out r (pk r) hr (by rw [PK.out]; exact L0.out _ _)))
        have HLE := Lib.hid hle
        clear hle
        by_cases e0 : x = 0
        · subst e0
          go_wp2_with fail
          refine (A.out y _ _ _ _ H2.out y0 y1).mono ?_
          rintro e w3 ⟨⟨z, rfl⟩, h3, k3⟩
          have H3 := Lib.hid h3
          have K3 := Lib.hid (K2.out.trans k3 (fun n h => .inl h))
          clear h3 k3
          by_cases ey : y = key
          · subst ey
            go_wp2_with fail
            refine (C.out _ _ _ _ H3.out).mono ?_
            rintro e w4 ⟨rfl, h4, k4⟩
            have H4 := Lib.hid h4
            have K4 := Lib.hid (K3.out.trans k4 (fun n h => .inl h))
            clear h4 k4
            have u0 : ¬ (cntC (addA c (P y)) pk < cntC c pk) := Nat.not_lt.2 HLE.out
            have INV := Lib.hid (show ∀ r, r < 4 → min (q + 1) 15 ≤ addA c (P y) r (pk r) from fun r hr => by
                          have := HQ.out r hr
                          unfold addA; rw [PK.out, if_pos rfl]; rw [PK.out] at this; omega)
            go_wp2_with fail
            refine (C.out _ _ _ _ H4.out).mono ?_
            rintro e wa ⟨rfl, ha, ka⟩
            have hv1 : min (q + 1) 15 ≤ cntC (addA c (P y)) pk := least_ge (by omega) 4 (fun r hr => INV.out r hr)
            have hv2 : cntC (addA c (P y)) pk ≤ 15 := least_le _ _
            have HA1 := Lib.hid ha
            have KA := Lib.hid ka
            clear ha ka
            have CC := Lib.hid (C.out _ _ _ _ HA1.out)
            generalize hv : cntC (addA c (P y)) pk = v at hv1 hv2 CC ⊢
            clear hv
            have u1 : ¬ (15 : Int) < (v : Int) := by omega
            by_cases hq15 : 15 < (q + 1)
            · have u2 : (15 : Int) < ((q : Int) + 1) := by omega
              obtain rfl : v = 15 := by omega
              clear hv1 hv2 u1
              go_wp2_with fail
              refine CC.out.mono ?_
              rintro e wb ⟨rfl, hb, kb⟩
              have HB1 := Lib.hid hb
              have KB := Lib.hid kb
              clear hb kb
              go_wp2
              go_roundw
              case rel => exact ⟨k + 1, (q + 1), _, by omega, by omega, by omega, by simp, by simp, HB1.out, (K4.out.trans KA.out (fun n h => .inl h)).trans KB.out (fun n h => .inl h), INV.out⟩
              case measure => simp only [intOf]; omega
            · have u2 : decide ((15 : Int) < ((q : Int) + 1)) = false := decide_eq_false (by omega)
              obtain ⟨d, rfl⟩ : ∃ d, v = (q + 1) + d := ⟨v - (q + 1), by omega⟩
              have u3 : decide (((q : Int) + 1) + (d : Int) < ((q : Int) + 1)) = false := decide_eq_false (by omega)
              have u4 : decide ((15 : Int) < ((q : Int) + 1) + (d : Int)) = false := decide_eq_false (by omega)
              clear hv1 hv2 u1
              go_wp2_with fail
              refine CC.out.mono ?_
              rintro e wb ⟨rfl, hb, kb⟩
              have HB1 := Lib.hid hb
              have KB := Lib.hid kb
              clear hb kb
              go_wp2
              go_roundw
              case rel => exact ⟨k + 1, (q + 1), _, by omega, by omega, by omega, by simp, by simp, HB1.out, (K4.out.trans KA.out (fun n h => .inl h)).trans KB.out (fun n h => .inl h), INV.out⟩
              case measure => simp only [intOf]; omega
          · have ey' : (y == key) = false := by simpa using ey
            clear ey
            go_wp2_with fail
            refine (C.out _ _ _ _ H3.out).mono ?_
            rintro e w4 ⟨rfl, h4, k4⟩
            have H4 := Lib.hid h4
            have K4 := Lib.hid (K3.out.trans k4 (fun n h => .inl h))
            clear h4 k4
            have u0 : ¬ (cntC (addA c (P y)) pk < cntC c pk) := Nat.not_lt.2 HLE.out
            have INV := Lib.hid (show ∀ r, r < 4 → min q 15 ≤ addA c (P y) r (pk r) from fun r hr => Nat.le_trans (HQ.out r hr) (addA_ge (hcap.out r (pk r) hr (by rw [PK.out]; exact L0.out _ _))))
            go_wp2_with fail
            refine (C.out _ _ _ _ H4.out).mono ?_
            rintro e wa ⟨rfl, ha, ka⟩
            have hv1 : min q 15 ≤ cntC (addA c (P y)) pk := least_ge (by omega) 4 (fun r hr => INV.out r hr)
            have hv2 : cntC (addA c (P y)) pk ≤ 15 := least_le _ _
            have HA1 := Lib.hid ha
            have KA := Lib.hid ka
            clear ha ka
            have CC := Lib.hid (C.out _ _ _ _ HA1.out)
            generalize hv : cntC (addA c (P y)) pk = v at hv1 hv2 CC ⊢
            clear hv
            have u1 : ¬ (15 : Int) < (v : Int) := by omega
            by_cases hq15 : 15 < q
            · have u2 : (15 : Int) < (q : Int) := by omega
              obtain rfl : v = 15 := by omega
              clear hv1 hv2 u1
              go_wp2_with fail
              refine CC.out.mono ?_
              rintro e wb ⟨rfl, hb, kb⟩
              have HB1 := Lib.hid hb
              have KB := Lib.hid kb
              clear hb kb
              go_wp2
              go_roundw
              case rel => exact ⟨k + 1, q, _, by omega, by omega, by omega, by simp, by simp, HB1.out, (K4.out.trans KA.out (fun n h => .inl h)).trans KB.out (fun n h => .inl h), INV.out⟩
              case measure => simp only [intOf]; omega
            · have u2 : decide ((15 : Int) < (q : Int)) = false := decide_eq_false (by omega)
              obtain ⟨d, rfl⟩ : ∃ d, v = q + d := ⟨v - q, by omega⟩
              have u3 : decide ((q : Int) + (d : Int) < (q : Int)) = false := decide_eq_false (by omega)
              have u4 : decide ((15 : Int) < (q : Int) + (d : Int)) = false := decide_eq_false (by omega)
              clear hv1 hv2 u1
              go_wp2_with fail
              refine CC.out.mono ?_
              rintro e wb ⟨rfl, hb, kb⟩
              have HB1 := Lib.hid hb
              have KB := Lib.hid kb
              clear hb kb
              go_wp2
              go_roundw
              case rel => exact ⟨k + 1, q, _, by omega, by omega, by omega, by simp, by simp, HB1.out, (K4.out.trans KA.out (fun n h => .inl h)).trans KB.out (fun n h => .inl h), INV.out⟩
              case measure => simp only [intOf]; omega
        · by_cases e1 : x = 1
          · subst e1
            go_wp2_with fail
            refine (oHalve H2.out).mono ?_
            rintro e w3 ⟨rfl, h3, k3⟩
            have H3 := Lib.hid h3
            have K3 := Lib.hid (K2.out.trans k3 (fun n h => .inl h))
            clear h3 k3
            have INV := Lib.hid (show ∀ r, r < 4 → min 0 15 ≤ halfA c r (pk r) from fun r hr => by omega)
            go_wp2_with fail
            refine (C.out _ _ _ _ H3.out).mono ?_
            rintro e wa ⟨rfl, ha, ka⟩
            have hv1 : min 0 15 ≤ cntC (halfA c) pk := least_ge (by omega) 4 (fun r hr => INV.out r hr)
            have hv2 : cntC (halfA c) pk ≤ 15 := least_le _ _
            have HA1 := Lib.hid ha
            have KA := Lib.hid ka
            clear ha ka
            have CC := Lib.hid (C.out _ _ _ _ HA1.out)
            generalize hv : cntC (halfA c) pk = v at hv1 hv2 CC ⊢
            clear hv
            have u1 : ¬ (15 : Int) < (v : Int) := by omega
            by_cases hq15 : 15 < 0
            · have u2 : (15 : Int) < 0 := by omega
              obtain rfl : v = 15 := by omega
              clear hv1 hv2 u1
              go_wp2_with fail
              refine CC.out.mono ?_
              rintro e wb ⟨rfl, hb, kb⟩
              have HB1 := Lib.hid hb
              have KB := Lib.hid kb
              clear hb kb
              go_wp2
              go_roundw
              case rel => exact ⟨k + 1, 0, _, by omega, by omega, by omega, by simp, by simp, HB1.out, (K3.out.trans KA.out (fun n h => .inl h)).trans KB.out (fun n h => .inl h), INV.out⟩
              case measure => simp only [intOf]; omega
            · have u2 : decide ((15 : Int) < 0) = false := decide_eq_false (by omega)
              have u3 : decide ((v : Int) < 0) = false := decide_eq_false (by omega)
              have u4 : decide ((15 : Int) < (v : Int)) = false := decide_eq_false (by omega)
              clear hv1 hv2 u1
              go_wp2_with fail
              refine CC.out.mono ?_
              rintro e wb ⟨rfl, hb, kb⟩
              have HB1 := Lib.hid hb
              have KB := Lib.hid kb
              clear hb kb
              go_wp2
              go_roundw
              case rel => exact ⟨k + 1, 0, _, by omega, by omega, by omega, by simp, by simp, HB1.out, (K3.out.trans KA.out (fun n h => .inl h)).trans KB.out (fun n h => .inl h), INV.out⟩
              case measure => simp only [intOf]; omega
          · by_cases e2 : x = 2
            · subst e2
              go_wp2_with fail
              refine (oClear H2.out).mono ?_
              rintro e w3 ⟨rfl, h3, k3⟩
              have H3 := Lib.hid h3
              have K3 := Lib.hid (K2.out.trans k3 (fun n h => .inl h))
              clear h3 k3
              have INV := Lib.hid (show ∀ r, r < 4 → min 0 15 ≤ (0 : Nat) from fun r hr => by omega)
              go_wp2_with fail
              refine (C.out _ _ _ _ H3.out).mono ?_
              rintro e wa ⟨rfl, ha, ka⟩
              have hv1 : min 0 15 ≤ cntC (fun _ _ => 0) pk := least_ge (by omega) 4 (fun r hr => INV.out r hr)
              have hv2 : cntC (fun _ _ => 0) pk ≤ 15 := least_le _ _
              have HA1 := Lib.hid ha
              have KA := Lib.hid ka
              clear ha ka
              have CC := Lib.hid (C.out _ _ _ _ HA1.out)
              generalize hv : cntC (fun _ _ => 0) pk = v at hv1 hv2 CC ⊢
              clear hv
              have u1 : ¬ (15 : Int) < (v : Int) := by omega
              by_cases hq15 : 15 < 0
              · have u2 : (15 : Int) < 0 := by omega
                obtain rfl : v = 15 := by omega
                clear hv1 hv2 u1
                go_wp2_with fail
                refine CC.out.mono ?_
                rintro e wb ⟨rfl, hb, kb⟩
                have HB1 := Lib.hid hb
                have KB := Lib.hid kb
                clear hb kb
                go_wp2
                go_roundw
                case rel => exact ⟨k + 1, 0, _, by omega, by omega, by omega, by simp, by simp, HB1.out, (K3.out.trans KA.out (fun n h => .inl h)).trans KB.out (fun n h => .inl h), INV.out⟩
                case measure => simp only [intOf]; omega
              · have u2 : decide ((15 : Int) < 0) = false := decide_eq_false (by omega)
                have u3 : decide ((v : Int) < 0) = false := decide_eq_false (by omega)
                have u4 : decide ((15 : Int) < (v : Int)) = false := decide_eq_false (by omega)
                clear hv1 hv2 u1
                go_wp2_with fail
                refine CC.out.mono ?_
                rintro e wb ⟨rfl, hb, kb⟩
                have HB1 := Lib.hid hb
                have KB := Lib.hid kb
                clear hb kb
                go_wp2
                go_roundw
                case rel => exact ⟨k + 1, 0, _, by omega, by omega, by omega, by simp, by simp, HB1.out, (K3.out.trans KA.out (fun n h => .inl h)).trans KB.out (fun n h => .inl h), INV.out⟩
                case measure => simp only [intOf]; omega
            · clear r1
              have e0' : (x == 0) = false := by simpa using e0
              have e1' : (x == 1) = false := by simpa using e1
              have e2' : (x == 2) = false := by simpa using e2
              clear e0 e1 e2
              have INV := Lib.hid HQ.out
              go_wp2_with fail
              refine (C.out _ _ _ _ H2.out).mono ?_
              rintro e wa ⟨rfl, ha, ka⟩
              have hv1 : min q 15 ≤ cntC c pk := least_ge (by omega) 4 (fun r hr => INV.out r hr)
              have hv2 : cntC c pk ≤ 15 := least_le _ _
              have HA1 := Lib.hid ha
              have KA := Lib.hid ka
              clear ha ka
              have CC := Lib.hid (C.out _ _ _ _ HA1.out)
              generalize hv : cntC c pk = v at hv1 hv2 CC ⊢
              clear hv
              have u1 : ¬ (15 : Int) < (v : Int) := by omega
              by_cases hq15 : 15 < q
              · have u2 : (15 : Int) < (q : Int) := by omega
                obtain rfl : v = 15 := by omega
                clear hv1 hv2 u1
                go_wp2_with fail
                refine CC.out.mono ?_
                rintro e wb ⟨rfl, hb, kb⟩
                have HB1 := Lib.hid hb
                have KB := Lib.hid kb
                clear hb kb
                go_wp2
                go_roundw
                case rel => exact ⟨k + 1, q, _, by omega, by omega, by omega, by simp, by simp, HB1.out, (K2.out.trans KA.out (fun n h => .inl h)).trans KB.out (fun n h => .inl h), INV.out⟩
                case measure => simp only [intOf]; omega
              · have u2 : decide ((15 : Int) < (q : Int)) = false := decide_eq_false (by omega)
                obtain ⟨d, rfl⟩ : ∃ d, v = q + d := ⟨v - q, by omega⟩
                have u3 : decide ((q : Int) + (d : Int) < (q : Int)) = false := decide_eq_false (by omega)
                have u4 : decide ((15 : Int) < (q : Int) + (d : Int)) = false := decide_eq_false (by omega)
                clear hv1 hv2 u1
                go_wp2_with fail
                refine CC.out.mono ?_
                rintro e wb ⟨rfl, hb, kb⟩
                have HB1 := Lib.hid hb
                have KB := Lib.hid kb
                clear hb kb
                go_wp2
                go_roundw
                case rel => exact ⟨k + 1, q, _, by omega, by omega, by omega, by simp, by simp, HB1.out, (K2.out.trans KA.out (fun n h => .inl h)).trans KB.out (fun n h => .inl h), INV.out⟩
                case measure => simp only [intOf]; omega
      · have hkm : (k : Int) < (n : Int) := by omega
        have hk4 : ¬ (k : Int) < 30 := by omega
        go_wp2_with fail
        refine (skAwake _).mono ?_
        rintro e w6 ⟨rfl, b6⟩
        go_wp2
        go_ret
        refine ⟨rfl, ?_⟩
        have k6 := HK.out.trans (Keeps.of_below b6) (fun n h => .inr (Nat.le_trans HK.out.size h))
        exact (k6.mono (T := fun j => w.heap.size ≤ j) (fun n _ hn => by omega)).below (Nat.le_refl _)
    · have hkm : ¬ (k : Int) < (n : Int) := by omega
      go_wp2_with fail
      refine (skAwake _).mono ?_
      rintro e w6 ⟨rfl, b6⟩
      go_wp2
      go_ret
      refine ⟨rfl, ?_⟩
      have k6 := HK.out.trans (Keeps.of_below b6) (fun n h => .inr (Nat.le_trans HK.out.size h))
      exact (k6.mono (T := fun j => w.heap.size ≤ j) (fun n _ hn => by omega)).below (Nat.le_refl _)

end Go.Proofs.Ytbhcpedokgdipaa
