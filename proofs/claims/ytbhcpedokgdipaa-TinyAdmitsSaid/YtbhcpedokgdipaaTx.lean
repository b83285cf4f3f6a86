/- Who is let in: the statement's walk. -/
import Derived.Test.YtbhcpedokgdipaaTl
namespace Go.Proofs.Ytbhcpedokgdipaa
open Go.RowKit Fl
set_option linter.unusedVariables false

theorem word_key_neg {r : Nat} (h : r ≤ 9218868437227405312) : key (Ieee.double.word true r) ≤ 0 := by
  unfold key Ieee.Format.word
  rw [dbl_sw]
  have : neg (9223372036854775808 + r) = true := by unfold neg; simp
  simp only [if_true, this]; omega

theorem mul_key_le {x f r : Nat} (hx : x < 9218868437227405312) (hf : f < 18446744073709551616) (hN : isN f = false) (hle : key f ≤ 0) (h : floatBits .mul .f64 x f = some r) : key r ≤ 0 := by
  by_cases hn : neg f = true
  · change Ieee.double.mul x f = some r at h
    unfold Ieee.Format.mul at h
    obtain ⟨d, hd, rfl⟩ := Option.map_eq_some_iff.1 h
    rw [read_num (x := x) (by omega) (by rw [rung_of_lt (by omega)]; exact hx), neg_of_lt (by omega)] at hd
    have hr := rung_le hN
    by_cases hi : rung f = 9218868437227405312
    · rw [read_inf hf hi, hn] at hd
      simp only [Ieee.Datum.product] at hd
      split at hd
      · cases hd
      · cases hd
        simp only [Ieee.Format.write]
        rw [dbl_inf]; exact word_key_neg (by omega)
    · rw [read_num (x := f) hf (by omega), hn] at hd
      simp only [Ieee.Datum.product] at hd
      cases hd
      simp only [Ieee.Format.write, Ieee.Format.nearest, Bool.false_xor]
      split
      · exact word_key_neg (by omega)
      · rw [dbl_inf]; exact word_key_neg (by omega)
  · have hn' : neg f = false := by simpa using hn
    have h0 : f = 0 := by
      unfold key at hle
      rw [hn'] at hle
      simp only [Bool.false_eq_true, if_false] at hle
      unfold neg at hn'
      simp at hn'
      unfold rung at hle
      omega
    subst h0
    rw [mul_near hx (by omega)] at h
    cases h
    have : near (mag x * mag 0) (-2148) = 0 := by rw [mag_zero, Nat.mul_zero]; rfl
    rw [this]
    decide

theorem ofInt_small (m : Nat) (h : m ≤ 16) : floatOfInt .f64 (m : Int) < 9218868437227405312 := by rw [ofInt_near]; exact near_lt (by omega)
theorem key_small {x : Nat} (h : x < 9218868437227405312) : 0 ≤ key x := by unfold key; rw [neg_of_lt (by omega)]; simp

/-- Nothing is greater by a factor that is not above 0. -/
theorem overB_low {m n f : Nat} (hm : m ≤ 16) (hn : n ≤ 16) (hf : f < 18446744073709551616) (hN : isN f = false) (hle : key f ≤ 0) : overB m f n = false := by
  rw [overB, hN]
  simp only [Bool.false_eq_true, if_false]
  rw [opC_cn]
  cases h : floatBits .mul .f64 (floatOfInt .f64 (m : Int)) f with
  | none => rfl
  | some r =>
    have h1 := mul_key_le (ofInt_small m hm) hf hN hle h
    have h2 := key_small (ofInt_small n hn)
    have h3 := (floatOfInt_lt (n : Int)).2
    unfold cn
    rw [h3]
    simp only [Bool.false_eq_true, if_false, gtC]
    exact decide_eq_false (by omega)

theorem over_all (P : Nat → Nat → Bool) (h : ((List.range 17).all fun m => (List.range 17).all fun n => P m n) = true) : ∀ m n, m ≤ 16 → n ≤ 16 → P m n = true := fun m n hm hn => by
  rw [List.all_eq_true] at h
  have h1 := h m (by simp; omega)
  rw [List.all_eq_true] at h1
  exact h1 n (by simp; omega)
theorem over_one (m n : Nat) (hm : m ≤ 16) (hn : n ≤ 16) : overB m 4607182418800017408 n = decide (n < m) := by
  have := over_all (fun m n => overB m 4607182418800017408 n == decide (n < m)) (by kernel_rfl) m n hm hn
  simpa using this
theorem over_inf (m n : Nat) (hm : m ≤ 16) (hn : n ≤ 16) : overB m 9218868437227405312 n = decide (0 < m) := by
  have := over_all (fun m n => overB m 9218868437227405312 n == decide (0 < m)) (by kernel_rfl) m n hm hn
  simpa using this
theorem over_none (m n : Nat) : overB m 9221120237041090561 n = overB m 4607182418800017408 n := overB_nan _ _ _ (by decide)

theorem le_low (f : Nat) (hf : f < 18446744073709551616) (m n : Nat) (hm : m ≤ 16) (hn : n ≤ 16) (h : FloatKind.f64.format.order f 0 = some .lt ∨ FloatKind.f64.format.order f 0 = some .eq) : overB m f n = false := by
  have h0 : isN 0 = false := by decide
  have k0 : key 0 = 0 := by decide
  rw [ord_at f 0 hf (by omega), h0, k0] at h
  cases hN : isN f
  · rw [hN] at h
    simp only [Bool.false_eq_true, or_self, if_false] at h
    refine overB_low hm hn hf hN ?_
    rcases h with h | h <;> injection h with h
    · have := Int.compare_eq_lt.1 h; omega
    · have := Int.compare_eq_eq.1 h; omega
  · rw [hN] at h
    simp at h

set_option maxRecDepth 100000 in
set_option maxHeartbeats 8000000 in
theorem tyAdmits_walk (width sample seed : Int) (a : Option Addr) (n cp : Nat) (Z : Nat → Int) (x y : Int) (f : Nat) (w : World) (hw0 : 0 ≤ width) (hw1 : width ≤ 65535) (hs0 : 0 ≤ sample) (hs1 : sample ≤ 65535) (s0 : 0 ≤ seed) (s1 : seed ≤ 18446744073709551615) (x0 : 0 ≤ x) (x1 : x ≤ 18446744073709551615) (y0 : 0 ≤ y) (y1 : y ≤ 18446744073709551615) (hf : f < 18446744073709551616)
    (h : IntsAt .u64 w a n Z) (hc : n ≤ cp) (hm : cp ≤ 9223372036854775807) :
    Calls Try.prog 8 #[.int .u16 width, .int .u16 sample, .int .u64 seed, .slice a n cp, .int .u64 x, .int .u64 y, .int .u64 (f : Int)] w fun e w' => e = .returned (.bool true) ∧ Below w.heap.size w w' := by
  obtain ⟨wd, hwd⟩ : ∃ m : Nat, 1 + width % 200 = (m : Int) := ⟨(1 + width % 200).toNat, by omega⟩
  obtain ⟨sm, hsm⟩ : ∃ m : Nat, 1 + sample % 100 = (m : Int) := ⟨(1 + sample % 100).toNat, by omega⟩
  have BO := Lib.hid (tyBoth w width sample seed hw0 hw1 hs0 hs1 s0 s1 wd sm hwd hsm)
  obtain ⟨xk, hxk⟩ : ∃ qk, qk = pickN seed x wd := ⟨_, rfl⟩
  obtain ⟨yk, hyk⟩ : ∃ qk, qk = pickN seed y wd := ⟨_, rfl⟩
  have RTH := Lib.hid (fun (b b' : Nat) (t t' : TS) (W : World) (g : TT b b' seed wd sm t t' w W) => g.rthink x x0 x1 xk hxk)
  have AD := Lib.hid (fun (b b' : Nat) (t t' : TS) (W : World) (g : TT b b' seed wd sm t t' w W) (f : Nat) (hf : f < 18446744073709551616) => g.admit x y x0 x1 y0 y1 f hf xk yk hxk hyk)
  have AD2 := Lib.hid (fun (b b' : Nat) (t t' : TS) (W : World) (g : TT b b' seed wd sm t t' w W) (f : Nat) (hf : f < 18446744073709551616) => g.admit y x y0 y1 x0 x1 f hf yk xk hyk hxk)
  have RAD := Lib.hid (fun (b b' : Nat) (t t' : TS) (W : World) (g : TT b b' seed wd sm t t' w W) (f : Nat) (hf : f < 18446744073709551616) => g.radmit x y x0 x1 y0 y1 f hf xk yk hxk hyk)
  have HA := Lib.hid h
  have HF := Lib.hid hf
  clear h hxk hyk hwd hsm hf
  go_enter Try.func8, Try.ntmps8
  go_wp2_with fail
  refine BO.out.mono ?_
  rintro e w1 ⟨b, b', rfl, g1⟩
  have G1 := Lib.hid g1
  clear g1
  go_wp2
  go_loopw [18] (fun i wr => ∃ (k : Nat) (t : TS), k ≤ n ∧ k ≤ 200 ∧ i = .int .i64 (k : Int) ∧ TT b b' seed wd sm t t w wr) (fun i _ => 200 - (intOf i).toNat)
  case atStart => exact ⟨0, _, Nat.zero_le _, by omega, rfl, G1.out⟩
  case round =>
    obtain ⟨k, t, hkn, hk30, rfl, hP⟩ := hrel
    have HP := Lib.hid hP
    clear hP
    by_cases h1 : k < n
    · by_cases h2 : k < 200
      · obtain ⟨kb, off, rfl, hcc⟩ := HA.out.2 (by omega)
        have q0 := hcc k h1
        have yb := u64_bd (HA.out.1 k h1)
        have r0 := HP.out.old q0
        obtain ⟨pk, hpk⟩ : ∃ pk, pk = pickN seed (Z k) wd := ⟨_, rfl⟩
        have SE := Lib.hid (HP.out.see (Z k) yb.1 yb.2 pk hpk)
        have RSE := Lib.hid (fun (t t' : TS) (W : World) (x : TT b b' seed wd sm t t' w W) => x.rsee (Z k) yb.1 yb.2 pk hpk)
        have OL := Lib.hid (fun (t t' : TS) (W : World) (x : TT b b' seed wd sm t t' w W) => x.old q0)
        clear q0 hcc hpk yb
        have hkm : (k : Int) < (n : Int) := by omega
        have hk4 : (k : Int) < 200 := by omega
        have hnn : (k : Int) + 1 ≤ 9223372036854775807 := by omega
        go_wp2_with fail
        refine SE.out.mono ?_
        rintro e w2 ⟨rfl, g2⟩
        have z1 := OL.out _ _ _ g2
        have G2 := Lib.hid g2
        clear g2
        go_wp2_with fail
        refine (RSE.out _ _ _ G2.out).mono ?_
        rintro e w3 ⟨rfl, g3⟩
        have G3 := Lib.hid g3
        clear g3 z1 r0
        go_wp2
        go_roundw
        case rel => exact ⟨k + 1, _, by omega, by omega, by simp, G3.out⟩
        case measure => simp only [intOf]; omega
      · have hkm : (k : Int) < (n : Int) := by omega
        have hk4 : ¬ (k : Int) < 200 := by omega
        have ht := thinkT_le xk t
        have hu := thinkT_le yk t
        have E1 := over_one _ _ ht hu
        have E2 := over_one _ _ hu ht
        have E3 := over_inf _ (thinkT yk t) ht hu
        have E5 := Lib.hid (over_none (thinkT xk t) (thinkT yk t))
        have HLE := Lib.hid (le_low f HF.out _ _ ht hu)
        have AD1 := fun W g => AD.out b b' t t W g f HF.out
        have RAD1 := Lib.hid (fun W g => RAD.out b b' t t W g f HF.out)
        have ADO := fun W g => AD.out b b' t t W g 4607182418800017408 (by omega)
        have ADO2 := fun W g => AD2.out b b' t t W g 4607182418800017408 (by omega)
        have ADN := Lib.hid (fun W g => AD.out b b' t t W g 9221120237041090561 (by omega))
        have ADI := fun W g => AD.out b b' t t W g 9218868437227405312 (by omega)
        have TH := Lib.hid (fun W g => RTH.out b b' t t W g)
        rw [E1] at ADO E5
        rw [E2] at ADO2
        rw [E3] at ADI
        generalize overB (thinkT xk t) f (thinkT yk t) = A at *
        generalize thinkT xk t = tx at *
        generalize thinkT yk t = ty at *
        have AD1 := Lib.hid AD1
        have ADO := Lib.hid ADO
        have ADO2 := Lib.hid ADO2
        have ADI := Lib.hid ADI
        clear E1 E2 E3
        have hcase : (∃ c1 c2 c3 : Bool, decide (ty < tx) = c1 ∧ decide (tx < ty) = c2 ∧ decide (0 < tx) = c3 ∧ decide ((0 : Int) < (tx : Int)) = c3 ∧ (c1 = true → c2 = false)) := ⟨_, _, _, rfl, rfl, rfl, decide_eq_decide.2 (by omega), fun h => decide_eq_false (by have := of_decide_eq_true h; omega)⟩
        obtain ⟨c1, c2, c3, d1, d2, d3, d4, d5⟩ := hcase
        have D4 := Lib.hid d4
        have D3 := Lib.hid d3
        rw [d1] at ADO E5
        rw [d2] at ADO2
        rw [d3] at ADI
        clear d1 d2 d3 d4 ht hu
        cases c1 <;> cases c3
        all_goals
          first | (obtain rfl : c2 = false := d5 rfl) | skip
          clear d5
          go_wp2_with fail
          refine (AD1.out _ HP.out).mono ?_
          rintro e w2 ⟨rfl, g2⟩
          have G2 := Lib.hid g2
          clear g2
          go_wp2_with fail
          refine (RAD1.out _ G2.out).mono ?_
          rintro e w3 ⟨rfl, g3⟩
          have G3 := Lib.hid g3
          clear g3
          go_wp2_with fail
          refine (ADO.out _ G3.out).mono ?_
          rintro e w4 ⟨rfl, g4⟩
          have G4 := Lib.hid g4
          clear g4
          go_wp2_with (first | (go_at_call 33; (with_reducible refine (nan_call _).mono ?_); rintro e w' ⟨rfl, rfl⟩) | (go_at_call 30; (with_reducible refine (ADO2.out _ G4.out).mono ?_); rintro e w5 ⟨rfl, g5⟩; have G4b := Lib.hid g5; clear g5))
          refine (ADN.out _ (by first | exact G4b.out | exact G4.out)).mono ?_
          rintro e w6 ⟨rfl, g6⟩
          rw [E5.out]
          have G6 := Lib.hid g6
          clear g6
          go_wp2_with fail
          refine (ADO.out _ G6.out).mono ?_
          rintro e w7 ⟨rfl, g7⟩
          have G7 := Lib.hid g7
          clear g7
          go_wp2_with fail
          all_goals
            try
              have hA := HLE.out (by assumption)
              refine (AD1.out _ G7.out).mono ?_
              rintro e w8 ⟨rfl, g8⟩
              rw [hA]
              have G8 := Lib.hid g8
              clear g8 hA
              go_wp2_with fail
            refine (inf_call _).mono ?_
            rintro e w' ⟨rfl, rfl⟩
            go_wp2_with fail
            refine (ADI.out _ (by first | exact G8.out | exact G7.out)).mono ?_
            rintro e w9 ⟨rfl, g9⟩
            have G9 := Lib.hid g9
            clear g9
            have d4 := D4.out
            have d3 := D3.out
            try have d6 := of_decide_eq_true d3
            try have d7 := of_decide_eq_true d4
            go_wp2_with fail
            refine (TH.out _ G9.out).mono ?_
            rintro e w10 ⟨rfl, g10⟩
            have B10 := Lib.hid g10.2
            clear g10
            go_wp2_with fail
            refine (tyAwake _).mono ?_
            rintro e w11 ⟨rfl, b11⟩
            go_wp2
            go_ret
            exact ⟨rfl, B10.out.trans (b11.mono B10.out.size)⟩
    · have hkm : ¬ (k : Int) < (n : Int) := by omega
      have ht := thinkT_le xk t
      have hu := thinkT_le yk t
      have E1 := over_one _ _ ht hu
      have E2 := over_one _ _ hu ht
      have E3 := over_inf _ (thinkT yk t) ht hu
      have E5 := Lib.hid (over_none (thinkT xk t) (thinkT yk t))
      have HLE := Lib.hid (le_low f HF.out _ _ ht hu)
      have AD1 := fun W g => AD.out b b' t t W g f HF.out
      have RAD1 := Lib.hid (fun W g => RAD.out b b' t t W g f HF.out)
      have ADO := fun W g => AD.out b b' t t W g 4607182418800017408 (by omega)
      have ADO2 := fun W g => AD2.out b b' t t W g 4607182418800017408 (by omega)
      have ADN := Lib.hid (fun W g => AD.out b b' t t W g 9221120237041090561 (by omega))
      have ADI := fun W g => AD.out b b' t t W g 9218868437227405312 (by omega)
      have TH := Lib.hid (fun W g => RTH.out b b' t t W g)
      rw [E1] at ADO E5
      rw [E2] at ADO2
      rw [E3] at ADI
      generalize overB (thinkT xk t) f (thinkT yk t) = A at *
      generalize thinkT xk t = tx at *
      generalize thinkT yk t = ty at *
      have AD1 := Lib.hid AD1
      have ADO := Lib.hid ADO
      have ADO2 := Lib.hid ADO2
      have ADI := Lib.hid ADI
      clear E1 E2 E3
      have hcase : (∃ c1 c2 c3 : Bool, decide (ty < tx) = c1 ∧ decide (tx < ty) = c2 ∧ decide (0 < tx) = c3 ∧ decide ((0 : Int) < (tx : Int)) = c3 ∧ (c1 = true → c2 = false)) := ⟨_, _, _, rfl, rfl, rfl, decide_eq_decide.2 (by omega), fun h => decide_eq_false (by have := of_decide_eq_true h; omega)⟩
      obtain ⟨c1, c2, c3, d1, d2, d3, d4, d5⟩ := hcase
      have D4 := Lib.hid d4
      have D3 := Lib.hid d3
      rw [d1] at ADO E5
      rw [d2] at ADO2
      rw [d3] at ADI
      clear d1 d2 d3 d4 ht hu
      cases c1 <;> cases c3
      all_goals
        first | (obtain rfl : c2 = false := d5 rfl) | skip
        clear d5
        go_wp2_with fail
        refine (AD1.out _ HP.out).mono ?_
        rintro e w2 ⟨rfl, g2⟩
        have G2 := Lib.hid g2
        clear g2
        go_wp2_with fail
        refine (RAD1.out _ G2.out).mono ?_
        rintro e w3 ⟨rfl, g3⟩
        have G3 := Lib.hid g3
        clear g3
        go_wp2_with fail
        refine (ADO.out _ G3.out).mono ?_
        rintro e w4 ⟨rfl, g4⟩
        have G4 := Lib.hid g4
        clear g4
        go_wp2_with (first | (go_at_call 33; (with_reducible refine (nan_call _).mono ?_); rintro e w' ⟨rfl, rfl⟩) | (go_at_call 30; (with_reducible refine (ADO2.out _ G4.out).mono ?_); rintro e w5 ⟨rfl, g5⟩; have G4b := Lib.hid g5; clear g5))
        refine (ADN.out _ (by first | exact G4b.out | exact G4.out)).mono ?_
        rintro e w6 ⟨rfl, g6⟩
        rw [E5.out]
        have G6 := Lib.hid g6
        clear g6
        go_wp2_with fail
        refine (ADO.out _ G6.out).mono ?_
        rintro e w7 ⟨rfl, g7⟩
        have G7 := Lib.hid g7
        clear g7
        go_wp2_with fail
        all_goals
          try
            have hA := HLE.out (by assumption)
            refine (AD1.out _ G7.out).mono ?_
            rintro e w8 ⟨rfl, g8⟩
            rw [hA]
            have G8 := Lib.hid g8
            clear g8 hA
            go_wp2_with fail
          refine (inf_call _).mono ?_
          rintro e w' ⟨rfl, rfl⟩
          go_wp2_with fail
          refine (ADI.out _ (by first | exact G8.out | exact G7.out)).mono ?_
          rintro e w9 ⟨rfl, g9⟩
          have G9 := Lib.hid g9
          clear g9
          have d4 := D4.out
          have d3 := D3.out
          try have d6 := of_decide_eq_true d3
          try have d7 := of_decide_eq_true d4
          go_wp2_with fail
          refine (TH.out _ G9.out).mono ?_
          rintro e w10 ⟨rfl, g10⟩
          have B10 := Lib.hid g10.2
          clear g10
          go_wp2_with fail
          refine (tyAwake _).mono ?_
          rintro e w11 ⟨rfl, b11⟩
          go_wp2
          go_ret
          exact ⟨rfl, B10.out.trans (b11.mono B10.out.size)⟩

theorem tyAdmits_walkI (width sample seed : Int) (a : Option Addr) (n cp : Nat) (Z : Nat → Int) (x y m : Int) (w : World) (hw0 : 0 ≤ width) (hw1 : width ≤ 65535) (hs0 : 0 ≤ sample) (hs1 : sample ≤ 65535) (s0 : 0 ≤ seed) (s1 : seed ≤ 18446744073709551615) (x0 : 0 ≤ x) (x1 : x ≤ 18446744073709551615) (y0 : 0 ≤ y) (y1 : y ≤ 18446744073709551615) (m0 : 0 ≤ m) (m1 : m ≤ 18446744073709551615)
    (h : IntsAt .u64 w a n Z) (hc : n ≤ cp) (hm : cp ≤ 9223372036854775807) :
    Calls Try.prog 8 #[.int .u16 width, .int .u16 sample, .int .u64 seed, .slice a n cp, .int .u64 x, .int .u64 y, .int .u64 m] w fun e w' => e = .returned (.bool true) ∧ Below w.heap.size w w' := by
  obtain ⟨f, rfl⟩ : ∃ f : Nat, m = (f : Int) := ⟨m.toNat, by omega⟩
  exact tyAdmits_walk width sample seed a n cp Z x y f w hw0 hw1 hs0 hs1 s0 s1 x0 x1 y0 y1 (by omega) h hc hm

end Go.Proofs.Ytbhcpedokgdipaa
