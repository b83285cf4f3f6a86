/- The statements of chapter 20: walks. -/
import Derived.Test.YtbhcpedokgdipaaSkD
namespace Go.Proofs.Ytbhcpedokgdipaa
open Go.RowKit
set_option linter.unusedVariables false

/-- A row of acts that came in. -/
def Acts (w : World) (a : Option Addr) (n : Nat) (K Y T : Nat → Int) : Prop :=
  (∀ i, i < n → (-9223372036854775808 ≤ K i ∧ K i ≤ 9223372036854775807) ∧ (0 ≤ Y i ∧ Y i ≤ 18446744073709551615) ∧ 0 ≤ T i ∧ T i ≤ 255) ∧
  (0 < n → ∃ b off, a = some ⟨b, off, none⟩ ∧ ∀ i, i < n → w.cell? ⟨b, off + i * 3, none⟩ = some (.int .i64 (K i)) ∧ w.cell? ⟨b, off + i * 3 + 1, none⟩ = some (.int .u64 (Y i)) ∧ w.cell? ⟨b, off + i * 3 + 2, none⟩ = some (.int .u8 (T i)))

theorem pNew (w w1 : World) (N b width : Nat) (seed : Int) (h : One (fun j => j < N) w b seed width (fun _ _ => 0)) (s0 : 0 ≤ seed) (s1 : seed ≤ 18446744073709551615) (hN : N ≤ w.heap.size) :
    Calls Try.prog 13 #[.int .i64 (width : Int), .int .u64 seed] w fun e w' => e = .returned (.pointer (some ⟨w.heap.size, 0, none⟩)) ∧
      PairD (fun j => j < N) w' b w.heap.size seed width (fun _ _ => 0) (fun _ _ => 0) ∧ Below w.heap.size w w' := by
  obtain ⟨h0, ⟨g, L, W, hs, hc, hb, hg⟩⟩ := h
  exact (rNew_any w width seed hs.w1 hs.w2 s0 s1).mono fun e w' ⟨he, hr, hk⟩ => ⟨he, ⟨fun j hj => Nat.lt_of_lt_of_le (h0 j hj) hk.size, ⟨g, L, W, hs.below hk, hc, hb, hg⟩, _, hr, by omega, fun r _ => by omega⟩, hk⟩

theorem plays_walk (width seed : Int) (a : Option Addr) (n cp : Nat) (K Y T : Nat → Int) (key : Int) (w : World) (hw0 : 0 ≤ width) (hw1 : width ≤ 65535) (s0 : 0 ≤ seed) (s1 : seed ≤ 18446744073709551615) (k0 : 0 ≤ key) (k1 : key ≤ 18446744073709551615)
    (h : Acts w a n K Y T) (hc : n ≤ cp) (hm : cp ≤ 9223372036854775807) :
    Calls Try.prog 3 #[.int .u16 width, .int .u64 seed, .slice a n cp, .int .u64 key] w fun e w' => e = .returned (.bool true) ∧ Below w.heap.size w w' := by
  obtain ⟨m, hmw⟩ : ∃ m : Nat, 1 + width % 200 = (m : Int) := ⟨(1 + width % 200).toNat, by omega⟩
  have hm1 : 1 ≤ m ∧ m ≤ 4096 := by omega
  obtain ⟨pk, hpk⟩ : ∃ pk, pk = pickN seed key m := ⟨_, rfl⟩
  have C := Lib.hid (fun (F : Nat → Prop) (w : World) (b b' : Nat) (c d : Nat → Nat → Nat) (h : PairD F w b b' seed m c d) => hpk ▸ pCount h key k0 k1)
  have RC := Lib.hid (fun (F : Nat → Prop) (w : World) (b b' : Nat) (c d : Nat → Nat → Nat) (h : PairD F w b b' seed m c d) => hpk ▸ pRCount h key k0 k1)
  clear hpk
  have N := Lib.hid (oNew w m seed hm1.1 hm1.2 s0 s1)
  have HA := Lib.hid h
  clear h
  go_enter Try.func3, Try.ntmps3
  go_wp2_with fail
  refine N.out.mono ?_
  rintro e w1 ⟨rfl, h1, b1⟩
  have M := Lib.hid (pNew w1 w1 _ _ _ _ h1 s0 s1 b1.size)
  have B1 := Lib.hid b1
  clear h1 b1
  go_wp2_with fail
  refine M.out.mono ?_
  rintro e w2 ⟨rfl, h2, b2⟩
  have H2 := Lib.hid h2
  have B2 := Lib.hid (B1.out.trans (b2.mono B1.out.size))
  clear h2 b2
  go_wp2
  go_loopw [13] (fun i wr => ∃ (k : Nat) (c : Nat → Nat → Nat), k ≤ n ∧ k ≤ 30 ∧ i = .int .i64 (k : Int) ∧ PairD (fun j => j < w.heap.size) wr w.heap.size w1.heap.size seed m c c ∧ Keeps (fun j => ¬ j < w.heap.size) w wr) (fun i _ => 30 - (intOf i).toNat)
  case atStart => exact ⟨0, _, Nat.zero_le _, by omega, rfl, H2.out, (Keeps.of_below B2.out).mono (fun j _ hj => by omega)⟩
  case round =>
    obtain ⟨k, c, hkn, hk30, rfl, hP, hK⟩ := hrel
    have HP := Lib.hid hP
    have HK := Lib.hid hK
    clear hP hK
    by_cases h1 : k < n
    · by_cases h2 : k < 30
      · obtain ⟨b, off, rfl, hcc⟩ := HA.out.2 (by omega)
        obtain ⟨q0, q1, q2⟩ := hcc k h1
        obtain ⟨-, ⟨y0, y1⟩, t0, t1⟩ := HA.out.1 k h1
        have r0 := HK.out.cell q0 (fun x => x (World.block_lt_of_cell? w _ q0))
        have r1 := HK.out.cell q1 (fun x => x (World.block_lt_of_cell? w _ q1))
        have r2 := HK.out.cell q2 (fun x => x (World.block_lt_of_cell? w _ q2))
        clear q0 q1 q2 hcc
        have hkm : (k : Int) < (n : Int) := by omega
        have hk4 : (k : Int) < 30 := by omega
        have hnn : (k : Int) + 1 ≤ 9223372036854775807 := by omega
        have D := Lib.hid (do_any _ _ _ _ _ _ _ HP.out (K k) (Y k) (T k) y0 y1 t0 t1)
        clear y0 y1 t0 t1
        go_wp2_with fail
        refine D.out.mono ?_
        rintro e w3 ⟨rfl, c', h3, k3⟩
        have H3 := Lib.hid h3
        have K3 := Lib.hid k3
        clear h3 k3
        go_wp2_with fail
        refine (C.out _ _ _ _ _ _ H3.out).mono ?_
        rintro e w4 ⟨rfl, h4, k4⟩
        have H4 := Lib.hid h4
        have K4 := Lib.hid k4
        clear h4 k4
        go_wp2_with fail
        refine (RC.out _ _ _ _ _ _ H4.out).mono ?_
        rintro e w5 ⟨rfl, h5, k5⟩
        have H5 := Lib.hid h5
        have K5 := Lib.hid k5
        clear h5 k5
        go_wp2
        go_roundw
        case rel => exact ⟨k + 1, c', by omega, by omega, by simp, H5.out, ((HK.out.trans K3.out (fun n h => .inl h)).trans K4.out (fun n h => .inl h)).trans K5.out (fun n h => .inl h)⟩
        case measure => simp only [intOf]; omega
      · have hkm : (k : Int) < (n : Int) := by omega
        have hk4 : ¬ (k : Int) < 30 := by omega
        go_wp2_with fail
        refine (C.out _ _ _ _ _ _ HP.out).mono ?_
        rintro e w4 ⟨rfl, h4, k4⟩
        have H4 := Lib.hid h4
        have K4 := Lib.hid k4
        clear h4 k4
        go_wp2_with fail
        refine (RC.out _ _ _ _ _ _ H4.out).mono ?_
        rintro e w5 ⟨rfl, h5, k5⟩
        have K5 := Lib.hid ((HK.out.trans K4.out (fun n h => .inl h)).trans k5 (fun n h => .inl h))
        clear h5 k5
        go_wp2_with fail
        refine (skAwake _).mono ?_
        rintro e w6 ⟨rfl, b6⟩
        go_wp2
        go_ret
        refine ⟨rfl, ?_⟩
        have k6 := K5.out.trans (Keeps.of_below b6) (fun n h => .inr (Nat.le_trans K5.out.size h))
        exact (k6.mono (T := fun j => w.heap.size ≤ j) (fun n _ hn => by omega)).below (Nat.le_refl _)
    · have hkm : ¬ (k : Int) < (n : Int) := by omega
      go_wp2_with fail
      refine (C.out _ _ _ _ _ _ HP.out).mono ?_
      rintro e w4 ⟨rfl, h4, k4⟩
      have H4 := Lib.hid h4
      have K4 := Lib.hid k4
      clear h4 k4
      go_wp2_with fail
      refine (RC.out _ _ _ _ _ _ H4.out).mono ?_
      rintro e w5 ⟨rfl, h5, k5⟩
      have K5 := Lib.hid ((HK.out.trans K4.out (fun n h => .inl h)).trans k5 (fun n h => .inl h))
      clear h5 k5
      go_wp2_with fail
      refine (skAwake _).mono ?_
      rintro e w6 ⟨rfl, b6⟩
      go_wp2
      go_ret
      refine ⟨rfl, ?_⟩
      have k6 := K5.out.trans (Keeps.of_below b6) (fun n h => .inr (Nat.le_trans K5.out.size h))
      exact (k6.mono (T := fun j => w.heap.size ≤ j) (fun n _ hn => by omega)).below (Nat.le_refl _)

end Go.Proofs.Ytbhcpedokgdipaa
