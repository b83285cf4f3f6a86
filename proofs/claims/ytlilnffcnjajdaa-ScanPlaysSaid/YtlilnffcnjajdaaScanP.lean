/- Which reads are scans: the walk of the statement. -/
import Derived.Test.YtlilnffcnjajdaaScanC
import Derived.OpenShut
import Derived.Deep.RegionHeld3
import Derived.Deep.DeepCutAuto
namespace Go.Proofs.Ytlilnffcnjajdaa
open Go.RowKit Scan

/-- The first n reads of a row that came in. -/
def ReadsAt (w : World) (a : Option Addr) (n : Nat) (z : Nat → Int) : Prop :=
  (∀ i, i < n → -9223372036854775808 ≤ z i ∧ z i ≤ 9223372036854775807) ∧ (0 < n → ∃ b off, a = some ⟨b, off, none⟩ ∧ ∀ i, i < n → w.cell? ⟨b, off + i, none⟩ = some (.int .i64 (z i)))

theorem ReadsAt.below {w w' : World} {a : Option Addr} {n : Nat} {z : Nat → Int} (h : ReadsAt w a n z) (hb : Below w.heap.size w w') : ReadsAt w' a n z :=
  ⟨h.1, fun h0 => by
    obtain ⟨b, off, ha, hc⟩ := h.2 h0
    exact ⟨b, off, ha, fun i hi => by have := hc i hi; rw [← this]; exact hb.cell (World.block_lt_of_cell? w _ this)⟩⟩

theorem ReadsAt.less {w : World} {a : Option Addr} {n m : Nat} {z : Nat → Int} (h : ReadsAt w a n z) (hm : m ≤ n) : ReadsAt w a m z :=
  ⟨fun i hi => h.1 i (by omega), fun h0 => by
    obtain ⟨b, off, ha, hc⟩ := h.2 (by omega)
    exact ⟨b, off, ha, fun i hi => hc i (by omega)⟩⟩

theorem after_note {N : Nat} {w : World} {b : Nat} {long s0 : Int} {z : Nat → Int} {k : Nat} (h : WatchAt (fun j => N ≤ j) w b (after long s0 z k)) (hN : N ≤ w.heap.size) (hk : k < 1000) (hs : 0 ≤ s0 ∧ s0 ≤ 1000)
    (hz : ∀ i, i ≤ k → -9223372036854775808 ≤ z i ∧ z i ≤ 9223372036854775807) :
    Calls Try.prog 12 #[.pointer (some ⟨b, 0, none⟩), .int .i64 (z k)] w fun e w' => e = .returned (.bool (isN z long (k + 1))) ∧ WatchAt (fun j => N ≤ j) w' b (after long s0 z (k + 1)) ∧ Keeps (fun j => N ≤ j) w w' := by
  have h1 := rowN_le z k
  have h2 := scansN_le z long k
  refine note_own h hN (z k) ?_ ?_ ?_ (isB_after long s0 z k (hz k (Nat.le_refl _)).2) (note_after long s0 z k (hz k (Nat.le_refl _)).2)
  · intro v hv
    simp only [after] at hv
    split at hv
    · cases hv
    · injection hv with hv; subst hv; exact hz (k - 1) (by omega)
  · show 0 ≤ (rowN z k : Int) ∧ (rowN z k : Int) < _; omega
  · show 0 ≤ s0 + (scansN z long k : Int) ∧ s0 + (scansN z long k : Int) < _; omega

theorem after_row {S : Nat → Prop} {w : World} {b : Nat} {long s0 : Int} {z : Nat → Int} {k : Nat} (h : WatchAt S w b (after long s0 z k)) :
    Calls Try.prog 14 #[.pointer (some ⟨b, 0, none⟩)] w fun e w' => e = .returned (.int .i64 (rowN z k)) ∧ w = w' := sRow_any h

theorem after_scans {S : Nat → Prop} {w : World} {b : Nat} {long s0 : Int} {z : Nat → Int} {k : Nat} (h : WatchAt S w b (after long s0 z k)) :
    Calls Try.prog 16 #[.pointer (some ⟨b, 0, none⟩)] w fun e w' => e = .returned (.int .i64 (s0 + scansN z long k)) ∧ w = w' := sScans_any h

set_option maxRecDepth 100000 in
set_option maxHeartbeats 6400000 in
theorem plays_walk (a0 : Int) (h0 : 0 ≤ a0 ∧ a0 ≤ 255) (a1 : Option Addr) (n1 c1 : Nat) (z1 : Nat → Int) (a2 : Option Addr) (n2 c2 : Nat) (z2 : Nat → Int) (w : World) (r1 : ReadsAt w a1 n1 z1) (r2 : ReadsAt w a2 n2 z2) (hc1 : n1 ≤ c1) (hc2 : n2 ≤ c2)
    (hm1 : c1 ≤ 9223372036854775807) (hm2 : c2 ≤ 9223372036854775807) :
    Calls Try.prog 3 #[.int .u8 a0, .slice a1 n1 c1, .slice a2 n2 c2] w fun e w' => e = .returned (.bool true) ∧ Below w.heap.size w w' := by
  have R1 := Lib.hid r1
  have R2 := Lib.hid r2
  clear r1 r2
  go_enter Try.func3, Try.ntmps3
  go_wp2_with fail
  refine (sNew_yes _ w (by omega) (by omega)).mono ?_
  rintro e w0 ⟨rfl, rfl⟩
  go_upto_if 29 with fail
  go_cut [1] (fun s wx => ∃ m : Nat, m ≤ n1 ∧ m ≤ 40 ∧ m ≤ c1 ∧ s = .slice a1 m c1 ∧ wx = w.alloc (.cells #[.bool true, .int .i64 (a0 % 12), .pointer none, .int .i64 0, .int .i64 0] 36))
  case first =>
    by_cases h : n1 ≤ 40
    · go_wp2_with fail
      go_meet
      exact ⟨n1, Nat.le_refl _, h, hc1, rfl, rfl⟩
    · have h4 : 40 < n1 := by omega
      have h5 : 40 ≤ c1 := by omega
      go_wp2_with fail
      go_meet
      exact ⟨40, by omega, by omega, by omega, rfl, rfl⟩
  case rest =>
    obtain ⟨m, hm1, hm40, hmc, rfl, rfl⟩ := hcut
    have hw0 := watch_new (fun k => w.heap.size ≤ k) w (a0 % 12) (Nat.le_refl _)
    have k0 := (Keeps.refl (fun k => w.heap.size ≤ k) w).alloc (.cells #[.bool true, .int .i64 (a0 % 12), .pointer none, .int .i64 0, .int .i64 0] 36)
    have hl0 : 0 ≤ a0 % 12 ∧ a0 % 12 < 12 := by omega
    have hlt := hl0.2
    have hge := hl0.1
    clear hl0
    generalize w.alloc (.cells #[.bool true, .int .i64 (a0 % 12), .pointer none, .int .i64 0, .int .i64 0] 36) = w0 at *
    have HW0 := Lib.hid hw0
    have K0 := Lib.hid k0
    clear hw0 k0
    go_wp2_with fail
    go_loopw [10] (fun i wr => ∃ k : Nat, k ≤ m ∧ i = .int .i64 k ∧ WatchAt (fun j => w.heap.size ≤ j) wr w.heap.size (after (a0 % 12) 0 z1 k) ∧ Keeps (fun j => w.heap.size ≤ j) w wr) (fun i _ => m - (intOf i).toNat)
    case atStart => exact ⟨0, Nat.zero_le _, rfl, HW0.out, K0.out⟩
    case round =>
      obtain ⟨k, hkm, rfl, hw, hk⟩ := hrel
      by_cases hlk : k < m
      · have hz := (R1.out).1
        obtain ⟨b, off, hab, hcs⟩ := (R1.out).2 (by omega)
        subst hab
        have hcw : ∀ i, i < n1 → wr.cell? ⟨b, off + i, none⟩ = some (.int .i64 (z1 i)) := fun i hi => hk.old (hcs i hi)
        have hck := hcw k (by omega)
        have g1 := after_note (w := wr.drew) (k := k) hw hk.drew.size (by omega) (by omega) (fun i hi => hz i (by omega))
        have gR : ∀ (W : World), Keeps (fun j => w.heap.size ≤ j) w W → Calls Try.prog 15 #[.slice (some ⟨b, off, none⟩) (k + 1) c1] W fun e w' => e = .returned (.int .i64 (rowN z1 (k + 1))) ∧ ∃ m, w' = W.drewN m := fun W hW =>
          rRow_any b off (k + 1) c1 z1 W (by omega) (by omega) (fun i hi => hz i (by omega)) (fun i hi => hW.old (hcs i (by omega)))
        have gI : ∀ (W : World), Keeps (fun j => w.heap.size ≤ j) w W → Calls Try.prog 13 #[.slice (some ⟨b, off, none⟩) (k + 1) c1, .int .i64 (a0 % 12)] W fun e w' => e = .returned (.bool (isN z1 (a0 % 12) (k + 1))) ∧ ∃ m, w' = W.drewN m := fun W hW =>
          rIs_any b off (k + 1) c1 (a0 % 12) z1 W (by omega) (by omega) (fun i hi => hz i (by omega)) (fun i hi => hW.old (hcs i (by omega)))
        have gS : ∀ (W : World), Keeps (fun j => w.heap.size ≤ j) w W → Calls Try.prog 17 #[.slice (some ⟨b, off, none⟩) (k + 1) c1, .int .i64 (a0 % 12)] W fun e w' => e = .returned (.int .i64 (scansN z1 (a0 % 12) (k + 1))) ∧ ∃ m, w' = W.drewN m := fun W hW =>
          rScans_any _ (k + 1) c1 (a0 % 12) z1 W (by omega) (by omega) (fun i hi => hz i (by omega)) (fun _ => ⟨b, off, rfl, fun i hi => hW.old (hcs i (by omega))⟩)
        have hs1 := scansN_le z1 (a0 % 12) (k + 1)
        have hO : ∀ W, Keeps (fun j => w.heap.size ≤ j) w W → W.cell? ⟨b, off + k, none⟩ = some (.int .i64 (z1 k)) := fun W hW => hW.old (hcs k (by omega))
        have HO := Lib.hid hO
        have HK := Lib.hid hk.drew
        clear hO
        have GR := Lib.hid gR
        have GI := Lib.hid gI
        have GS := Lib.hid gS
        have G1 := Lib.hid g1
        have kb : (k : Int) + 1 ≤ c1 := by omega
        have kw : IntKind.i64.wrap ((k : Int) + 1) = (k : Int) + 1 := IntWalk.i64_in _ (by omega)
        have kt : ((k : Int) + 1).toNat = k + 1 := by omega
        have kz : (0 : Int) ≤ (k : Int) + 1 := by omega
        have kn : (k : Int) < m := by omega
        clear hz hcs hcw hw hk gR gI gS g1
        go_wp2_with fail
        go_region_held3 (fun w' => w'.cell? ⟨b, off + k, none⟩ = some (.int .i64 (z1 k))) (first | go_keep | exact c1 | exact HO.out _ HK.out) (first | (go_at_call 12; (with_reducible refine (G1.out).mono ?_); rintro e w1 ⟨rfl, h1, k1⟩; have q1 := (HK.out).trans k1 (fun n hn => .inl hn); have c1 := HO.out _ q1; clear k1) | (go_at_call 13; (with_reducible refine (GI.out _ (by first | exact q1 | exact q1.drewN _)).mono ?_); rintro e w2 ⟨rfl, m2, rfl⟩) | (go_at_call 14; (with_reducible refine (after_row (h1.drewN _)).mono ?_); rintro e w2 ⟨rfl, rfl⟩) | (go_at_call 15; (with_reducible refine (GR.out _ (q1.drewN _)).mono ?_); rintro e w2 ⟨rfl, m3, rfl⟩) | (go_at_call 16; (with_reducible refine (after_scans (h1.drewN _)).mono ?_); rintro e w2 ⟨rfl, rfl⟩) | (go_at_call 17; (with_reducible refine (GS.out _ (q1.drewN _)).mono ?_); rintro e w2 ⟨rfl, m4, rfl⟩))

        all_goals
          go_wp2
          go_roundw
          case rel => exact ⟨k + 1, by omega, by go_num, h1, by first | exact q1 | exact q1.drewN _⟩
          case measure => simp [intOf]; omega
      · have hkk : k = m := by omega
        subst hkk
        have gS := fun (W : World) (hW : Keeps (fun j => w.heap.size ≤ j) w W) => rScans_any a1 k c1 (a0 % 12) z1 W (by omega) (by omega) (fun i hi => (R1.out).1 i (by omega)) (fun h0 => by
          obtain ⟨b, off, hab, hcs⟩ := (R1.out).2 (by omega)
          exact ⟨b, off, hab, fun i hi => hW.old (hcs i (by omega))⟩)
        have hs1 := scansN_le z1 (a0 % 12) k
        have GS := Lib.hid gS
        have HK := Lib.hid hk
        have HW := Lib.hid hw
        clear gS hk hw
        go_wp2_with fail
        refine (sReset_any HW.out).mono ?_
        rintro e w1 ⟨rfl, h1, k1⟩
        have q1 := (HK.out).trans k1 (fun n hn => .inl hn)
        go_wp2_with fail
        refine (sRow_any h1).mono ?_
        rintro e w2 ⟨rfl, rfl⟩
        go_wp2_with fail
        refine (GS.out _ q1).mono ?_
        rintro e w2 ⟨rfl, m2, rfl⟩
        have h2 : WatchAt (fun j => w.heap.size ≤ j) (w1.drewN m2) w.heap.size (after (a0 % 12) (scansN z1 (a0 % 12) k) z2 0) := by
          have hx : ({ after (a0 % 12) 0 z1 k with row := 0, last := none } : Wt) = after (a0 % 12) (scansN z1 (a0 % 12) k) z2 0 := by
            simp only [after, rowN, scansN]; congr 1; omega
          rw [← hx]; exact h1
        have H2 := Lib.hid h2
        have Q2 := Lib.hid (q1.drewN m2)
        clear h1 k1 q1 h2
        generalize w1.drewN m2 = w2 at *
        go_wp2_with fail
        go_loopw [12] (fun i wr => ∃ k2 : Nat, k2 ≤ n2 ∧ k2 ≤ 40 ∧ i = .int .i64 k2 ∧ WatchAt (fun j => w.heap.size ≤ j) wr w.heap.size (after (a0 % 12) (scansN z1 (a0 % 12) k) z2 k2) ∧ Keeps (fun j => w.heap.size ≤ j) w wr) (fun i _ => n2 - (intOf i).toNat)
        case atStart => exact ⟨0, Nat.zero_le _, by omega, rfl, H2.out, Q2.out⟩
        case round =>
          obtain ⟨k2, hkm2, hk40, rfl, hw, hk⟩ := hrel
          by_cases hlk2 : k2 < n2 ∧ k2 < 40
          · obtain ⟨hlk, hlk40⟩ := hlk2
            have hz := (R2.out).1
            obtain ⟨b, off, hab, hcs⟩ := (R2.out).2 (by omega)
            subst hab
            have hcw : ∀ i, i < n2 → wr.cell? ⟨b, off + i, none⟩ = some (.int .i64 (z2 i)) := fun i hi => hk.old (hcs i hi)
            have hck := hcw k2 (by omega)
            have g1 := after_note (w := wr.drew) (k := k2) hw hk.drew.size (by omega) (by omega) (fun i hi => hz i (by omega))
            have gR : ∀ (W : World), Keeps (fun j => w.heap.size ≤ j) w W → Calls Try.prog 15 #[.slice (some ⟨b, off, none⟩) (k2 + 1) c2] W fun e w' => e = .returned (.int .i64 (rowN z2 (k2 + 1))) ∧ ∃ m, w' = W.drewN m := fun W hW =>
              rRow_any b off (k2 + 1) c2 z2 W (by omega) (by omega) (fun i hi => hz i (by omega)) (fun i hi => hW.old (hcs i (by omega)))
            have gI : ∀ (W : World), Keeps (fun j => w.heap.size ≤ j) w W → Calls Try.prog 13 #[.slice (some ⟨b, off, none⟩) (k2 + 1) c2, .int .i64 (a0 % 12)] W fun e w' => e = .returned (.bool (isN z2 (a0 % 12) (k2 + 1))) ∧ ∃ m, w' = W.drewN m := fun W hW =>
              rIs_any b off (k2 + 1) c2 (a0 % 12) z2 W (by omega) (by omega) (fun i hi => hz i (by omega)) (fun i hi => hW.old (hcs i (by omega)))
            have gS : ∀ (W : World), Keeps (fun j => w.heap.size ≤ j) w W → Calls Try.prog 17 #[.slice (some ⟨b, off, none⟩) (k2 + 1) c2, .int .i64 (a0 % 12)] W fun e w' => e = .returned (.int .i64 (scansN z2 (a0 % 12) (k2 + 1))) ∧ ∃ m, w' = W.drewN m := fun W hW =>
              rScans_any _ (k2 + 1) c2 (a0 % 12) z2 W (by omega) (by omega) (fun i hi => hz i (by omega)) (fun _ => ⟨b, off, rfl, fun i hi => hW.old (hcs i (by omega))⟩)
            have hs1 := scansN_le z2 (a0 % 12) (k2 + 1)
            have hO : ∀ W, Keeps (fun j => w.heap.size ≤ j) w W → W.cell? ⟨b, off + k2, none⟩ = some (.int .i64 (z2 k2)) := fun W hW => hW.old (hcs k2 (by omega))
            have HO := Lib.hid hO
            have HK := Lib.hid hk.drew
            clear hO
            have GR := Lib.hid gR
            have GI := Lib.hid gI
            have GS := Lib.hid gS
            have G1 := Lib.hid g1
            have kb : (k2 : Int) + 1 ≤ c2 := by omega
            have kw : IntKind.i64.wrap ((k2 : Int) + 1) = (k2 : Int) + 1 := IntWalk.i64_in _ (by omega)
            have kt : ((k2 : Int) + 1).toNat = k2 + 1 := by omega
            have kz : (0 : Int) ≤ (k2 : Int) + 1 := by omega
            have kv : IntKind.i64.wrap ((scansN z1 (a0 % 12) k : Int) + (scansN z2 (a0 % 12) (k2 + 1) : Int)) = (scansN z1 (a0 % 12) k : Int) + (scansN z2 (a0 % 12) (k2 + 1) : Int) := IntWalk.i64_in _ (by omega)
            have kn : (k2 : Int) < n2 := by omega
            clear hz hcs hcw hw hk gR gI gS g1
            go_wp2_with fail
            go_region_held3 (fun w' => w'.cell? ⟨b, off + k2, none⟩ = some (.int .i64 (z2 k2))) (first | go_keep | exact c1 | exact HO.out _ HK.out) (first | (go_at_call 12; (with_reducible refine (G1.out).mono ?_); rintro e w1 ⟨rfl, h1, k1⟩; have q1 := (HK.out).trans k1 (fun n hn => .inl hn); have c1 := HO.out _ q1; clear k1) | (go_at_call 13; (with_reducible refine (GI.out _ (by first | exact q1 | exact q1.drewN _)).mono ?_); rintro e w2 ⟨rfl, m2, rfl⟩) | (go_at_call 14; (with_reducible refine (after_row (h1.drewN _)).mono ?_); rintro e w2 ⟨rfl, rfl⟩) | (go_at_call 15; (with_reducible refine (GR.out _ (q1.drewN _)).mono ?_); rintro e w2 ⟨rfl, m3, rfl⟩) | (go_at_call 16; (with_reducible refine (after_scans (h1.drewN _)).mono ?_); rintro e w2 ⟨rfl, rfl⟩) | (go_at_call 17; (with_reducible refine (GS.out _ (q1.drewN _)).mono ?_); rintro e w2 ⟨rfl, m4, rfl⟩))
            all_goals
              go_wp2
              refine ⟨⟨k2 + 1, by omega, by omega, by go_num, h1, by first | exact q1 | exact q1.drewN _⟩, by simp [intOf]; omega⟩
          · have HK := Lib.hid hk
            clear hw hk
            by_cases hx : k2 < n2
            · have hx2 : ¬ k2 < 40 := fun h => hlk2 ⟨hx, h⟩
              clear hlk2
              go_wp2_with fail
              refine (sAwake _).mono ?_
              rintro e w6 ⟨rfl, k6⟩
              go_wp2
              go_ret
              exact ⟨rfl, ((HK.out).trans k6 (fun n hn => .inr (Nat.le_trans (HK.out).size hn))).below (Nat.le_refl _)⟩
            · clear hlk2
              go_wp2_with fail
              refine (sAwake _).mono ?_
              rintro e w6 ⟨rfl, k6⟩
              go_wp2
              go_ret
              exact ⟨rfl, ((HK.out).trans k6 (fun n hn => .inr (Nat.le_trans (HK.out).size hn))).below (Nat.le_refl _)⟩

end Go.Proofs.Ytlilnffcnjajdaa
