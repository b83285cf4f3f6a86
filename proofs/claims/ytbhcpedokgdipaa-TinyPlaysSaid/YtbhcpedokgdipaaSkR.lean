/- The sketch of the document: walks. -/
import Derived.Test.YtbhcpedokgdipaaSkX
namespace Go.Proofs.Ytbhcpedokgdipaa
open Go.RowKit
set_option linter.unusedVariables false

/-- A row of numbers. -/
def nm (c : Nat → Nat) (i : Nat) : Value := .int .i64 (c i : Int)

/-- The document's sketch. -/
structure RSk (w : World) (b : Nat) (g : Nat → Nat) (seed : Int) (width : Nat) (c : Nat → Nat → Nat) : Prop where
  top : Arr w b 88 6 (topF g seed width width)
  row : ∀ r, r < 4 → Arr w (g r) 3 width (nm (c r))
  inj : ∀ r s, r < 4 → s < 4 → g r = g s → r = s
  cap : ∀ r i, c r i ≤ 15
  w1 : 1 ≤ width
  w2 : width ≤ 4096
  s0 : 0 ≤ seed
  s1 : seed ≤ 18446744073709551615

theorem RSk.keep {S : Nat → Prop} {w w' : World} {b : Nat} {g : Nat → Nat} {seed : Int} {width : Nat} {c : Nat → Nat → Nat} (h : RSk w b g seed width c) (k : Keeps S w w') (hb : ¬ S b) (hg : ∀ r, r < 4 → ¬ S (g r)) : RSk w' b g seed width c :=
  { h with top := h.top.keep k hb, row := fun r hr => (h.row r hr).keep k (hg r hr) }
theorem RSk.drewN {w : World} {b : Nat} {g : Nat → Nat} {seed : Int} {width : Nat} {c : Nat → Nat → Nat} (h : RSk w b g seed width c) (n : Nat) : RSk (w.drewN n) b g seed width c := { h with top := h.top, row := h.row }

theorem rPickN (seed key : Int) (width k : Nat) (s0 : 0 ≤ seed) (s1 : seed ≤ 18446744073709551615) (k0 : 0 ≤ key) (k1 : key ≤ 18446744073709551615) (hk : k < 4) (h1 : 1 ≤ width) (h2 : width ≤ 4096) (w : World) :
    Calls Try.prog 57 #[.int .u64 seed, .int .u64 key, .int .i64 (k : Int), .int .i64 (width : Int)] w fun e w' => e = .returned (.int .i64 (pickN seed key width k : Int)) ∧ w' = w :=
  (rPick_any seed key (k : Int) (width : Int) s0 s1 k0 k1 (by omega) (by omega) (by omega) (by omega) w).mono fun e w' ⟨he, hw⟩ => ⟨by rw [he, pickN_int seed key width k h1], hw.symm⟩

/-- What is told of the four places of a key: the numbers themselves are left open. -/
structure Pk (seed key : Int) (width : Nat) (pk : Nat → Nat) : Prop where
  call : ∀ k : Nat, k < 4 → ∀ w, Calls Try.prog 57 #[.int .u64 seed, .int .u64 key, .int .i64 (k : Int), .int .i64 (width : Int)] w fun e w' => e = .returned (.int .i64 (pk k : Int)) ∧ w' = w
  lt : ∀ k : Nat, pk k < width

theorem pk_of {w : World} {b : Nat} {g : Nat → Nat} {seed : Int} {width : Nat} {c : Nat → Nat → Nat} (h : RSk w b g seed width c) (key : Int) (k0 : 0 ≤ key) (k1 : key ≤ 18446744073709551615) : Pk seed key width (pickN seed key width) :=
  ⟨fun k hk w => rPickN seed key width k h.s0 h.s1 k0 k1 hk h.w1 h.w2 w, fun k => pickN_lt seed key width k h.w1⟩

theorem rCount_pk {w : World} {b : Nat} {g : Nat → Nat} {seed : Int} {width : Nat} {c : Nat → Nat → Nat} (h : RSk w b g seed width c) (key : Int) (pk : Nat → Nat) (P : Pk seed key width pk) :
    Calls Try.prog 16 #[.pointer (some ⟨b, 0, none⟩), .int .u64 key] w fun e w' => e = .returned (.int .i64 (least (fun r => c r (pk r)) 4 : Int)) ∧ ∃ n, w' = w.drewN n := by
  have c0 : w.cell? ⟨b, 0, none⟩ = some (.int .u64 seed) := h.top.cell (i := 0) (by omega)
  have c1 : w.cell? ⟨b, 1, none⟩ = some (.int .i64 (width : Int)) := h.top.cell (i := 1) (by omega)
  have H := Lib.hid h
  clear h
  go_enter Try.func16, Try.ntmps16
  go_wp2
  go_loopw [5, 6] (fun n i wr => ∃ k m : Nat, k ≤ 4 ∧ i = .int .i64 (k : Int) ∧ n = .int .i64 (least (fun r => c r (pk r)) k : Int) ∧ wr = w.drewN m) (fun _ i _ => 4 - (intOf i).toNat)
  case atStart => exact ⟨0, 0, Nat.zero_le _, rfl, rfl, rfl⟩
  case round =>
    obtain ⟨k, m, hk, rfl, rfl, hwr⟩ := hrel
    have HW := Lib.hid hwr
    by_cases hk4 : k < 4
    · have h1 : (k : Int) < 4 := by omega
      have d0 : wr.cell? ⟨b, 0, none⟩ = some (.int .u64 seed) := by rw [hwr]; exact c0
      have d1 : wr.cell? ⟨b, 1, none⟩ = some (.int .i64 (width : Int)) := by rw [hwr]; exact c1
      have hrow : wr.cell? ⟨b, 2 + k, none⟩ = some (.slice (some ⟨g k, 0, none⟩) width width) := by
        rw [hwr, show 2 + k = k + 2 by omega]; exact H.out.top.cell (i := k + 2) (by omega)
      have hlt := P.lt k
      have hcel : wr.cell? ⟨g k, pk k, none⟩ = some (.int .i64 (c k (pk k) : Int)) := by
        rw [hwr]; exact (H.out.row k hk4).cell hlt
      clear hwr
      have hlt' : ((pk k : Nat) : Int) < (width : Int) := by omega
      have hmin : (if c k (pk k) < least (fun r => c r (pk r)) k then ((c k (pk k) : Nat) : Int) else ((least (fun r => c r (pk r)) k : Nat) : Int)) = ((least (fun r => c r (pk r)) (k + 1) : Nat) : Int) := by
        simp only [least]; split <;> omega
      have HM := Lib.hid hmin
      have PK := Lib.hid (P.call k hk4)
      clear hmin hlt
      go_wp2_with fail
      go_quiet ((go_at_call 57; exact Calls.quiet_of_same (PK.out _)))
      all_goals
        go_wp2
        refine ⟨⟨k + 1, m + nq, by omega, by simp, by rw [HM.out], by rw [HW.out, World.drewN_drewN]⟩, ?_⟩
        simp only [intOf]; omega
    · have h1 : ¬ (k : Int) < 4 := by omega
      obtain rfl : k = 4 := by omega
      obtain rfl := hwr
      clear HW
      go_wp2
      go_ret
      exact ⟨rfl, m, rfl⟩

theorem rCount_any {w : World} {b : Nat} {g : Nat → Nat} {seed : Int} {width : Nat} {c : Nat → Nat → Nat} (h : RSk w b g seed width c) (key : Int) (k0 : 0 ≤ key) (k1 : key ≤ 18446744073709551615) :
    Calls Try.prog 16 #[.pointer (some ⟨b, 0, none⟩), .int .u64 key] w fun e w' => e = .returned (.int .i64 (least (fun r => c r (pickN seed key width r)) 4 : Int)) ∧ ∃ n, w' = w.drewN n :=
  rCount_pk h key _ (pk_of h key k0 k1)

theorem RSk.setRow {w w' : World} {b : Nat} {g : Nat → Nat} {seed : Int} {width : Nat} {c : Nat → Nat → Nat} (h : RSk w b g seed width c) {k : Nat} {d : Nat → Nat} (hk : k < 4) (ha : Arr w' (g k) 3 width (nm d)) (kp : Keeps (fun j => j = g k) w w') (hv : ∀ q, d q ≤ 15) :
    RSk w' b g seed width (fun r => if r = k then d else c r) where
  top := h.top.keep kp (fun e => (h.top.ne (h.row k hk) (by decide)) e)
  row := fun r hr => by
    by_cases e : r = k
    · subst e; simpa using ha
    · simp only [e, if_false]; exact (h.row r hr).keep kp (fun e' => e (h.inj r k hr hk e'))
  inj := h.inj
  cap := fun r q => by
    by_cases e : r = k
    · subst e; simpa using hv q
    · simp only [e, if_false]; exact h.cap r q
  w1 := h.w1
  w2 := h.w2
  s0 := h.s0
  s1 := h.s1

theorem RSk.congr {w : World} {b : Nat} {g : Nat → Nat} {seed : Int} {width : Nat} {c d : Nat → Nat → Nat} (h : RSk w b g seed width c) (e : ∀ r, c r = d r) : RSk w b g seed width d := by
  have : c = d := funext e
  rw [← this]; exact h

/-- The counters behind one more at each of a key's places, in the first k rows. -/
def addC (c : Nat → Nat → Nat) (pk : Nat → Nat) (k : Nat) : Nat → Nat → Nat := fun r => if r < k then (fun i => if i = pk r then min (c r i + 1) 15 else c r i) else c r

theorem rAdd_pk {w : World} {b : Nat} {g : Nat → Nat} {seed : Int} {width : Nat} {c : Nat → Nat → Nat} (h : RSk w b g seed width c) (key : Int) (pk : Nat → Nat) (P : Pk seed key width pk) :
    Calls Try.prog 50 #[.pointer (some ⟨b, 0, none⟩), .int .u64 key] w fun e w' => e = .returned (.int .i64 (least (fun r => addC c pk 4 r (pk r)) 4 : Int)) ∧
      RSk w' b g seed width (addC c pk 4) ∧ Keeps (rowsOf g) w w' := by
  have c0 : w.cell? ⟨b, 0, none⟩ = some (.int .u64 seed) := h.top.cell (i := 0) (by omega)
  have c1 : w.cell? ⟨b, 1, none⟩ = some (.int .i64 (width : Int)) := h.top.cell (i := 1) (by omega)
  have H := Lib.hid h
  clear h
  go_enter Try.func50, Try.ntmps50
  go_wp2
  go_loopw [5] (fun i wr => ∃ k : Nat, k ≤ 4 ∧ i = .int .i64 (k : Int) ∧ RSk wr b g seed width (addC c pk k) ∧ Keeps (rowsOf g) w wr) (fun i _ => 4 - (intOf i).toNat)
  case atStart => exact ⟨0, Nat.zero_le _, rfl, H.out.congr (fun r => by simp [addC]), Keeps.refl _ _⟩
  case round =>
    obtain ⟨k, hk, rfl, hsk, hkp⟩ := hrel
    have HS := Lib.hid hsk
    have HK := Lib.hid hkp
    clear hsk hkp
    by_cases hk4 : k < 4
    · have h1 : (k : Int) < 4 := by omega
      have d0 : wr.cell? ⟨b, 0, none⟩ = some (.int .u64 seed) := HS.out.top.cell (i := 0) (by omega)
      have d1 : wr.cell? ⟨b, 1, none⟩ = some (.int .i64 (width : Int)) := HS.out.top.cell (i := 1) (by omega)
      have hrow : wr.cell? ⟨b, 2 + k, none⟩ = some (.slice (some ⟨g k, 0, none⟩) width width) := by
        rw [show 2 + k = k + 2 by omega]; exact HS.out.top.cell (i := k + 2) (by omega)
      have hlt := P.lt k
      have hlt' : ((pk k : Nat) : Int) < (width : Int) := by omega
      have hck : addC c pk k k = c k := by simp [addC]
      have hcel : wr.cell? ⟨g k, pk k, none⟩ = some (.int .i64 (c k (pk k) : Int)) := by
        have := (HS.out.row k hk4).cell hlt
        rw [hck] at this; exact this
      have hfr := (HS.out.row k hk4).free (pk k)
      have hcap := H.out.cap k (pk k)
      have PK := Lib.hid (P.call k hk4)
      generalize hcv : c k (pk k) = cv at *
      have HCV := Lib.hid hcv
      have HCK := Lib.hid hck
      clear hlt hcv hck
      go_wp2_with fail
      go_quiet ((go_at_call 57; exact Calls.quiet_of_same (PK.out _)))
      go_wp2_with fail
      go_region
      all_goals
        go_wp2
        have E : (if (15 : Int) < (cv : Int) + 1 then (15 : Int) else (cv : Int) + 1) = ((min (cv + 1) 15 : Nat) : Int) := by split <;> omega
        rw [E]
        have ha : Arr (wr.setCell ⟨g k, pk k, none⟩ (.int .i64 ((min (cv + 1) 15 : Nat) : Int))) (g k) 3 width (nm (fun i => if i = pk k then min (c k i + 1) 15 else c k i)) := by
          refine ((HS.out.row k hk4).set (pk k) _).congr (fun i hi => ?_)
          rw [HCK.out]
          unfold nm
          by_cases e : i = pk k
          · subst e; simp [HCV.out]
          · simp [e]
        have hkq := (Keeps.refl (fun j => j = g k) wr).setCell (p := ⟨g k, pk k, none⟩) (.inl rfl) (.int .i64 ((min (cv + 1) 15 : Nat) : Int))
        refine ⟨⟨k + 1, by omega, by simp, (RSk.drewN ((HS.out.setRow hk4 ha hkq (fun q => ?_)).congr (fun r => ?_)) _), (HK.out.trans hkq (fun n hn => .inl ⟨k, hk4, hn⟩)).drewN _⟩, ?_⟩
        · by_cases e : q = pk k
          · simp only [e, if_true]; omega
          · simp only [e, if_false]; exact H.out.cap k q
        · unfold addC
          by_cases e : r = k
          · subst e; simp
          · by_cases e2 : r < k
            · simp [e, e2, show r < k + 1 by omega]
            · simp [e, e2, show ¬ r < k + 1 by omega]
        · simp only [intOf]; omega
    · have h1 : ¬ (k : Int) < 4 := by omega
      obtain rfl : k = 4 := by omega
      have C := Lib.hid (rCount_pk HS.out key pk P)
      go_wp2_with fail
      refine C.out.mono ?_
      rintro e w2 ⟨rfl, n, rfl⟩
      go_wp2
      go_ret
      exact ⟨rfl, HS.out.drewN n, HK.out.drewN n⟩

theorem rAdd_any {w : World} {b : Nat} {g : Nat → Nat} {seed : Int} {width : Nat} {c : Nat → Nat → Nat} (h : RSk w b g seed width c) (key : Int) (k0 : 0 ≤ key) (k1 : key ≤ 18446744073709551615) :
    Calls Try.prog 50 #[.pointer (some ⟨b, 0, none⟩), .int .u64 key] w fun e w' => e = .returned (.int .i64 (least (fun r => addC c (pickN seed key width) 4 r (pickN seed key width r)) 4 : Int)) ∧
      RSk w' b g seed width (addC c (pickN seed key width) 4) ∧ Keeps (rowsOf g) w w' :=
  rAdd_pk h key _ (pk_of h key k0 k1)

theorem rSum_any {w : World} {b : Nat} {g : Nat → Nat} {seed : Int} {width : Nat} {c : Nat → Nat → Nat} (h : RSk w b g seed width c) :
    Calls Try.prog 53 #[.pointer (some ⟨b, 0, none⟩)] w fun e w' => e = .returned (.int .i64 (sumN (fun r => sumN (fun i => c r i) width) 4 : Int)) ∧ w' = w := by
  have c1 : w.cell? ⟨b, 1, none⟩ = some (.int .i64 (width : Int)) := h.top.cell (i := 1) (by omega)
  have H := Lib.hid h
  clear h
  go_enter Try.func53, Try.ntmps53
  go_wp2
  go_loopw [3, 4] (fun n i wr => ∃ k : Nat, k ≤ 4 ∧ i = .int .i64 (k : Int) ∧ n = .int .i64 (sumN (fun r => sumN (fun i => c r i) width) k : Int) ∧ wr = w) (fun _ i _ => 4 - (intOf i).toNat)
  case atStart => exact ⟨0, Nat.zero_le _, rfl, rfl, rfl⟩
  case round =>
    obtain ⟨k, hk, rfl, rfl, rfl⟩ := hrel
    by_cases hk4 : k < 4
    · have h1 : (k : Int) < 4 := by omega
      have hSk := H.out.row k hk4
      have hrow : wr.cell? ⟨b, 2 + k, none⟩ = some (.slice (some ⟨g k, 0, none⟩) width width) := by
        rw [show 2 + k = k + 2 by omega]; exact H.out.top.cell (i := k + 2) (by omega)
      have hw2 := H.out.w2
      have hbd : sumN (fun r => sumN (fun i => c r i) width) k ≤ 61440 * k := sumN_le k (fun r hr => by
        have := sumN_le (c := fun i => c r i) (m := 15) width (fun i hi => H.out.cap r i)
        omega)
      generalize hS : sumN (fun r => sumN (fun i => c r i) width) k = S at *
      have hSe : sumN (fun r => sumN (fun i => c r i) width) (k + 1) = S + sumN (fun i => c k i) width := by rw [← hS]; rfl
      have HSE := Lib.hid hSe
      clear hSe hS
      go_wp2
      go_loopw [3, 5] (fun n i wr' => ∃ j : Nat, j ≤ width ∧ i = .int .i64 (j : Int) ∧ n = .int .i64 ((S + sumN (fun i => c k i) j : Nat) : Int) ∧ wr' = wr) (fun _ i _ => width - (intOf i).toNat)
      case atStart => exact ⟨0, Nat.zero_le _, rfl, rfl, rfl⟩
      case round =>
        obtain ⟨j, hj, rfl, rfl, rfl⟩ := hrel
        by_cases hjw : j < width
        · have h2 : (j : Int) < (width : Int) := by omega
          have h3 := sumN_le (c := fun i => c k i) (m := 15) j (fun i hi => H.out.cap k i)
          have h4 := H.out.cap k j
          have h5 : (j : Int) + 1 ≤ 9223372036854775807 := by omega
          have hcel : wr.cell? ⟨g k, j, none⟩ = some (.int .i64 (c k j : Int)) := hSk.cell hjw
          have hse : sumN (fun i => c k i) (j + 1) = sumN (fun i => c k i) j + c k j := rfl
          go_wp2
          go_roundw
          case rel => refine ⟨j + 1, by omega, by simp, ?_⟩; rw [hse]; simp; omega
          case measure => simp only [intOf]; omega
        · have h2 : ¬ (j : Int) < (width : Int) := by omega
          obtain rfl : j = width := by omega
          go_wp2
          go_roundw
          case rel => refine ⟨k + 1, by omega, by simp, ?_⟩; rw [HSE.out]; simp
          case measure => simp only [intOf]; omega
    · have h1 : ¬ (k : Int) < 4 := by omega
      obtain rfl : k = 4 := by omega
      go_wp2
      go_ret
      exact ⟨rfl, rfl⟩

end Go.Proofs.Ytbhcpedokgdipaa
