/- The sketch of the document: Halve, Clear, New. -/
import Derived.Test.YtbhcpedokgdipaaSkR
import Derived.Test.YtbhcpedokgdipaaSkN
namespace Go.Proofs.Ytbhcpedokgdipaa
open Go.RowKit
set_option linter.unusedVariables false

theorem halfI (x : Nat) : ((x : Int) / 2) = ((x / 2 : Nat) : Int) := by omega

/-- The counters, halved up to row k, place j. -/
def hC (c : Nat → Nat → Nat) (k j : Nat) : Nat → Nat → Nat := fun r q => if r < k ∨ (r = k ∧ q < j) then c r q / 2 else c r q

theorem hC_cap {c : Nat → Nat → Nat} (h : ∀ r i, c r i ≤ 15) (k j r i : Nat) : hC c k j r i ≤ 15 := by
  have := h r i
  unfold hC; split <;> omega

theorem RSk.alike {w : World} {b : Nat} {g : Nat → Nat} {seed : Int} {width : Nat} {c d : Nat → Nat → Nat} (h : RSk w b g seed width c) (e : ∀ r q, r < 4 → q < width → c r q = d r q) (hd : ∀ r i, d r i ≤ 15) : RSk w b g seed width d :=
  { h with row := fun r hr => (h.row r hr).congr (fun q hq => by unfold nm; rw [e r q hr hq]), cap := hd }

theorem rHalve_any {w : World} {b : Nat} {g : Nat → Nat} {seed : Int} {width : Nat} {c : Nat → Nat → Nat} (h : RSk w b g seed width c) :
    Calls Try.prog 51 #[.pointer (some ⟨b, 0, none⟩)] w fun e w' => e = .returned (.int .i64 (sumN (fun r => sumN (fun i => c r i / 2) width) 4 : Int)) ∧
      RSk w' b g seed width (hC c 4 0) ∧ Keeps (rowsOf g) w w' := by
  have H := Lib.hid h
  clear h
  go_enter Try.func51, Try.ntmps51
  go_wp2
  go_loopw [3] (fun i wr => ∃ k : Nat, k ≤ 4 ∧ i = .int .i64 (k : Int) ∧ RSk wr b g seed width (hC c k 0) ∧ Keeps (rowsOf g) w wr) (fun i _ => 4 - (intOf i).toNat)
  case atStart => exact ⟨0, Nat.zero_le _, rfl, H.out.congr (fun r => funext fun q => by simp [hC]), Keeps.refl _ _⟩
  case round =>
    obtain ⟨k, hk, rfl, hsk, hkp⟩ := hrel
    have HS := Lib.hid hsk
    have HK := Lib.hid hkp
    clear hsk hkp
    by_cases hk4 : k < 4
    · have h1 : (k : Int) < 4 := by omega
      go_wp2
      go_loopw [4] (fun i wq => ∃ j : Nat, j ≤ width ∧ i = .int .i64 (j : Int) ∧ RSk wq b g seed width (hC c k j) ∧ Keeps (rowsOf g) w wq) (fun i _ => width - (intOf i).toNat)
      case atStart => exact ⟨0, Nat.zero_le _, rfl, HS.out, HK.out⟩
      case round =>
        obtain ⟨j, hj, rfl, hs2, hk2⟩ := hrel
        have HS2 := Lib.hid hs2
        have HK2 := Lib.hid hk2
        clear hs2 hk2
        have d1 : wr.cell? ⟨b, 1, none⟩ = some (.int .i64 (width : Int)) := HS2.out.top.cell (i := 1) (by omega)
        by_cases hjw : j < width
        · have h2 : (j : Int) < (width : Int) := by omega
          have h5 : (j : Int) + 1 ≤ 9223372036854775807 := by have := H.out.w2; omega
          have hrow : wr.cell? ⟨b, 2 + k, none⟩ = some (.slice (some ⟨g k, 0, none⟩) width width) := by
            rw [show 2 + k = k + 2 by omega]; exact HS2.out.top.cell (i := k + 2) (by omega)
          have hcel : wr.cell? ⟨g k, j, none⟩ = some (.int .i64 (c k j : Int)) := by
            have := (HS2.out.row k hk4).cell hjw
            simpa [nm, hC] using this
          have hfr := (HS2.out.row k hk4).free j
          have hcap := H.out.cap k j
          go_wp2_with fail
          go_region
          all_goals
            go_wp2
            go_roundw
            case rel =>
              have e := halfI (c k j)
              rw [e]
              have ha : Arr (wr.setCell ⟨g k, j, none⟩ (.int .i64 ((c k j / 2 : Nat) : Int))) (g k) 3 width (nm (hC c k (j + 1) k)) := by
                refine ((HS2.out.row k hk4).set j _).congr (fun i hi => ?_)
                unfold nm hC
                by_cases e : i = j
                · subst e; simp
                · by_cases e2 : i < j
                  · simp [e, e2, show i < j + 1 by omega]
                  · simp [e, e2, show ¬ i < j + 1 by omega]
              have hkq := (Keeps.refl (fun j => j = g k) wr).setCell (p := ⟨g k, j, none⟩) (.inl rfl) (.int .i64 ((c k j / 2 : Nat) : Int))
              refine ⟨j + 1, by omega, by simp, RSk.drewN ((HS2.out.setRow hk4 ha hkq (fun q => hC_cap H.out.cap _ _ _ _)).congr (fun r => ?_)) 1, (HK2.out.trans hkq (fun n hn => .inl ⟨k, hk4, hn⟩)).drew⟩
              by_cases e : r = k
              · subst e; simp
              · simp only [e, if_false]; funext q; simp [hC, e]
            case measure => simp only [intOf]; omega
        · have h2 : ¬ (j : Int) < (width : Int) := by omega
          obtain rfl : j = width := by omega
          go_wp2
          go_roundw
          case rel =>
            refine ⟨k + 1, by omega, by simp, HS2.out.alike (fun r q hr hq => ?_) (hC_cap H.out.cap _ _), HK2.out⟩
            unfold hC
            by_cases e : r < k ∨ r = k ∧ q < j
            · rw [if_pos e, if_pos (by omega)]
            · rw [if_neg e, if_neg (by omega)]
          case measure => simp only [intOf]; omega
    · have h1 : ¬ (k : Int) < 4 := by omega
      obtain rfl : k = 4 := by omega
      have C := Lib.hid (rSum_any HS.out)
      have e : sumN (fun r => sumN (fun i => hC c 4 0 r i) width) 4 = sumN (fun r => sumN (fun i => c r i / 2) width) 4 :=
        sumN_congr 4 (fun r hr => sumN_congr width (fun i _ => by simp [hC, hr]))
      rw [e] at C
      clear e
      go_wp2_with fail
      refine C.out.mono ?_
      rintro e w2 ⟨rfl, rfl⟩
      go_wp2
      go_ret
      exact ⟨rfl, HS.out, HK.out⟩

theorem make_ints (L : Nat) (hL : L ≤ 4096) (W : World) : (Instr.makeSlice 79 (.int .i64 (L : Int)) (.int .i64 (L : Int))).run Try.prog W = .ok (.slice (some ⟨W.heap.size, 0, none⟩) L L) (W.alloc (.cells (madeCells #[.int .i64 0] L) 3)) := by
  obtain ⟨i0, hi, hz0, hz1, hz2⟩ := info_parts infoInt
  have := run_make (P := Try.prog) (w := W) 79 3 i0 (.int .i64 0) Try.underlying79 hi hz0 .i64 .i64 (L : Int) (L : Int) (by omega) (Int.le_refl _) (by rw [hz2]; omega) (by omega)
  rw [this, hz1]
  simp [Value.cells]

theorem rNew_any (w : World) (width : Nat) (seed : Int) (h1 : 1 ≤ width) (h2 : width ≤ 4096) (s0 : 0 ≤ seed) (s1 : seed ≤ 18446744073709551615) :
    Calls Try.prog 13 #[.int .i64 (width : Int), .int .u64 seed] w fun e w' => e = .returned (.pointer (some ⟨w.heap.size, 0, none⟩)) ∧
      RSk w' w.heap.size (fun r => w.heap.size + 1 + r) seed width (fun _ _ => 0) ∧ Below w.heap.size w w' := by
  have M := fun W => make_ints width (by omega) W
  go_enter Try.func13, Try.ntmps13
  go_wp2
  have A0 : Arr (w.alloc (.cells #[.int .u64 seed, .int .i64 (width : Int), .slice none 0 0, .slice none 0 0, .slice none 0 0, .slice none 0 0] 88)) w.heap.size 88 6 (fun i => if i < 2 + 0 then topF (fun r => w.heap.size + 1 + r) seed width width i else .slice none 0 0) :=
    ⟨_, heap_at _ _ _ rfl, rfl, fun i hi => by
      have : i = 0 ∨ i = 1 ∨ i = 2 ∨ i = 3 ∨ i = 4 ∨ i = 5 := by omega
      rcases this with rfl | rfl | rfl | rfl | rfl | rfl <;> rfl⟩
  have hb0 := (Below.refl w.heap.size w).alloc (Nat.le_refl _) (.cells #[.int .u64 seed, .int .i64 (width : Int), .slice none 0 0, .slice none 0 0, .slice none 0 0, .slice none 0 0] 88)
  have hz0 : (w.alloc (.cells #[.int .u64 seed, .int .i64 (width : Int), .slice none 0 0, .slice none 0 0, .slice none 0 0, .slice none 0 0] 88)).heap.size = w.heap.size + 1 + 0 := by simp
  generalize w.alloc (.cells #[.int .u64 seed, .int .i64 (width : Int), .slice none 0 0, .slice none 0 0, .slice none 0 0, .slice none 0 0] 88) = w0 at *
  have HA0 := Lib.hid A0
  clear A0
  go_loopw [6] (fun i wr => ∃ k : Nat, k ≤ 4 ∧ i = .int .i64 (k : Int) ∧ wr.heap.size = w.heap.size + 1 + k ∧ Arr wr w.heap.size 88 6 (fun i => if i < 2 + k then topF (fun r => w.heap.size + 1 + r) seed width width i else .slice none 0 0) ∧
      (∀ r, r < k → Arr wr (w.heap.size + 1 + r) 3 width (nm (fun _ => 0))) ∧ Below w.heap.size w wr) (fun i _ => 4 - (intOf i).toNat)
  case atStart => exact ⟨0, Nat.zero_le _, rfl, hz0, HA0.out, fun r hr => absurd hr (Nat.not_lt_zero r), hb0⟩
  case round =>
    obtain ⟨k, hk, rfl, hsz, ha, hr, hb⟩ := hrel
    by_cases hk4 : k < 4
    · have h1 : (k : Int) < 4 := by omega
      have hc : wr.cell? ⟨w.heap.size, 2 + k, none⟩ = some (.slice none 0 0) := by have := ha.cell (i := 2 + k) (by omega); simpa using this
      have hf := ha.free (2 + k)
      have HA := Lib.hid ha
      have HR := Lib.hid hr
      have HB := Lib.hid hb
      have HZ := Lib.hid hsz
      have hblk := ha.lt
      clear ha hr hb hsz
      go_wp2_with fail
      go_region
      all_goals
        go_wp2
        go_roundw
        case rel =>
          have hz := HZ.out
          refine ⟨k + 1, by omega, by simp, ?_, ?_, ?_, ?_⟩
          · show ((wr.setCell _ _).alloc _).heap.size = _
            rw [World.size_alloc, World.size_setCell]; omega
          · refine Arr.congr (((HA.out.set (2 + k) _).past _).drewN 1) (fun i hi => ?_)
            by_cases e : i = 2 + k
            · subst e
              rw [hz]
              simp [topF, Nat.add_comm 2 k]
              omega
            · by_cases e2 : i < 2 + k
              · simp only [e, e2, if_false, if_true, show i < 2 + (k + 1) by omega]
              · simp only [e, e2, if_false, show ¬ i < 2 + (k + 1) by omega]
          · intro r hr
            by_cases e : r = k
            · subst e
              have := Arr.made (wr.setCell ⟨w.heap.size, 2 + r, none⟩ (.slice (some ⟨wr.heap.size, 0, none⟩) width width)) 3 width (.int .i64 0) (madeCells #[.int .i64 0] width) (by simp [madeCells]) (fun i hi => madeCells_get _ _ _ hi)
              have e0 : (wr.setCell ⟨w.heap.size, 2 + r, none⟩ (.slice (some ⟨wr.heap.size, 0, none⟩) width width)).heap.size = w.heap.size + 1 + r := by rw [World.size_setCell, hz]
              rw [e0] at this
              exact this.drewN 1
            · have hne : w.heap.size + 1 + r ≠ w.heap.size := by omega
              exact (((HR.out r (by omega)).far hne _ _).past _).drewN 1
          · exact ((HB.out.setCell (p := ⟨w.heap.size, 2 + k, none⟩) (Nat.le_refl _) _).alloc (by rw [World.size_setCell]; omega) _).drew
        case measure => simp only [intOf]; omega
    · have h1 : ¬ (k : Int) < 4 := by omega
      obtain rfl : k = 4 := by omega
      go_wp2
      go_ret
      refine ⟨rfl, ⟨ha.congr (fun i hi => by rw [if_pos (by omega)]), fun r hr4 => hr r hr4, fun r s _ _ e => by omega, fun r q => by omega, by omega, by omega, s0, s1⟩, hb⟩

theorem rClear_any {w : World} {b : Nat} {g : Nat → Nat} {seed : Int} {width : Nat} {c : Nat → Nat → Nat} (h : RSk w b g seed width c) :
    Calls Try.prog 52 #[.pointer (some ⟨b, 0, none⟩)] w fun e w' => e = .returned (.tuple #[]) ∧
      RSk w' b (fun r => w.heap.size + r) seed width (fun _ _ => 0) ∧ Keeps (fun j => j = b) w w' := by
  have hw2 := h.w2
  have M := fun W => make_ints width (by omega) W
  have H := Lib.hid h
  clear h
  go_enter Try.func52, Try.ntmps52
  go_wp2
  go_loopw [2] (fun i wr => ∃ k : Nat, k ≤ 4 ∧ i = .int .i64 (k : Int) ∧ wr.heap.size = w.heap.size + k ∧ Arr wr b 88 6 (topF (fun r => if r < k then w.heap.size + r else g r) seed width width) ∧
      (∀ r, r < k → Arr wr (w.heap.size + r) 3 width (nm (fun _ => 0))) ∧ Keeps (fun j => j = b) w wr) (fun i _ => 4 - (intOf i).toNat)
  case atStart => exact ⟨0, Nat.zero_le _, rfl, rfl, H.out.top.congr (fun i hi => by simp), fun r hr => absurd hr (Nat.not_lt_zero r), Keeps.refl _ _⟩
  case round =>
    obtain ⟨k, hk, rfl, hsz, ha, hr, hb⟩ := hrel
    by_cases hk4 : k < 4
    · have h1 : (k : Int) < 4 := by omega
      have d1 : wr.cell? ⟨b, 1, none⟩ = some (.int .i64 (width : Int)) := ha.cell (i := 1) (by omega)
      have hc : wr.cell? ⟨b, 2 + k, none⟩ = some (.slice (some ⟨g k, 0, none⟩) width width) := by
        have := ha.cell (i := k + 2) (by omega)
        rw [Nat.add_comm k 2] at this
        simpa [topF, Nat.add_comm 2 k] using this
      have hf := ha.free (2 + k)
      have HA := Lib.hid ha
      have HR := Lib.hid hr
      have HB := Lib.hid hb
      have HZ := Lib.hid hsz
      have hblk := ha.lt
      clear ha hr hb hsz
      go_wp2_with fail
      go_region
      all_goals
        go_wp2
        go_roundw
        case rel =>
          have hz := HZ.out
          refine ⟨k + 1, by omega, by simp, ?_, ?_, ?_, ?_⟩
          · show ((wr.setCell _ _).alloc _).heap.size = _
            rw [World.size_alloc, World.size_setCell]; omega
          · refine Arr.congr (((HA.out.set (2 + k) _).past _).drewN 1) (fun i hi => ?_)
            rw [hz]
            match i with
            | 0 => rw [if_neg (by omega)]; rfl
            | 1 => rw [if_neg (by omega)]; rfl
            | r + 2 =>
              by_cases e : r = k
              · subst e; rw [if_pos (by omega)]; simp [topF]
              · rw [if_neg (by omega)]
                by_cases e2 : r < k
                · simp [topF, e2, show r < k + 1 by omega]
                · simp [topF, e2, show ¬ r < k + 1 by omega]
          · intro r hr
            by_cases e : r = k
            · subst e
              have := Arr.made (wr.setCell ⟨b, 2 + r, none⟩ (.slice (some ⟨wr.heap.size, 0, none⟩) width width)) 3 width (.int .i64 0) (madeCells #[.int .i64 0] width) (by simp [madeCells]) (fun i hi => madeCells_get _ _ _ hi)
              have e0 : (wr.setCell ⟨b, 2 + r, none⟩ (.slice (some ⟨wr.heap.size, 0, none⟩) width width)).heap.size = w.heap.size + r := by rw [World.size_setCell, hz]
              rw [e0] at this
              exact this.drewN 1
            · have hne : w.heap.size + r ≠ b := by have := H.out.top.lt; omega
              exact (((HR.out r (by omega)).far hne _ _).past _).drewN 1
          · exact ((HB.out.setCell (p := ⟨b, 2 + k, none⟩) (.inl rfl) _).alloc _).drew
        case measure => simp only [intOf]; omega
    · have h1 : ¬ (k : Int) < 4 := by omega
      obtain rfl : k = 4 := by omega
      go_wp2
      go_end0
      refine ⟨rfl, ⟨ha.congr (fun i hi => by
        match i with
        | 0 => rfl
        | 1 => rfl
        | r + 2 => simp only [topF]; rw [if_pos (by omega)]), fun r hr4 => hr r hr4, fun r s _ _ e => by omega, fun r q => by omega, H.out.w1, H.out.w2, H.out.s0, H.out.s1⟩, hb⟩

end Go.Proofs.Ytbhcpedokgdipaa
