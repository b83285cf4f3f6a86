/- The sketch of the program: New; sketches that are none. -/
import Derived.Test.YtbhcpedokgdipaaSkX
namespace Go.Proofs.Ytbhcpedokgdipaa
open Go.RowKit
set_option linter.unusedVariables false

theorem infoWord : (Try.prog.info? 23).map (fun i => (i.zero, i.size, i.bytes)) = some (some (.int .u64 0), 1, 8) := by kernel_rfl

theorem madeCells_get (z : Value) (n i : Nat) (hi : i < n) : (madeCells #[z] n)[i]? = some z := by
  have h := toList_madeCells_one z n
  have : (madeCells #[z] n).toList[i]? = some z := by rw [h]; simp [hi]
  simpa using this

theorem make_row (L : Nat) (hL : L ≤ 4096) (W : World) : (Instr.makeSlice 39 (.int .i64 (L : Int)) (.int .i64 (L : Int))).run Try.prog W = .ok (.slice (some ⟨W.heap.size, 0, none⟩) L L) (W.alloc (.cells (madeCells #[.int .u64 0] L) 23)) := by
  obtain ⟨i0, hi, hz0, hz1, hz2⟩ := info_parts infoWord
  have := run_make (P := Try.prog) (w := W) 39 23 i0 (.int .u64 0) Try.underlying39 hi hz0 .i64 .i64 (L : Int) (L : Int) (by omega) (Int.le_refl _) (by rw [hz2]; omega) (by omega)
  rw [this, hz1]
  simp [Value.cells]

theorem new_any (w : World) (width : Nat) (seed : Int) (h1 : 1 ≤ width) (h2 : width ≤ 4096) (s0 : 0 ≤ seed) (s1 : seed ≤ 18446744073709551615) (L : Nat) (hL : L = (width + 15) / 16) :
    Calls Try.prog 12 #[.int .i64 (width : Int), .int .u64 seed] w fun e w' => e = .returned (.tuple #[.pointer (some ⟨w.heap.size, 0, none⟩), .int .i64 0]) ∧
      Sk w' w.heap.size (fun r => w.heap.size + 1 + r) seed width L (fun _ _ => 0) ∧ Below w.heap.size w w' := by
  have M := fun W => make_row L (by omega) W
  have q : ((width : Int) + 16 - 1) / 16 = (L : Int) := by omega
  have HL := Lib.hid hL
  clear hL
  have a1 : ¬ (width : Int) < 1 := by omega
  have a2 : ¬ (4096 : Int) < (width : Int) := by omega
  go_enter Try.func12, Try.ntmps12
  go_wp2
  have A0 : Arr (w.alloc (.cells #[.int .u64 seed, .int .i64 (width : Int), .slice none 0 0, .slice none 0 0, .slice none 0 0, .slice none 0 0] 42)) w.heap.size 42 6 (fun i => if i < 2 + 0 then topF (fun r => w.heap.size + 1 + r) seed width L i else .slice none 0 0) :=
    ⟨_, heap_at _ _ _ rfl, rfl, fun i hi => by
      have : i = 0 ∨ i = 1 ∨ i = 2 ∨ i = 3 ∨ i = 4 ∨ i = 5 := by omega
      rcases this with rfl | rfl | rfl | rfl | rfl | rfl <;> rfl⟩
  have hb0 := (Below.refl w.heap.size w).alloc (Nat.le_refl _) (.cells #[.int .u64 seed, .int .i64 (width : Int), .slice none 0 0, .slice none 0 0, .slice none 0 0, .slice none 0 0] 42)
  have hz0 : (w.alloc (.cells #[.int .u64 seed, .int .i64 (width : Int), .slice none 0 0, .slice none 0 0, .slice none 0 0, .slice none 0 0] 42)).heap.size = w.heap.size + 1 + 0 := by simp
  generalize w.alloc (.cells #[.int .u64 seed, .int .i64 (width : Int), .slice none 0 0, .slice none 0 0, .slice none 0 0, .slice none 0 0] 42) = w0 at *
  have HA0 := Lib.hid A0
  clear A0
  go_loopw [18] (fun i wr => ∃ k : Nat, k ≤ 4 ∧ i = .int .i64 (k : Int) ∧ wr.heap.size = w.heap.size + 1 + k ∧ Arr wr w.heap.size 42 6 (fun i => if i < 2 + k then topF (fun r => w.heap.size + 1 + r) seed width L i else .slice none 0 0) ∧
      (∀ r, r < k → Arr wr (w.heap.size + 1 + r) 23 L (wd (fun _ => 0))) ∧ Below w.heap.size w wr) (fun i _ => 4 - (intOf i).toNat)
  case atStart => exact ⟨0, Nat.zero_le _, rfl, hz0, HA0.out, fun r hr => absurd hr (Nat.not_lt_zero r), hb0⟩
  case round =>
    obtain ⟨k, hk, rfl, hsz, ha, hr, hb⟩ := hrel
    by_cases hk4 : k < 4
    · have h1 : (k : Int) < 4 := by omega
      have hc : wr.cell? ⟨w.heap.size, 2 + k, none⟩ = some (.slice none 0 0) := by have := ha.cell (i := 2 + k) (by omega); simpa using this
      have hf := ha.free (2 + k)
      have HA := Lib.hid ha
      have HR := Lib.hid hr
      have HB := Lib.hid hb
      have HZ := Lib.hid hsz
      have hblk := ha.lt
      clear ha hr hb hsz
      go_wp2_with fail
      go_region
      all_goals
        go_wp2
        go_roundw
        case rel =>
          have hz := HZ.out
          refine ⟨k + 1, by omega, by simp, ?_, ?_, ?_, ?_⟩
          · show ((wr.setCell _ _).alloc _).heap.size = _
            rw [World.size_alloc, World.size_setCell]; omega
          · refine Arr.congr (((HA.out.set (2 + k) _).past _).drewN 1) (fun i hi => ?_)
            by_cases e : i = 2 + k
            · subst e
              rw [hz]
              simp [topF, Nat.add_comm 2 k]
              omega
            · by_cases e2 : i < 2 + k
              · simp only [e, e2, if_false, if_true, show i < 2 + (k + 1) by omega]
              · simp only [e, e2, if_false, show ¬ i < 2 + (k + 1) by omega]
          · intro r hr
            by_cases e : r = k
            · subst e
              have := Arr.made (wr.setCell ⟨w.heap.size, 2 + r, none⟩ (.slice (some ⟨wr.heap.size, 0, none⟩) L L)) 23 L (.int .u64 0) (madeCells #[.int .u64 0] L) (by simp [madeCells]) (fun i hi => madeCells_get _ _ _ hi)
              have e0 : (wr.setCell ⟨w.heap.size, 2 + r, none⟩ (.slice (some ⟨wr.heap.size, 0, none⟩) L L)).heap.size = w.heap.size + 1 + r := by rw [World.size_setCell, hz]
              rw [e0] at this
              exact this.drewN 1
            · have hne : w.heap.size + 1 + r ≠ w.heap.size := by omega
              exact (((HR.out r (by omega)).far hne _ _).past _).drewN 1
          · exact ((HB.out.setCell (p := ⟨w.heap.size, 2 + k, none⟩) (Nat.le_refl _) _).alloc (by rw [World.size_setCell]; omega) _).drew
        case measure => simp only [intOf]; omega
    · have h1 : ¬ (k : Int) < 4 := by omega
      obtain rfl : k = 4 := by omega
      go_wp2
      go_ret2
      refine ⟨rfl, ⟨ha.congr (fun i hi => by rw [if_pos (by omega)]), fun r hr4 => hr r hr4, fun r s _ _ e => by omega, fun r q => by omega, by omega, by omega, HL.out, s0, s1⟩, hb⟩

end Go.Proofs.Ytbhcpedokgdipaa
