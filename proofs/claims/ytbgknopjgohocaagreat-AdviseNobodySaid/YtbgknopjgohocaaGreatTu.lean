/- New places, a new budget. -/
import Derived.Test.YtbgknopjgohocaaGreatPp2
import Derived.Test.YtbgknopjgohocaaGreatQo
import Derived.Test.YtbgknopjgohocaaGreatPc
import Derived.Test.YtbgknopjgohocaaGreatZD
namespace Go.Proofs.YtbgknopjgohocaaGreat
open Go.RowKit
set_option linter.unusedVariables false
set_option maxRecDepth 100000
set_option maxHeartbeats 2000000

def pls0 : PLS := ⟨fun _ => 0, fun _ => 0⟩
theorem infoOneP : (Tryz.prog.info? 160).map (fun i => (i.zero, i.size, i.bytes)) = some (some (.agg #[.int .i64 0, .int .u64 0, .bool false]), 3, 24) := by kernel_rfl
theorem mk_ones (n : Nat) (hn : n ≤ 4096) (W : World) : (Instr.makeSlice 115 (.int .i64 (n : Int)) (.int .i64 (n : Int))).run Tryz.prog W = .ok (.slice (some ⟨W.heap.size, 0, none⟩) n n) (W.alloc (.cells (madeCells #[.int .i64 0, .int .u64 0, .bool false] (n * 3)) 160)) := by
  obtain ⟨i0, hi, hz0, hz1, hz2⟩ := info_parts infoOneP
  have := run_make (P := Tryz.prog) (w := W) 115 160 i0 (.agg #[.int .i64 0, .int .u64 0, .bool false]) Tryz.underlying115 hi hz0 .i64 .i64 (n : Int) (n : Int) (by omega) (Int.le_refl _) (by rw [hz2]; omega) (by omega)
  rw [this, hz1]
  simp [Value.cells]
theorem arr_ones (w : World) (n : Nat) : Arr (w.alloc (.cells (madeCells #[.int .i64 0, .int .u64 0, .bool false] (n * 3)) 160)) w.heap.size 160 (n * 3) (plsF fun _ => 0) := by
  refine ⟨_, heap_at _ _ _ rfl, by rw [size_madeCells], fun i hi => ?_⟩
  have h3 : i % 3 = 0 ∨ i % 3 = 1 ∨ i % 3 = 2 := by omega
  unfold madeCells plsF
  rw [Array.getElem?_map, Array.getElem?_range, if_pos hi]
  rcases h3 with e | e | e <;> simp [e, tgI, suB]

theorem qu_new (w : World) (window most : Nat) (h1 : 1 ≤ window) (h2 : window ≤ 4096) (h3 : most ≤ 1048576) :
    Calls Tryz.prog 45 #[.int .i64 (window : Int), .int .i64 (most : Int)] w fun e w' => ∃ b, e = .returned (.tuple #[.pointer (some ⟨b, 0, none⟩), .int .i64 0]) ∧ QuO b window most 0 (New w w') w' ∧ Below w.heap.size w w' := by
  have d1 : decide ((window : Int) < 1) = false := decide_eq_false (by omega)
  have d2 : decide (4096 < (window : Int)) = false := decide_eq_false (by omega)
  have d3 : decide ((most : Int) < 0) = false := decide_eq_false (by omega)
  have d4 : decide (1048576 < (most : Int)) = false := decide_eq_false (by omega)
  have d5 : decide (window < 1) = false := decide_eq_false (by omega)
  have d6 : decide (4096 < window) = false := decide_eq_false (by omega)
  have d7 : decide (1048576 < most) = false := decide_eq_false (by omega)
  have F := Lib.hid (show QuO w.heap.size window most 0 (New w (w.alloc (.cells #[.int .i64 (window : Int), .int .i64 (most : Int), .int .i64 0, .int .i64 0, .slice none 0 0] 120))) (w.alloc (.cells #[.int .i64 (window : Int), .int .i64 (most : Int), .int .i64 0, .int .i64 0, .slice none 0 0] 120)) ∧ Below w.heap.size w (w.alloc (.cells #[.int .i64 (window : Int), .int .i64 (most : Int), .int .i64 0, .int .i64 0, .slice none 0 0] 120)) from by
    refine ⟨⟨.slice none 0 0, Arr.mk_ (L := 5) (heap_at _ _ _ rfl) (by rfl) (fun i (hi : i < 5) => ?_), .inl ⟨rfl, rfl⟩, ⟨Nat.le_refl _, by simp⟩, fun g e => by simp [Value.ownBlock] at e, h1, h2, Nat.zero_le _, h3⟩, (Below.refl _ _).alloc (Nat.le_refl _) _⟩
    have : i = 0 ∨ i = 1 ∨ i = 2 ∨ i = 3 ∨ i = 4 := by omega
    rcases this with rfl | rfl | rfl | rfl | rfl <;> rfl)
  clear h1 h2 h3
  go_enter Tryz.func45, Tryz.ntmps45
  go_wp2
  go_ret2
  exact ⟨_, rfl, F.out⟩

theorem pl_mk {w0 w : World} {sb wb nb ns b : Nat} (hb : b = w.heap.size) (hk : Below w0.heap.size w0 w) (h1 : nb ≤ 512) (h2 : ns ≤ 192) (hs : Arr w sb 160 (ns * 3) (plsF fun _ => 0)) (hw : Arr w wb 3 nb (fun _ => .int .i64 0)) (s0 : w0.heap.size ≤ sb) (s1 : w0.heap.size ≤ wb) :
    PlO b nb ns 0 pls0 (New w0 (w.alloc (.cells #[.slice (some ⟨sb, 0, none⟩) ns ns, .slice (some ⟨wb, 0, none⟩) nb nb, .int .i64 0] 117))) (w.alloc (.cells #[.slice (some ⟨sb, 0, none⟩) ns ns, .slice (some ⟨wb, 0, none⟩) nb nb, .int .i64 0] 117)) ∧ Below w0.heap.size w0 (w.alloc (.cells #[.slice (some ⟨sb, 0, none⟩) ns ns, .slice (some ⟨wb, 0, none⟩) nb nb, .int .i64 0] 117)) := by
  subst hb
  have l1 := hs.lt
  have l2 := hw.lt
  have hz := hk.size
  refine ⟨⟨sb, wb, 0, ⟨Arr.mk_ (L := 3) (heap_at _ _ _ rfl) (by rfl) (fun i (hi : i < 3) => ?_), hs.past _, hw.past _, ⟨by omega, by omega, by omega, h2, h1, fun i hi => Int.le_refl _, fun i hi => by show (0 : Int) ≤ nb; omega, fun i hi => Int.le_refl _, fun i hi => by show (0 : Int) ≤ ns; omega⟩⟩, ⟨hz, by simp⟩, ⟨s0, by simp; omega⟩, ⟨s1, by simp; omega⟩⟩, hk.alloc hz _⟩
  have : i = 0 ∨ i = 1 ∨ i = 2 := by omega
  rcases this with rfl | rfl | rfl <;> rfl

theorem pl_new (w : World) (nb ns : Nat) (h1 : nb ≤ 512) (h2 : ns ≤ 192) :
    Calls Tryz.prog 44 #[.int .i64 (nb : Int), .int .i64 (ns : Int)] w fun e w' => ∃ b, e = .returned (.tuple #[.pointer (some ⟨b, 0, none⟩), .int .i64 0]) ∧ PlO b nb ns 0 pls0 (New w w') w' ∧ Below w.heap.size w w' := by
  have C1 := Lib.hid (fun W => show Calls Tryz.prog 38 #[.int .i64 (nb : Int), .int .i64 0, .int .i64 512] W (fun e w' => e = .returned (.int .i64 (nb : Int)) ∧ W = w') from by
    have := clamp_any (nb : Int) 0 512 W
    unfold clampI at this
    rw [if_neg (by omega), if_neg (by omega)] at this
    exact this)
  have C2 := Lib.hid (fun W => show Calls Tryz.prog 38 #[.int .i64 (ns : Int), .int .i64 0, .int .i64 192] W (fun e w' => e = .returned (.int .i64 (ns : Int)) ∧ W = w') from by
    have := clamp_any (ns : Int) 0 192 W
    unfold clampI at this
    rw [if_neg (by omega), if_neg (by omega)] at this
    exact this)
  have M1 := mk_ones ns (by omega)
  have M2 := mk_ints nb (by omega)
  have B1 := (Below.refl w.heap.size w).drew.alloc (Nat.le_refl _) (.cells (madeCells #[.int .i64 0, .int .u64 0, .bool false] (ns * 3)) 160)
  have B2 := (Below.refl w.heap.size w).drew.alloc (Nat.le_refl _) (.cells (madeCells #[.int .i64 0] nb) 3)
  have z1 : (w.drew.alloc (.cells (madeCells #[.int .i64 0, .int .u64 0, .bool false] (ns * 3)) 160)).heap.size = w.heap.size + 1 := by simp
  have z2 : (w.drew.alloc (.cells (madeCells #[.int .i64 0] nb) 3)).heap.size = w.heap.size + 1 := by simp
  have A1 : Arr ((w.drew.alloc (.cells (madeCells #[.int .i64 0, .int .u64 0, .bool false] (ns * 3)) 160)).alloc (.cells (madeCells #[.int .i64 0] nb) 3)) (w.heap.size + 1) 3 nb (fun _ => .int .i64 0) := z1 ▸ Arr.made (w.drew.alloc (.cells (madeCells #[.int .i64 0, .int .u64 0, .bool false] (ns * 3)) 160)) 3 nb (.int .i64 0) _ (by simp [madeCells]) (fun i hi => madeCells_get' _ _ _ hi)
  have A2 : Arr ((w.drew.alloc (.cells (madeCells #[.int .i64 0] nb) 3)).alloc (.cells (madeCells #[.int .i64 0, .int .u64 0, .bool false] (ns * 3)) 160)) (w.heap.size + 1) 160 (ns * 3) (plsF fun _ => 0) := z2 ▸ arr_ones (w.drew.alloc (.cells (madeCells #[.int .i64 0] nb) 3)) ns
  have FA := Lib.hid (pl_mk (w0 := w) (b := w.heap.size + 1 + 1) (by simp) (B1.alloc B1.size (.cells (madeCells #[.int .i64 0] nb) 3)) h1 h2 ((arr_ones w.drew ns).past (.cells (madeCells #[.int .i64 0] nb) 3)) A1 (Nat.le_refl _) (Nat.le_succ _))
  have FB := Lib.hid (pl_mk (w0 := w) (b := w.heap.size + 1 + 1) (by simp) (B2.alloc B2.size (.cells (madeCells #[.int .i64 0, .int .u64 0, .bool false] (ns * 3)) 160)) h1 h2 A2 ((Arr.made w.drew 3 nb (.int .i64 0) _ (by simp [madeCells]) (fun i hi => madeCells_get' _ _ _ hi)).past (.cells (madeCells #[.int .i64 0, .int .u64 0, .bool false] (ns * 3)) 160)) (Nat.le_succ _) (Nat.le_refl _))
  clear h1 h2 B1 B2 z1 z2 A1 A2
  go_enter Tryz.func44, Tryz.ntmps44
  go_wp2_with fail
  refine (C1.out _).mono ?_
  rintro e w' ⟨rfl, rfl⟩
  go_wp2_with fail
  refine (C2.out _).mono ?_
  rintro e w' ⟨rfl, rfl⟩
  go_wp2_with fail
  go_region_law (fail)
  all_goals (
    go_wp2
    go_ret2
    first
      | exact ⟨_, rfl, FA.out⟩
      | exact ⟨_, rfl, FB.out⟩)
end Go.Proofs.YtbgknopjgohocaaGreat
