/- The settings of the statements of chapter 26; rows of acts; the page's example. -/
import Derived.Test.YtdbgehplmllgdaaGreatPs
import Derived.Test.YtdbgehplmllgdaaGreatRn
import Derived.Lib.SmallJoins
import Derived.ProofKit
import Derived.Deep.Slices
namespace Go.Proofs.YtdbgehplmllgdaaGreat
open Go.RowKit Go.Deep Go.ChangeShapes Go.WideShapes Go.ChangeAt Fl
open Scan hiding isN
set_option linter.unusedVariables false
set_option maxRecDepth 100000
set_option maxHeartbeats 1000000

structure SV where
  sl : Int
  seed : Int
  keep : Int
  margin : Int
  ghost : Int
  run : Int
structure SVB (s : SV) : Prop where
  a0 : 0 ≤ s.sl
  a1 : s.sl ≤ 255
  b0 : 0 ≤ s.seed
  b1 : s.seed ≤ 18446744073709551615
  c0 : 0 ≤ s.keep
  c1 : s.keep ≤ 18446744073709551615
  d0 : 0 ≤ s.margin
  d1 : s.margin ≤ 18446744073709551615
  e0 : 0 ≤ s.ghost
  e1 : s.ghost ≤ 18446744073709551615
  f0 : 0 ≤ s.run
  f1 : s.run ≤ 255
abbrev SV.v (s : SV) : Value := .agg #[.int .u8 s.sl, .int .u64 s.seed, .int .u64 s.keep, .int .u64 s.margin, .int .u64 s.ghost, .int .u8 s.run]
def confS (s : SV) : CF := ⟨20, 1 + s.sl % 12, 1, 1, 0, s.seed, s.keep.toNat, s.margin.toNat, s.ghost.toNat, s.run % 8⟩
theorem confS_ok {s : SV} (h : SVB s) : CFB (confS s) where
  s0 := h.b0
  s1 := h.b1
  k := by show s.keep.toNat < 18446744073709551616; have := h.c0; have := h.c1; omega
  m := by show s.margin.toNat < 18446744073709551616; have := h.d0; have := h.d1; omega
  g := by show s.ghost.toNat < 18446744073709551616; have := h.e0; have := h.e1; omega
theorem confS_may {s : SV} (h : SVB s) : (confS s).may = true := by
  have := h.a0; have := h.f0
  have h1 : (s.sl % 12) < 12 := Int.emod_lt_of_pos _ (by decide)
  have h2 : 0 ≤ (s.sl % 12) := Int.emod_nonneg _ (by decide)
  have h3 : (s.run % 8) < 8 := Int.emod_lt_of_pos _ (by decide)
  have h4 : 0 ≤ (s.run % 8) := Int.emod_nonneg _ (by decide)
  have e1 : inB (1 + s.sl % 12) 1 192 = true := inB_iff.2 ⟨by omega, by omega⟩
  have e2 : inB (s.run % 8) 0 1048576 = true := inB_iff.2 ⟨by omega, by omega⟩
  unfold CF.may confS
  simp only [e1, e2]
  rfl

theorem set_conf (s : SV) (h : SVB s) (w : World) :
    Calls Tryz.prog 9 #[s.v] w fun e w' => e = .returned (.agg (confS s).cs) ∧ Below w.heap.size w w' := by
  obtain ⟨sl, seed, keep, margin, ghost, run⟩ := s
  have a0 := h.a0
  have a1 := h.a1
  have f0 := h.f0
  have f1 := h.f1
  simp only at a0 a1 f0 f1
  have h2 : 0 ≤ (sl % 12) := Int.emod_nonneg _ (by decide)
  have h1 : (sl % 12) < 12 := Int.emod_lt_of_pos _ (by decide)
  have h4 : 0 ≤ (run % 8) := Int.emod_nonneg _ (by decide)
  have h3 : (run % 8) < 8 := Int.emod_lt_of_pos _ (by decide)
  clear h
  show Calls Tryz.prog 9 #[.agg #[.int .u8 sl, .int .u64 seed, .int .u64 keep, .int .u64 margin, .int .u64 ghost, .int .u8 run]] w _
  go_enter Tryz.func9, Tryz.ntmps9
  go_wp2_with fail
  have hx := heap_at w (.cells #[.int .u8 sl, .int .u64 seed, .int .u64 keep, .int .u64 margin, .int .u64 ghost, .int .u8 run] 24) w.heap.size rfl
  have hy := heap_at (w.alloc (.cells #[.int .u8 sl, .int .u64 seed, .int .u64 keep, .int .u64 margin, .int .u64 ghost, .int .u8 run] 24)) (.cells #[.int .i64 0, .int .i64 0, .int .i64 0, .int .i64 0, .int .i64 0, .int .u64 0, .float .f64 0, .float .f64 0, .float .f64 0, .int .i64 0] 27) (w.heap.size + 1) (by simp)
  have B2 := ((Below.refl w.heap.size w).alloc (Nat.le_refl _) (.cells #[.int .u8 sl, .int .u64 seed, .int .u64 keep, .int .u64 margin, .int .u64 ghost, .int .u8 run] 24)).alloc (by simp) (.cells #[.int .i64 0, .int .i64 0, .int .i64 0, .int .i64 0, .int .i64 0, .int .u64 0, .float .f64 0, .float .f64 0, .float .f64 0, .int .i64 0] 27)
  have hx2 := (Below.heap_alloc (w.alloc (.cells #[.int .u8 sl, .int .u64 seed, .int .u64 keep, .int .u64 margin, .int .u64 ghost, .int .u8 run] 24)) (.cells #[.int .i64 0, .int .i64 0, .int .i64 0, .int .i64 0, .int .i64 0, .int .u64 0, .float .f64 0, .float .f64 0, .float .f64 0, .int .i64 0] 27) w.heap.size (by simp)).trans hx
  generalize hw2 : (w.alloc (.cells #[.int .u8 sl, .int .u64 seed, .int .u64 keep, .int .u64 margin, .int .u64 ghost, .int .u8 run] 24)).alloc (.cells #[.int .i64 0, .int .i64 0, .int .i64 0, .int .i64 0, .int .i64 0, .int .u64 0, .float .f64 0, .float .f64 0, .float .f64 0, .int .i64 0] 27) = w2 at *
  have c0 : w2.cell? ⟨w.heap.size, 0, none⟩ = some (.int .u8 sl) := blk_cell' hx2 0
  have c1 : w2.cell? ⟨w.heap.size, 1, none⟩ = some (.int .u64 seed) := blk_cell' hx2 1
  have c2 : w2.cell? ⟨w.heap.size, 2, none⟩ = some (.int .u64 keep) := blk_cell' hx2 2
  have c3 : w2.cell? ⟨w.heap.size, 3, none⟩ = some (.int .u64 margin) := blk_cell' hx2 3
  have c4 : w2.cell? ⟨w.heap.size, 4, none⟩ = some (.int .u64 ghost) := blk_cell' hx2 4
  have c5 : w2.cell? ⟨w.heap.size, 5, none⟩ = some (.int .u8 run) := blk_cell' hx2 5
  have y0 : w2.cell? ⟨w.heap.size + 1, 0, none⟩ = some (.int .i64 0) := blk_cell' hy 0
  have y1 : w2.cell? ⟨w.heap.size + 1, 1, none⟩ = some (.int .i64 0) := blk_cell' hy 1
  have y2 : w2.cell? ⟨w.heap.size + 1, 2, none⟩ = some (.int .i64 0) := blk_cell' hy 2
  have y3 : w2.cell? ⟨w.heap.size + 1, 3, none⟩ = some (.int .i64 0) := blk_cell' hy 3
  have y4 : w2.cell? ⟨w.heap.size + 1, 4, none⟩ = some (.int .i64 0) := blk_cell' hy 4
  have y5 : w2.cell? ⟨w.heap.size + 1, 5, none⟩ = some (.int .u64 0) := blk_cell' hy 5
  have y6 : w2.cell? ⟨w.heap.size + 1, 6, none⟩ = some (.float .f64 0) := blk_cell' hy 6
  have y7 : w2.cell? ⟨w.heap.size + 1, 7, none⟩ = some (.float .f64 0) := blk_cell' hy 7
  have y8 : w2.cell? ⟨w.heap.size + 1, 8, none⟩ = some (.float .f64 0) := blk_cell' hy 8
  have y9 : w2.cell? ⟨w.heap.size + 1, 9, none⟩ = some (.int .i64 0) := blk_cell' hy 9
  have g0 : w2.frozen? ⟨w.heap.size + 1, 0, none⟩ = false := blk_free hy 0
  have g1 : w2.frozen? ⟨w.heap.size + 1, 1, none⟩ = false := blk_free hy 1
  have g2 : w2.frozen? ⟨w.heap.size + 1, 2, none⟩ = false := blk_free hy 2
  have g3 : w2.frozen? ⟨w.heap.size + 1, 3, none⟩ = false := blk_free hy 3
  have g4 : w2.frozen? ⟨w.heap.size + 1, 4, none⟩ = false := blk_free hy 4
  have g5 : w2.frozen? ⟨w.heap.size + 1, 5, none⟩ = false := blk_free hy 5
  have g6 : w2.frozen? ⟨w.heap.size + 1, 6, none⟩ = false := blk_free hy 6
  have g7 : w2.frozen? ⟨w.heap.size + 1, 7, none⟩ = false := blk_free hy 7
  have g8 : w2.frozen? ⟨w.heap.size + 1, 8, none⟩ = false := blk_free hy 8
  have g9 : w2.frozen? ⟨w.heap.size + 1, 9, none⟩ = false := blk_free hy 9
  have W8 : w.heap.size + 1 < w2.heap.size := Nat.lt_of_not_le (fun hh => by have := Array.getElem?_eq_none_iff.2 hh; rw [this] at hy; cases hy)
  have q1 : sl.tmod 12 = sl % 12 := Int.tmod_eq_emod_of_nonneg a0
  have q2 : IntKind.i64.wrap (sl % 12) = sl % 12 := IntWalk.i64_in _ (by omega)
  have q3 : IntKind.i64.wrap (1 + sl % 12) = 1 + sl % 12 := IntWalk.i64_in _ (by omega)
  have q4 : run.tmod 8 = run % 8 := Int.tmod_eq_emod_of_nonneg f0
  have q5 : IntKind.i64.wrap (run % 8) = run % 8 := IntWalk.i64_in _ (by omega)
  have TH := Lib.hid (show w2.drew.there (w.heap.size + 1) 0 10 from fun j hj => by
    have : j = 0 ∨ j = 1 ∨ j = 2 ∨ j = 3 ∨ j = 4 ∨ j = 5 ∨ j = 6 ∨ j = 7 ∨ j = 8 ∨ j = 9 := by omega
    rw [Nat.zero_add]
    refine ⟨?_, blk_free hy j⟩
    show (w2.cell? _).isSome = true
    rw [blk_cell' hy]
    rcases this with rfl | rfl | rfl | rfl | rfl | rfl | rfl | rfl | rfl | rfl <;> rfl)
  clear hy y0 y1 y2 y3 y4 y5 y6 y7 y8 y9 g0 g1 g2 g3 g4 g5 g6 g7 g8 g9
  clear hx hx2 hw2 a0 a1 f0 f1 h1 h2 h3 h4
  go_still_tail 21, (by kernel_rfl)
  clear q1 q2 q3 q4 q5
  change wpList _ _ _ _ _ w2.drew
  refine wpList_store_mid rfl _ _ _ rfl (w.heap.size + 1) 0 #[.int .i64 20, .int .i64 (1 + sl % 12), .int .i64 1, .int .i64 1, .int .i64 0, .int .u64 seed, .float .f64 keep.toNat, .float .f64 margin.toNat, .float .f64 ghost.toNat, .int .i64 (run % 8)] rfl rfl TH.out (by kernel_rfl) (by simp [Value.oneCell']) ?_
  have CI := World.cell?_setCells_in (w.heap.size + 1) [.int .i64 20, .int .i64 (1 + sl % 12), .int .i64 1, .int .i64 1, .int .i64 0, .int .u64 seed, .float .f64 keep.toNat, .float .f64 margin.toNat, .float .f64 ghost.toNat, .int .i64 (run % 8)] 0 w2.drew (fun j hj => (TH.out j hj).1)
  simp only [Nat.zero_add] at CI
  have B9 := ((Keeps.of_below B2.drew).trans (Keeps.setCells (w.heap.size + 1) [.int .i64 20, .int .i64 (1 + sl % 12), .int .i64 1, .int .i64 1, .int .i64 0, .int .u64 seed, .float .f64 keep.toNat, .float .f64 margin.toNat, .float .f64 ghost.toNat, .int .i64 (run % 8)] 0 w2.drew) (fun n (hn : n = w.heap.size + 1) => .inl (by omega))).below (Nat.le_refl _)
  generalize hw9 : w2.drew.setCells (w.heap.size + 1) 0 _ = w9 at *
  have r0 : w9.cell? ⟨w.heap.size + 1, 0, none⟩ = some (.int .i64 20) := CI 0 (by simp)
  have r1 : w9.cell? ⟨w.heap.size + 1, 1, none⟩ = some (.int .i64 (1 + sl % 12)) := CI 1 (by simp)
  have r2 : w9.cell? ⟨w.heap.size + 1, 2, none⟩ = some (.int .i64 1) := CI 2 (by simp)
  have r3 : w9.cell? ⟨w.heap.size + 1, 3, none⟩ = some (.int .i64 1) := CI 3 (by simp)
  have r4 : w9.cell? ⟨w.heap.size + 1, 4, none⟩ = some (.int .i64 0) := CI 4 (by simp)
  have r5 : w9.cell? ⟨w.heap.size + 1, 5, none⟩ = some (.int .u64 seed) := CI 5 (by simp)
  have r6 : w9.cell? ⟨w.heap.size + 1, 6, none⟩ = some (.float .f64 keep.toNat) := CI 6 (by simp)
  have r7 : w9.cell? ⟨w.heap.size + 1, 7, none⟩ = some (.float .f64 margin.toNat) := CI 7 (by simp)
  have r8 : w9.cell? ⟨w.heap.size + 1, 8, none⟩ = some (.float .f64 ghost.toNat) := CI 8 (by simp)
  have r9 : w9.cell? ⟨w.heap.size + 1, 9, none⟩ = some (.int .i64 (run % 8)) := CI 9 (by simp)
  have B9 := Lib.hid B9
  clear CI hw9 TH
  go_wp2_with fail
  refine bodyPost_ret (v := .agg #[.int .i64 20, .int .i64 (1 + sl % 12), .int .i64 1, .int .i64 1, .int .i64 0, .int .u64 seed, .float .f64 keep.toNat, .float .f64 margin.toNat, .float .f64 ghost.toNat, .int .i64 (run % 8)]) (by simp [results, Tryz.results9, go_sem, r0, r1, r2, r3, r4, r5, r6, r7, r8, r9]) rfl ⟨rfl, B9.out⟩

theorem array6 {α : Type} {cs : Array α} (h : cs.size = 6) : ∃ c0 c1 c2 c3 c4 c5, cs = #[c0, c1, c2, c3, c4, c5] := by
  obtain ⟨l⟩ := cs
  match l, h with
  | [c0, c1, c2, c3, c4, c5], _ => exact ⟨c0, c1, c2, c3, c4, c5, rfl⟩
theorem cellsSet26 : Tryz.prog.cellsOf 24 = 6 := by kernel_rfl
theorem cellsU8E : Tryz.prog.cellsOf 5 = 1 := by kernel_rfl
theorem cellsU64E : Tryz.prog.cellsOf 22 = 1 := by kernel_rfl
theorem set26_of {H : Type} {enc : TypeId × Value → H} {W : World} {sp : Nat → Bool} {held : Bool} {v : Value} {d : DataW H} {p : List MemPlace} {r : Reach} {b0 : Nat} (hv : Value.okWide Tryz.prog W r b0 24 v) (h : DataW.Trod enc Tryz.prog W 0 sp held 24 v d p) :
    ∃ s : SV, v = s.v ∧ SVB s := by
  obtain ⟨cs, rfl, hsz⟩ := okWide_struct Tryz.underlying24 hv
  rw [cellsSet26] at hsz
  obtain ⟨c0, c1, c2, c3, c4, c5, rfl⟩ := array6 hsz
  obtain ⟨fuel, hf⟩ := h
  obtain ⟨xs, k, hk, hxy, _, hxl, hfd⟩ := DataW.trod_struct Tryz.underlying24 hf
  have g0 := hfd 0 _ rfl
  have g1 := hfd 1 _ rfl
  have g2 := hfd 2 _ rfl
  have g3 := hfd 3 _ rfl
  have g4 := hfd 4 _ rfl
  have g5 := hfd 5 _ rfl
  match xs, hxl with
  | [y0, y1, y2, y3, y4, y5], _ =>
    simp [cellsU8E, cellsU64E, Value.cells] at g0 g1 g2 g3 g4 g5
    obtain ⟨z0, e0, -, f0⟩ := DataW.trod_int Tryz.underlying5 g0
    obtain ⟨z1, e1, -, f1⟩ := DataW.trod_int Tryz.underlying22 g1
    obtain ⟨z2, e2, -, f2⟩ := DataW.trod_int Tryz.underlying22 g2
    obtain ⟨z3, e3, -, f3⟩ := DataW.trod_int Tryz.underlying22 g3
    obtain ⟨z4, e4, -, f4⟩ := DataW.trod_int Tryz.underlying22 g4
    obtain ⟨z5, e5, -, f5⟩ := DataW.trod_int Tryz.underlying5 g5
    simp at e0 e1 e2 e3 e4 e5
    subst e0 e1 e2 e3 e4 e5
    have h0 := bounds_u8 f0
    have h1 := bounds_u64 f1
    have h2 := bounds_u64 f2
    have h3 := bounds_u64 f3
    have h4 := bounds_u64 f4
    have h5 := bounds_u8 f5
    exact ⟨⟨z0, z1, z2, z3, z4, z5⟩, rfl, ⟨h0.1, h0.2, h1.1, h1.2, h2.1, h2.2, h3.1, h3.2, h4.1, h4.2, h5.1, h5.2⟩⟩

/-! ### A row of acts -/
def Act26 (w : World) (a : Option Addr) (n : Nat) (K Y Z : Nat → Int) : Prop :=
  0 < n → ∃ b off, a = some ⟨b, off, none⟩ ∧ ∀ i, i < n → w.cell? ⟨b, off + i * 3, none⟩ = some (.int .i64 (K i)) ∧ w.cell? ⟨b, off + i * 3 + 1, none⟩ = some (.int .i64 (Y i)) ∧ w.cell? ⟨b, off + i * 3 + 2, none⟩ = some (.int .i64 (Z i)) ∧ i64 (Z i)
theorem cellsAct26 : Tryz.prog.cellsOf 60 = 3 := by kernel_rfl
theorem acts26_of {H : Type} {enc : TypeId × Value → H} {W : World} {sp : Nat → Bool} {held : Bool} {a : Option Addr} {len cap : Nat} {d : DataW H} {p : List MemPlace} (h : DataW.Trod enc Tryz.prog W 0 sp held 55 (.slice a len cap) d p) :
    ∃ K Y Z, Act26 W a len K Y Z ∧ len ≤ cap ∧ cap ≤ 9223372036854775807 := by
  obtain ⟨fuel, hf⟩ := h
  rcases open_slice Tryz.underlying55 hf with ⟨hcs, _⟩ | ⟨x, l, c, m, n, D, Pl, hcs, hb, hl, hm, hmm, _, hx⟩
  · simp [Value.cells] at hcs
    obtain ⟨rfl, rfl, rfl⟩ := hcs
    exact ⟨fun _ => 0, fun _ => 0, fun _ => 0, fun h => absurd h (Nat.lt_irrefl 0), Nat.le_refl _, by omega⟩
  · simp [Value.cells] at hcs
    obtain ⟨rfl, rfl, rfl⟩ := hcs
    have hlm : len ≤ m := by rw [hmm]; split <;> omega
    have each : ∀ i, i < len → ∃ q : Int × Int × Int, W.cell? (x.add (i * 3)) = some (.int .i64 q.1) ∧ W.cell? ((x.add (i * 3)).add 1) = some (.int .i64 q.2.1) ∧ W.cell? ((x.add (i * 3)).add 2) = some (.int .i64 q.2.2) ∧ i64 q.2.2 := by
      intro i hi
      obtain ⟨cs', h1, h2⟩ := hx i (by omega)
      rw [cellsAct26] at h1
      obtain ⟨_, hlen, hcell⟩ := World.cells?_some h1
      obtain ⟨xs, k, hk, hxy, _, hxl, hfd⟩ := DataW.trod_struct Tryz.underlying60 h2
      match cs', hlen with
      | [v0, v1, v2], _ =>
        have g0 := hfd 0 _ rfl
        have g1 := hfd 1 _ rfl
        have g2 := hfd 2 _ rfl
        match xs, hxl with
        | [y0, y1, y2], _ =>
          simp [cellsIntE] at g0 g1 g2
          obtain ⟨z0, e0, -, f0⟩ := DataW.trod_int Tryz.underlying3 g0
          obtain ⟨z1, e1, -, f1⟩ := DataW.trod_int Tryz.underlying3 g1
          obtain ⟨z2, e2, -, f2⟩ := DataW.trod_int Tryz.underlying3 g2
          simp at e0 e1 e2
          subst e0 e1 e2
          exact ⟨(z0, z1, z2), by simpa [Addr.add] using hcell 0 (by omega), hcell 1 (by omega), hcell 2 (by omega), bounds_i64 f2⟩
    obtain ⟨q, hq⟩ := choose_lt each
    refine ⟨fun i => (q i).1, fun i => (q i).2.1, fun i => (q i).2.2, fun h0 => ?_, hl, by unfold maxLen at hm; exact hm⟩
    obtain ⟨b, off, spot⟩ := x
    have hspot : spot = none := by simpa [Addr.add] using World.cell?_spot (hq 0 h0).1
    subst hspot
    refine ⟨b, off, rfl, fun i hi => ?_⟩
    obtain ⟨c0, c1, c2, c3⟩ := hq i hi
    rw [Go.WideShapes.add_plain] at c0 c1 c2
    exact ⟨c0, by simpa [Addr.add] using c1, by simpa [Addr.add] using c2, c3⟩
end Go.Proofs.YtdbgehplmllgdaaGreat
