/- Settings of chapter 29: of small numbers. -/
import Derived.Test.YtbgknopjgohocaaGreatZG
import Derived.Lib.SmallJoins
import Derived.ProofKit
import Derived.Deep.Slices
namespace Go.Proofs.YtbgknopjgohocaaGreat
open Go.RowKit Go.Deep Go.ChangeShapes Go.WideShapes Go.ChangeAt Fl
open Scan hiding isN
set_option linter.unusedVariables false
set_option maxRecDepth 100000
set_option maxHeartbeats 1000000


structure SW where
  bl : Int
  sl : Int
  lo : Int
  wi : Int
  bu : Int
  seed : Int
  keep : Int
  margin : Int
  ghost : Int
  run : Int
structure SWB (s : SW) : Prop where
  bl0 : 0 ≤ s.bl
  bl1 : s.bl ≤ 255
  sl0 : 0 ≤ s.sl
  sl1 : s.sl ≤ 255
  lo0 : 0 ≤ s.lo
  lo1 : s.lo ≤ 255
  wi0 : 0 ≤ s.wi
  wi1 : s.wi ≤ 255
  bu0 : 0 ≤ s.bu
  bu1 : s.bu ≤ 255
  seed0 : 0 ≤ s.seed
  seed1 : s.seed ≤ 18446744073709551615
  keep0 : 0 ≤ s.keep
  keep1 : s.keep ≤ 18446744073709551615
  margin0 : 0 ≤ s.margin
  margin1 : s.margin ≤ 18446744073709551615
  ghost0 : 0 ≤ s.ghost
  ghost1 : s.ghost ≤ 18446744073709551615
  run0 : 0 ≤ s.run
  run1 : s.run ≤ 255
abbrev SW.v (s : SW) : Value := .agg #[.int .u8 s.bl, .int .u8 s.sl, .int .u8 s.lo, .int .u8 s.wi, .int .u8 s.bu, .int .u64 s.seed, .int .u64 s.keep, .int .u64 s.margin, .int .u64 s.ghost, .int .u8 s.run]
def confW (s : SW) : CF := ⟨1 + s.bl % 60, 1 + s.sl % 8, 1 + s.lo % 10, 1 + s.wi % 8, s.bu % 50, s.seed, s.keep.toNat, s.margin.toNat, s.ghost.toNat, s.run % 8⟩
theorem confW_ok {s : SW} (h : SWB s) : CFB (confW s) where
  s0 := h.seed0
  s1 := h.seed1
  k := by show s.keep.toNat < 18446744073709551616; have := h.keep0; have := h.keep1; omega
  m := by show s.margin.toNat < 18446744073709551616; have := h.margin0; have := h.margin1; omega
  g := by show s.ghost.toNat < 18446744073709551616; have := h.ghost0; have := h.ghost1; omega
theorem confW_may {s : SW} (h : SWB s) : (confW s).may = true := by
  have := h.bl0; have := h.sl0; have := h.lo0; have := h.wi0; have := h.bu0; have := h.run0
  have e1 : inB (1 + s.bl % 60) 1 512 = true := inB_iff.2 ⟨by omega, by omega⟩
  have e2 : inB (1 + s.sl % 8) 1 192 = true := inB_iff.2 ⟨by omega, by omega⟩
  have e3 : inB (1 + s.lo % 10) 1 256 = true := inB_iff.2 ⟨by omega, by omega⟩
  have e4 : inB (1 + s.wi % 8) 1 4096 = true := inB_iff.2 ⟨by omega, by omega⟩
  have e5 : inB (s.bu % 50) 0 1048576 = true := inB_iff.2 ⟨by omega, by omega⟩
  have e6 : inB (s.run % 8) 0 1048576 = true := inB_iff.2 ⟨by omega, by omega⟩
  unfold CF.may confW
  simp only [e1, e2, e3, e4, e5, e6]
  rfl

theorem set_confW (s : SW) (h : SWB s) (w : World) :
    Calls Tryz.prog 6 #[s.v] w fun e w' => e = .returned (.agg (confW s).cs) ∧ Below w.heap.size w w' := by
  obtain ⟨bl, sl, lo, wi, bu, seed, keep, margin, ghost, run⟩ := s
  have bl0 := h.bl0
  have bl1 := h.bl1
  have sl0 := h.sl0
  have sl1 := h.sl1
  have lo0 := h.lo0
  have lo1 := h.lo1
  have wi0 := h.wi0
  have wi1 := h.wi1
  have bu0 := h.bu0
  have bu1 := h.bu1
  have run0 := h.run0
  have run1 := h.run1
  simp only at bl0 bl1 sl0 sl1 lo0 lo1 wi0 wi1 bu0 bu1 run0 run1
  clear h
  show Calls Tryz.prog 6 #[.agg #[.int .u8 bl, .int .u8 sl, .int .u8 lo, .int .u8 wi, .int .u8 bu, .int .u64 seed, .int .u64 keep, .int .u64 margin, .int .u64 ghost, .int .u8 run]] w _
  go_enter Tryz.func6, Tryz.ntmps6
  go_wp2_with fail
  have hx := heap_at w (.cells #[.int .u8 bl, .int .u8 sl, .int .u8 lo, .int .u8 wi, .int .u8 bu, .int .u64 seed, .int .u64 keep, .int .u64 margin, .int .u64 ghost, .int .u8 run] 24) w.heap.size rfl
  have hy := heap_at (w.alloc (.cells #[.int .u8 bl, .int .u8 sl, .int .u8 lo, .int .u8 wi, .int .u8 bu, .int .u64 seed, .int .u64 keep, .int .u64 margin, .int .u64 ghost, .int .u8 run] 24)) (.cells #[.int .i64 0, .int .i64 0, .int .i64 0, .int .i64 0, .int .i64 0, .int .u64 0, .float .f64 0, .float .f64 0, .float .f64 0, .int .i64 0] 28) (w.heap.size + 1) (by simp)
  have B2 := ((Below.refl w.heap.size w).alloc (Nat.le_refl _) (.cells #[.int .u8 bl, .int .u8 sl, .int .u8 lo, .int .u8 wi, .int .u8 bu, .int .u64 seed, .int .u64 keep, .int .u64 margin, .int .u64 ghost, .int .u8 run] 24)).alloc (by simp) (.cells #[.int .i64 0, .int .i64 0, .int .i64 0, .int .i64 0, .int .i64 0, .int .u64 0, .float .f64 0, .float .f64 0, .float .f64 0, .int .i64 0] 28)
  have hx2 := (Below.heap_alloc (w.alloc (.cells #[.int .u8 bl, .int .u8 sl, .int .u8 lo, .int .u8 wi, .int .u8 bu, .int .u64 seed, .int .u64 keep, .int .u64 margin, .int .u64 ghost, .int .u8 run] 24)) (.cells #[.int .i64 0, .int .i64 0, .int .i64 0, .int .i64 0, .int .i64 0, .int .u64 0, .float .f64 0, .float .f64 0, .float .f64 0, .int .i64 0] 28) w.heap.size (by simp)).trans hx
  generalize hw2 : (w.alloc (.cells #[.int .u8 bl, .int .u8 sl, .int .u8 lo, .int .u8 wi, .int .u8 bu, .int .u64 seed, .int .u64 keep, .int .u64 margin, .int .u64 ghost, .int .u8 run] 24)).alloc (.cells #[.int .i64 0, .int .i64 0, .int .i64 0, .int .i64 0, .int .i64 0, .int .u64 0, .float .f64 0, .float .f64 0, .float .f64 0, .int .i64 0] 28) = w2 at *
  have c0 : w2.cell? ⟨w.heap.size, 0, none⟩ = some (.int .u8 bl) := blk_cell' hx2 0
  have c1 : w2.cell? ⟨w.heap.size, 1, none⟩ = some (.int .u8 sl) := blk_cell' hx2 1
  have c2 : w2.cell? ⟨w.heap.size, 2, none⟩ = some (.int .u8 lo) := blk_cell' hx2 2
  have c3 : w2.cell? ⟨w.heap.size, 3, none⟩ = some (.int .u8 wi) := blk_cell' hx2 3
  have c4 : w2.cell? ⟨w.heap.size, 4, none⟩ = some (.int .u8 bu) := blk_cell' hx2 4
  have c5 : w2.cell? ⟨w.heap.size, 5, none⟩ = some (.int .u64 seed) := blk_cell' hx2 5
  have c6 : w2.cell? ⟨w.heap.size, 6, none⟩ = some (.int .u64 keep) := blk_cell' hx2 6
  have c7 : w2.cell? ⟨w.heap.size, 7, none⟩ = some (.int .u64 margin) := blk_cell' hx2 7
  have c8 : w2.cell? ⟨w.heap.size, 8, none⟩ = some (.int .u64 ghost) := blk_cell' hx2 8
  have c9 : w2.cell? ⟨w.heap.size, 9, none⟩ = some (.int .u8 run) := blk_cell' hx2 9
  have y0 : w2.cell? ⟨w.heap.size + 1, 0, none⟩ = some (.int .i64 0) := blk_cell' hy 0
  have y1 : w2.cell? ⟨w.heap.size + 1, 1, none⟩ = some (.int .i64 0) := blk_cell' hy 1
  have y2 : w2.cell? ⟨w.heap.size + 1, 2, none⟩ = some (.int .i64 0) := blk_cell' hy 2
  have y3 : w2.cell? ⟨w.heap.size + 1, 3, none⟩ = some (.int .i64 0) := blk_cell' hy 3
  have y4 : w2.cell? ⟨w.heap.size + 1, 4, none⟩ = some (.int .i64 0) := blk_cell' hy 4
  have y5 : w2.cell? ⟨w.heap.size + 1, 5, none⟩ = some (.int .u64 0) := blk_cell' hy 5
  have y6 : w2.cell? ⟨w.heap.size + 1, 6, none⟩ = some (.float .f64 0) := blk_cell' hy 6
  have y7 : w2.cell? ⟨w.heap.size + 1, 7, none⟩ = some (.float .f64 0) := blk_cell' hy 7
  have y8 : w2.cell? ⟨w.heap.size + 1, 8, none⟩ = some (.float .f64 0) := blk_cell' hy 8
  have y9 : w2.cell? ⟨w.heap.size + 1, 9, none⟩ = some (.int .i64 0) := blk_cell' hy 9
  have g0 : w2.frozen? ⟨w.heap.size + 1, 0, none⟩ = false := blk_free hy 0
  have g1 : w2.frozen? ⟨w.heap.size + 1, 1, none⟩ = false := blk_free hy 1
  have g2 : w2.frozen? ⟨w.heap.size + 1, 2, none⟩ = false := blk_free hy 2
  have g3 : w2.frozen? ⟨w.heap.size + 1, 3, none⟩ = false := blk_free hy 3
  have g4 : w2.frozen? ⟨w.heap.size + 1, 4, none⟩ = false := blk_free hy 4
  have g5 : w2.frozen? ⟨w.heap.size + 1, 5, none⟩ = false := blk_free hy 5
  have g6 : w2.frozen? ⟨w.heap.size + 1, 6, none⟩ = false := blk_free hy 6
  have g7 : w2.frozen? ⟨w.heap.size + 1, 7, none⟩ = false := blk_free hy 7
  have g8 : w2.frozen? ⟨w.heap.size + 1, 8, none⟩ = false := blk_free hy 8
  have g9 : w2.frozen? ⟨w.heap.size + 1, 9, none⟩ = false := blk_free hy 9
  have W8 : w.heap.size + 1 < w2.heap.size := Nat.lt_of_not_le (fun hh => by have := Array.getElem?_eq_none_iff.2 hh; rw [this] at hy; cases hy)
  have qbl1 : bl.tmod 60 = bl % 60 := Int.tmod_eq_emod_of_nonneg bl0
  have qbl2 : IntKind.i64.wrap (bl % 60) = bl % 60 := IntWalk.i64_in _ (by omega)
  have qbl3 : IntKind.i64.wrap (1 + bl % 60) = 1 + bl % 60 := IntWalk.i64_in _ (by omega)
  have qsl1 : sl.tmod 8 = sl % 8 := Int.tmod_eq_emod_of_nonneg sl0
  have qsl2 : IntKind.i64.wrap (sl % 8) = sl % 8 := IntWalk.i64_in _ (by omega)
  have qsl3 : IntKind.i64.wrap (1 + sl % 8) = 1 + sl % 8 := IntWalk.i64_in _ (by omega)
  have qlo1 : lo.tmod 10 = lo % 10 := Int.tmod_eq_emod_of_nonneg lo0
  have qlo2 : IntKind.i64.wrap (lo % 10) = lo % 10 := IntWalk.i64_in _ (by omega)
  have qlo3 : IntKind.i64.wrap (1 + lo % 10) = 1 + lo % 10 := IntWalk.i64_in _ (by omega)
  have qwi1 : wi.tmod 8 = wi % 8 := Int.tmod_eq_emod_of_nonneg wi0
  have qwi2 : IntKind.i64.wrap (wi % 8) = wi % 8 := IntWalk.i64_in _ (by omega)
  have qwi3 : IntKind.i64.wrap (1 + wi % 8) = 1 + wi % 8 := IntWalk.i64_in _ (by omega)
  have qbu1 : bu.tmod 50 = bu % 50 := Int.tmod_eq_emod_of_nonneg bu0
  have qbu2 : IntKind.i64.wrap (bu % 50) = bu % 50 := IntWalk.i64_in _ (by omega)
  have qrun1 : run.tmod 8 = run % 8 := Int.tmod_eq_emod_of_nonneg run0
  have qrun2 : IntKind.i64.wrap (run % 8) = run % 8 := IntWalk.i64_in _ (by omega)
  have TH := Lib.hid (show w2.drew.there (w.heap.size + 1) 0 10 from fun j hj => by
    have : j = 0 ∨ j = 1 ∨ j = 2 ∨ j = 3 ∨ j = 4 ∨ j = 5 ∨ j = 6 ∨ j = 7 ∨ j = 8 ∨ j = 9 := by omega
    rw [Nat.zero_add]
    refine ⟨?_, blk_free hy j⟩
    show (w2.cell? _).isSome = true
    rw [blk_cell' hy]
    rcases this with rfl | rfl | rfl | rfl | rfl | rfl | rfl | rfl | rfl | rfl <;> rfl)
  clear hy y0 y1 y2 y3 y4 y5 y6 y7 y8 y9 g0 g1 g2 g3 g4 g5 g6 g7 g8 g9
  clear hx hx2 hw2 bl0 bl1 sl0 sl1 lo0 lo1 wi0 wi1 bu0 bu1 run0 run1
  go_still_tail 40, (by kernel_rfl)
  clear qbl1 qbl2 qbl3 qsl1 qsl2 qsl3 qlo1 qlo2 qlo3 qwi1 qwi2 qwi3 qbu1 qbu2 qrun1 qrun2
  change wpList _ _ _ _ _ w2.drew
  refine wpList_store_mid rfl _ _ _ rfl (w.heap.size + 1) 0 #[.int .i64 (1 + bl % 60), .int .i64 (1 + sl % 8), .int .i64 (1 + lo % 10), .int .i64 (1 + wi % 8), .int .i64 (bu % 50), .int .u64 seed, .float .f64 keep.toNat, .float .f64 margin.toNat, .float .f64 ghost.toNat, .int .i64 (run % 8)] rfl rfl TH.out (by kernel_rfl) (by simp [Value.oneCell']) ?_
  have CI := World.cell?_setCells_in (w.heap.size + 1) [.int .i64 (1 + bl % 60), .int .i64 (1 + sl % 8), .int .i64 (1 + lo % 10), .int .i64 (1 + wi % 8), .int .i64 (bu % 50), .int .u64 seed, .float .f64 keep.toNat, .float .f64 margin.toNat, .float .f64 ghost.toNat, .int .i64 (run % 8)] 0 w2.drew (fun j hj => (TH.out j hj).1)
  simp only [Nat.zero_add] at CI
  have B9 := ((Keeps.of_below B2.drew).trans (Keeps.setCells (w.heap.size + 1) [.int .i64 (1 + bl % 60), .int .i64 (1 + sl % 8), .int .i64 (1 + lo % 10), .int .i64 (1 + wi % 8), .int .i64 (bu % 50), .int .u64 seed, .float .f64 keep.toNat, .float .f64 margin.toNat, .float .f64 ghost.toNat, .int .i64 (run % 8)] 0 w2.drew) (fun n (hn : n = w.heap.size + 1) => .inl (by omega))).below (Nat.le_refl _)
  generalize hw9 : w2.drew.setCells (w.heap.size + 1) 0 _ = w9 at *
  have r0 : w9.cell? ⟨w.heap.size + 1, 0, none⟩ = some (.int .i64 (1 + bl % 60)) := CI 0 (by simp)
  have r1 : w9.cell? ⟨w.heap.size + 1, 1, none⟩ = some (.int .i64 (1 + sl % 8)) := CI 1 (by simp)
  have r2 : w9.cell? ⟨w.heap.size + 1, 2, none⟩ = some (.int .i64 (1 + lo % 10)) := CI 2 (by simp)
  have r3 : w9.cell? ⟨w.heap.size + 1, 3, none⟩ = some (.int .i64 (1 + wi % 8)) := CI 3 (by simp)
  have r4 : w9.cell? ⟨w.heap.size + 1, 4, none⟩ = some (.int .i64 (bu % 50)) := CI 4 (by simp)
  have r5 : w9.cell? ⟨w.heap.size + 1, 5, none⟩ = some (.int .u64 seed) := CI 5 (by simp)
  have r6 : w9.cell? ⟨w.heap.size + 1, 6, none⟩ = some (.float .f64 keep.toNat) := CI 6 (by simp)
  have r7 : w9.cell? ⟨w.heap.size + 1, 7, none⟩ = some (.float .f64 margin.toNat) := CI 7 (by simp)
  have r8 : w9.cell? ⟨w.heap.size + 1, 8, none⟩ = some (.float .f64 ghost.toNat) := CI 8 (by simp)
  have r9 : w9.cell? ⟨w.heap.size + 1, 9, none⟩ = some (.int .i64 (run % 8)) := CI 9 (by simp)
  have B9 := Lib.hid B9
  clear CI hw9 TH
  go_wp2_with fail
  refine bodyPost_ret (v := .agg #[.int .i64 (1 + bl % 60), .int .i64 (1 + sl % 8), .int .i64 (1 + lo % 10), .int .i64 (1 + wi % 8), .int .i64 (bu % 50), .int .u64 seed, .float .f64 keep.toNat, .float .f64 margin.toNat, .float .f64 ghost.toNat, .int .i64 (run % 8)]) (by simp [results, Tryz.results6, go_sem, r0, r1, r2, r3, r4, r5, r6, r7, r8, r9]) rfl ⟨rfl, B9.out⟩

theorem array10 {α : Type} {cs : Array α} (h : cs.size = 10) : ∃ c0 c1 c2 c3 c4 c5 c6 c7 c8 c9, cs = #[c0, c1, c2, c3, c4, c5, c6, c7, c8, c9] := by
  obtain ⟨l⟩ := cs
  match l, h with
  | [c0, c1, c2, c3, c4, c5, c6, c7, c8, c9], _ => exact ⟨c0, c1, c2, c3, c4, c5, c6, c7, c8, c9, rfl⟩
theorem cellsSet29 : Tryz.prog.cellsOf 24 = 10 := by kernel_rfl
theorem cellsU8W : Tryz.prog.cellsOf 5 = 1 := by kernel_rfl
theorem cellsU64W : Tryz.prog.cellsOf 22 = 1 := by kernel_rfl
theorem set29_of {H : Type} {enc : TypeId × Value → H} {W : World} {sp : Nat → Bool} {held : Bool} {v : Value} {d : DataW H} {p : List MemPlace} {r : Reach} {b0 : Nat} (hv : Value.okWide Tryz.prog W r b0 24 v) (h : DataW.Trod enc Tryz.prog W 0 sp held 24 v d p) :
    ∃ s : SW, v = s.v ∧ SWB s := by
  obtain ⟨cs, rfl, hsz⟩ := okWide_struct Tryz.underlying24 hv
  rw [cellsSet29] at hsz
  obtain ⟨c0, c1, c2, c3, c4, c5, c6, c7, c8, c9, rfl⟩ := array10 hsz
  obtain ⟨fuel, hf⟩ := h
  obtain ⟨xs, k, hk, hxy, _, hxl, hfd⟩ := DataW.trod_struct Tryz.underlying24 hf
  have g0 := hfd 0 _ rfl
  have g1 := hfd 1 _ rfl
  have g2 := hfd 2 _ rfl
  have g3 := hfd 3 _ rfl
  have g4 := hfd 4 _ rfl
  have g5 := hfd 5 _ rfl
  have g6 := hfd 6 _ rfl
  have g7 := hfd 7 _ rfl
  have g8 := hfd 8 _ rfl
  have g9 := hfd 9 _ rfl
  match xs, hxl with
  | [y0, y1, y2, y3, y4, y5, y6, y7, y8, y9], _ =>
    simp [cellsU8W, cellsU64W, Value.cells] at g0 g1 g2 g3 g4 g5 g6 g7 g8 g9
    obtain ⟨z0, e0, -, f0⟩ := DataW.trod_int Tryz.underlying5 g0
    obtain ⟨z1, e1, -, f1⟩ := DataW.trod_int Tryz.underlying5 g1
    obtain ⟨z2, e2, -, f2⟩ := DataW.trod_int Tryz.underlying5 g2
    obtain ⟨z3, e3, -, f3⟩ := DataW.trod_int Tryz.underlying5 g3
    obtain ⟨z4, e4, -, f4⟩ := DataW.trod_int Tryz.underlying5 g4
    obtain ⟨z5, e5, -, f5⟩ := DataW.trod_int Tryz.underlying22 g5
    obtain ⟨z6, e6, -, f6⟩ := DataW.trod_int Tryz.underlying22 g6
    obtain ⟨z7, e7, -, f7⟩ := DataW.trod_int Tryz.underlying22 g7
    obtain ⟨z8, e8, -, f8⟩ := DataW.trod_int Tryz.underlying22 g8
    obtain ⟨z9, e9, -, f9⟩ := DataW.trod_int Tryz.underlying5 g9
    simp at e0 e1 e2 e3 e4 e5 e6 e7 e8 e9
    subst e0 e1 e2 e3 e4 e5 e6 e7 e8 e9
    have h0 := bounds_u8 f0
    have h1 := bounds_u8 f1
    have h2 := bounds_u8 f2
    have h3 := bounds_u8 f3
    have h4 := bounds_u8 f4
    have h5 := bounds_u64 f5
    have h6 := bounds_u64 f6
    have h7 := bounds_u64 f7
    have h8 := bounds_u64 f8
    have h9 := bounds_u8 f9
    exact ⟨⟨z0, z1, z2, z3, z4, z5, z6, z7, z8, z9⟩, rfl, ⟨h0.1, h0.2, h1.1, h1.2, h2.1, h2.2, h3.1, h3.2, h4.1, h4.2, h5.1, h5.2, h6.1, h6.2, h7.1, h7.2, h8.1, h8.2, h9.1, h9.2⟩⟩
end Go.Proofs.YtbgknopjgohocaaGreat
