/- How a row of acts of chapter 08 is read. -/
import Derived.Test.YtlfeglnacphhlaaRd
import Derived.Test.YtlfeglnacphhlaaCr
namespace Go.Proofs.Ytlfeglnacphhlaa
open Go.RowKit Go.Deep Go.ChangeShapes Go.WideShapes Go.ChangeAt
set_option linter.unusedVariables false

structure ActV where
  kind : Int
  ofw : Int
  at_ : Int
  n : Int
  bit : Int
  turn : Int
  a : Int
  b : Int
  fill : Int
  size : Int
  fv : Value
  fs : List Int
deriving Inhabited

def actF (x : ActV) : Nat → Value
  | 0 => .int .i64 x.kind
  | 1 => .int .i64 x.ofw
  | 2 => .int .i64 x.at_
  | 3 => .int .i64 x.n
  | 4 => .int .i64 x.bit
  | 5 => .int .u32 x.turn
  | 6 => .int .u64 x.a
  | 7 => .int .u64 x.b
  | 8 => .int .u8 x.fill
  | 9 => .int .i64 x.size
  | _ => x.fv

structure ActOk (w : World) (x : ActV) : Prop where
  kind : (Lit.int .i64 x.kind).wf = true
  ofw : (Lit.int .i64 x.ofw).wf = true
  at_ : (Lit.int .i64 x.at_).wf = true
  n : (Lit.int .i64 x.n).wf = true
  bit : (Lit.int .i64 x.bit).wf = true
  turn : (Lit.int .u32 x.turn).wf = true
  a : (Lit.int .u64 x.a).wf = true
  b : (Lit.int .u64 x.b).wf = true
  fill : (Lit.int .u8 x.fill).wf = true
  size : (Lit.int .i64 x.size).wf = true
  fs : RdZ w x.fv x.fs
  len : x.fs.length ≤ 9223372036854775807

def Act8 (w : World) (a : Option Addr) (n : Nat) (X : Nat → ActV) : Prop :=
  (∀ i, i < n → ActOk w (X i)) ∧ (0 < n → ∃ b off, a = some ⟨b, off, none⟩ ∧ ∀ i, i < n → ∀ j, j < 11 → w.cell? ⟨b, off + i * 11 + j, none⟩ = some (actF (X i) j))

theorem cellsInt8 : Try.prog.cellsOf 3 = 1 := by kernel_rfl
theorem cellsU32 : Try.prog.cellsOf 36 = 1 := by kernel_rfl
theorem cellsU64 : Try.prog.cellsOf 37 = 1 := by kernel_rfl
theorem cellsU8 : Try.prog.cellsOf 5 = 1 := by kernel_rfl
theorem cellsFs : Try.prog.cellsOf 38 = 1 := by kernel_rfl
theorem cellsAct8 : Try.prog.cellsOf 40 = 11 := by kernel_rfl

theorem fates_of {H : Type} {enc : TypeId × Value → H} {W : World} {sp : Nat → Bool} {held : Bool} {v : Value} {fuel : Nat} {x : DataW H × List MemPlace} (h : DataW.trod enc Try.prog W 0 sp held fuel 38 [v] = some x) :
    ∃ l, RdZ W v l ∧ l.length ≤ 9223372036854775807 := by
  rcases open_ints Try.underlying38 Try.underlying3 (by kernel_rfl) h with ⟨hcs, _⟩ | ⟨x, l, c, zs, hcs, _, hl, hm, hz, _, hcell, hwz⟩
  · simp at hcs
    exact ⟨[], ⟨none, 0, hcs, fun h => absurd h (by simp)⟩, by simp⟩
  · simp at hcs
    have hlm : l ≤ zs.length := by rw [hz]; split <;> omega
    refine ⟨zs.take l, ⟨some x, c, by rw [hcs]; simp [List.length_take, Nat.min_eq_left hlm], fun h0 => ?_⟩, by rw [List.length_take]; unfold maxLen at hm; omega⟩
    rw [List.length_take] at h0
    obtain ⟨b, off, hx, hcc⟩ := ints_at hcell (by omega)
    refine ⟨b, off, by rw [hx], fun j x hx => ?_⟩
    have hj : j < l := by
      have := (List.getElem?_eq_some_iff.1 hx).1
      rw [List.length_take] at this; omega
    rw [List.getElem?_take_of_lt hj] at hx
    rw [hcc j (by omega), List.getD_eq_getElem?_getD, hx]
    rfl

set_option maxRecDepth 100000 in
theorem acts8_of {H : Type} {enc : TypeId × Value → H} {W : World} {sp : Nat → Bool} {held : Bool} {a : Option Addr} {len cap : Nat} {d : DataW H} {p : List MemPlace} (h : DataW.Trod enc Try.prog W 0 sp held 22 (.slice a len cap) d p) :
    ∃ X, Act8 W a len X ∧ len ≤ cap ∧ cap ≤ 9223372036854775807 := by
  obtain ⟨fuel, hf⟩ := h
  rcases open_slice Try.underlying22 hf with ⟨hcs, _⟩ | ⟨x, l, c, m, n, D, Pl, hcs, hb, hl, hm, hmm, _, hx⟩
  · simp [Value.cells] at hcs
    obtain ⟨rfl, rfl, rfl⟩ := hcs
    exact ⟨fun _ => ⟨0, 0, 0, 0, 0, 0, 0, 0, 0, 0, .slice none 0 0, []⟩, ⟨fun i hi => absurd hi (Nat.not_lt_zero i), fun h => absurd h (Nat.lt_irrefl 0)⟩, Nat.le_refl _, by omega⟩
  · simp [Value.cells] at hcs
    obtain ⟨rfl, rfl, rfl⟩ := hcs
    have hlm : len ≤ m := by rw [hmm]; split <;> omega
    have each : ∀ i, i < len → ∃ q : ActV, ActOk W q ∧ ∀ j, j < 11 → W.cell? ((x.add (i * 11)).add j) = some (actF q j) := by
      intro i hi
      obtain ⟨cs', h1, h2⟩ := hx i (by omega)
      rw [cellsAct8] at h1
      obtain ⟨_, hlen, hcell⟩ := World.cells?_some h1
      obtain ⟨xs, k, hk, hxy, _, hxl, hfd⟩ := DataW.trod_struct Try.underlying40 h2
      match cs', hlen with
      | [v0, v1, v2, v3, v4, v5, v6, v7, v8, v9, v10], _ =>
        have g0 := hfd 0 _ rfl
        have g1 := hfd 1 _ rfl
        have g2 := hfd 2 _ rfl
        have g3 := hfd 3 _ rfl
        have g4 := hfd 4 _ rfl
        have g5 := hfd 5 _ rfl
        have g6 := hfd 6 _ rfl
        have g7 := hfd 7 _ rfl
        have g8 := hfd 8 _ rfl
        have g9 := hfd 9 _ rfl
        have g10 := hfd 10 _ rfl
        match xs, hxl with
        | [y0, y1, y2, y3, y4, y5, y6, y7, y8, y9, y10], _ =>
          simp [cellsInt8, cellsU32, cellsU64, cellsU8, cellsFs] at g0 g1 g2 g3 g4 g5 g6 g7 g8 g9 g10
          obtain ⟨z0, e0, b0, f0⟩ := DataW.trod_int Try.underlying3 g0
          obtain ⟨z1, e1, b1, f1⟩ := DataW.trod_int Try.underlying3 g1
          obtain ⟨z2, e2, b2, f2⟩ := DataW.trod_int Try.underlying3 g2
          obtain ⟨z3, e3, b3, f3⟩ := DataW.trod_int Try.underlying3 g3
          obtain ⟨z4, e4, b4, f4⟩ := DataW.trod_int Try.underlying3 g4
          obtain ⟨z5, e5, b5, f5⟩ := DataW.trod_int Try.underlying36 g5
          obtain ⟨z6, e6, b6, f6⟩ := DataW.trod_int Try.underlying37 g6
          obtain ⟨z7, e7, b7, f7⟩ := DataW.trod_int Try.underlying37 g7
          obtain ⟨z8, e8, b8, f8⟩ := DataW.trod_int Try.underlying5 g8
          obtain ⟨z9, e9, b9, f9⟩ := DataW.trod_int Try.underlying3 g9
          obtain ⟨fs, r10, l10⟩ := fates_of g10
          simp at e0 e1 e2 e3 e4 e5 e6 e7 e8 e9
          subst e0 e1 e2 e3 e4 e5 e6 e7 e8 e9
          refine ⟨⟨z0, z1, z2, z3, z4, z5, z6, z7, z8, z9, v10, fs⟩, ⟨f0, f1, f2, f3, f4, f5, f6, f7, f8, f9, r10, l10⟩, fun j hj => ?_⟩
          rw [hcell j (by simpa using hj)]
          have : j = 0 ∨ j = 1 ∨ j = 2 ∨ j = 3 ∨ j = 4 ∨ j = 5 ∨ j = 6 ∨ j = 7 ∨ j = 8 ∨ j = 9 ∨ j = 10 := by omega
          rcases this with rfl | rfl | rfl | rfl | rfl | rfl | rfl | rfl | rfl | rfl | rfl <;> rfl
    obtain ⟨q, hq⟩ := choose_lt each
    refine ⟨q, ⟨fun i hi => (hq i hi).1, fun h0 => ?_⟩, hl, by unfold maxLen at hm; exact hm⟩
    obtain ⟨b, off, spot⟩ := x
    have hspot : spot = none := by simpa [Addr.add] using World.cell?_spot ((hq 0 h0).2 0 (by omega))
    subst hspot
    refine ⟨b, off, rfl, fun i hi j hj => ?_⟩
    have := (hq i hi).2 j hj
    rw [Go.WideShapes.add_plain] at this
    rw [← this]
    by_cases e : j = 0
    · subst e; simp [Addr.add]
    · simp [Addr.add, e]

end Go.Proofs.Ytlfeglnacphhlaa
