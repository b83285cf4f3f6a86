/- The statements of chapter 20: how a row of acts is read. -/
import Derived.Test.YtbhcpedokgdipaaSkL
import Derived.ProofKit
import Derived.Deep.Slices
namespace Go.Proofs.Ytbhcpedokgdipaa
open Go.RowKit Go.Deep Go.ChangeShapes Go.WideShapes Go.ChangeAt
set_option linter.unusedVariables false

theorem cellsAct : Try.prog.cellsOf 33 = 3 := by kernel_rfl
theorem cellsInt : Try.prog.cellsOf 3 = 1 := by kernel_rfl
theorem cellsU64 : Try.prog.cellsOf 23 = 1 := by kernel_rfl
theorem cellsU8 : Try.prog.cellsOf 5 = 1 := by kernel_rfl

set_option maxRecDepth 100000 in
theorem acts_of {H : Type} {enc : TypeId × Value → H} {W : World} {sp : Nat → Bool} {held : Bool} {a : Option Addr} {len cap : Nat} {d : DataW H} {p : List MemPlace} (h : DataW.Trod enc Try.prog W 0 sp held 24 (.slice a len cap) d p) :
    ∃ K Y T, Acts W a len K Y T ∧ len ≤ cap ∧ cap ≤ 9223372036854775807 := by
  obtain ⟨fuel, hf⟩ := h
  rcases open_slice Try.underlying24 hf with ⟨hcs, _⟩ | ⟨x, l, c, m, n, D, Pl, hcs, hb, hl, hm, hmm, _, hx⟩
  · simp [Value.cells] at hcs
    obtain ⟨rfl, rfl, rfl⟩ := hcs
    exact ⟨fun _ => 0, fun _ => 0, fun _ => 0, ⟨fun i hi => absurd hi (Nat.not_lt_zero i), fun h => absurd h (Nat.lt_irrefl 0)⟩, Nat.le_refl _, by omega⟩
  · simp [Value.cells] at hcs
    obtain ⟨rfl, rfl, rfl⟩ := hcs
    have hlm : len ≤ m := by rw [hmm]; split <;> omega
    have each : ∀ i, i < len → ∃ q : Int × Int × Int, (W.cell? (x.add (i * 3)) = some (.int .i64 q.1) ∧ W.cell? ((x.add (i * 3)).add 1) = some (.int .u64 q.2.1) ∧ W.cell? ((x.add (i * 3)).add 2) = some (.int .u8 q.2.2)) ∧
        (Lit.int .i64 q.1).wf = true ∧ (Lit.int .u64 q.2.1).wf = true ∧ (Lit.int .u8 q.2.2).wf = true := by
      intro i hi
      obtain ⟨cs', h1, h2⟩ := hx i (by omega)
      rw [cellsAct] at h1
      obtain ⟨_, hlen, hcell⟩ := World.cells?_some h1
      obtain ⟨xs, k, hk, hxy, _, hxl, hfd⟩ := DataW.trod_struct Try.underlying33 h2
      match cs', hlen with
      | [v0, v1, v2], _ =>
        have g0 := hfd 0 _ rfl
        have g1 := hfd 1 _ rfl
        have g2 := hfd 2 _ rfl
        match xs, hxl with
        | [y0, y1, y2], _ =>
          simp [cellsInt, cellsU64, cellsU8] at g0 g1 g2
          obtain ⟨z0, e0, -, f0⟩ := DataW.trod_int Try.underlying3 g0
          obtain ⟨z1, e1, -, f1⟩ := DataW.trod_int Try.underlying23 g1
          obtain ⟨z2, e2, -, f2⟩ := DataW.trod_int Try.underlying5 g2
          simp at e0 e1 e2
          subst e0 e1 e2
          exact ⟨(z0, z1, z2), ⟨by simpa [Addr.add] using hcell 0 (by omega), hcell 1 (by omega), hcell 2 (by omega)⟩, f0, f1, f2⟩
    obtain ⟨q, hq⟩ := choose_lt each
    refine ⟨fun i => (q i).1, fun i => (q i).2.1, fun i => (q i).2.2, ⟨fun i hi => ?_, fun h0 => ?_⟩, hl, by unfold maxLen at hm; exact hm⟩
    · obtain ⟨_, f0, f1, f2⟩ := hq i hi
      simp [Lit.wf, IntKind.min, IntKind.max, IntKind.signed, IntKind.bits] at f0 f1 f2
      dsimp only
      omega
    · obtain ⟨b, off, spot⟩ := x
      have hspot : spot = none := by simpa [Addr.add] using World.cell?_spot (hq 0 h0).1.1
      subst hspot
      refine ⟨b, off, rfl, fun i hi => ?_⟩
      obtain ⟨⟨c0, c1, c2⟩, _⟩ := hq i hi
      rw [Go.WideShapes.add_plain] at c0 c1 c2
      exact ⟨c0, by simpa [Addr.add] using c1, by simpa [Addr.add] using c2⟩

end Go.Proofs.Ytbhcpedokgdipaa
