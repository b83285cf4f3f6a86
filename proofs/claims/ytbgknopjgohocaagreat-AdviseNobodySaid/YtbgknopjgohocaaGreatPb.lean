/- A struct put into a block, all of its cells at once. -/
import Derived.Test.YtbgknopjgohocaaGreatArr
import Derived.Deep.MidRow
namespace Go.Proofs.YtbgknopjgohocaaGreat
open Go.RowKit
set_option linter.unusedVariables false

theorem size_setCells (b : Nat) : ∀ (vs : List Value) (o : Nat) (w : World), (w.setCells b o vs).heap.size = w.heap.size
  | [], o, w => rfl
  | v :: vs, o, w => by rw [World.setCells, size_setCells b vs, World.size_setCell]
theorem there_of {w : World} {b n : Nat} {cs : Array Value} {t : TypeId} (h : w.heap[b]? = some (.cells cs t)) (hn : n ≤ cs.size) : w.there b 0 n := fun j hj => by
  rw [Nat.zero_add]
  refine ⟨?_, blk_free h j⟩
  rw [blk_cell' h, Array.getElem?_eq_getElem (by omega)]
  rfl
theorem frozen_setCells {w : World} {b : Nat} : ∀ (vs : List Value) (o : Nat) (w : World) (a : Addr), (w.setCells b o vs).frozen? a = w.frozen? a
  | [], o, w, a => rfl
  | v :: vs, o, w, a => by rw [World.setCells, frozen_setCells (w := w) vs, World.frozen?_setCell]
/-- Cells put into a block that is as large. -/
theorem cells_put {w : World} {b : Nat} {cs : Array Value} {t : TypeId} (h : w.heap[b]? = some (.cells cs t)) (vs : Array Value) (hs : vs.size ≤ cs.size) :
    ∃ w3, w.setCells b 0 vs.toList = w3 ∧ (∀ i v, vs[i]? = some v → w3.cell? ⟨b, i, none⟩ = some v) ∧ (∀ i, w3.frozen? ⟨b, i, none⟩ = false) ∧ Keeps (fun j => j = b) w w3 ∧ w3.heap.size = w.heap.size := by
  have CI := World.cell?_setCells_in b vs.toList 0 w (fun j hj => (there_of h hs j (by simpa using hj)).1)
  simp only [Nat.zero_add] at CI
  refine ⟨_, rfl, fun i v e => ?_, fun i => ?_, Keeps.setCells b _ 0 w, size_setCells b _ 0 w⟩
  · have hi : i < vs.toList.length := by
      have := (Array.getElem?_eq_some_iff.1 e).1
      simpa using this
    rw [CI i hi]
    exact congrArg some (by
      have := (Array.getElem?_eq_some_iff.1 e).2
      simpa using this)
  · rw [frozen_setCells (w := w)]
    exact blk_free h i

theorem heap_setCells {b : Nat} {t : TypeId} : ∀ (vs : List Value) (o : Nat) (w : World) (cs : Array Value), w.heap[b]? = some (.cells cs t) → ∃ cur : Array Value, (w.setCells b o vs).heap[b]? = some (.cells cur t) ∧ cur.size = cs.size
  | [], o, w, cs, h => ⟨cs, h, rfl⟩
  | v :: vs, o, w, cs, h => by
    obtain ⟨cur, h1, h2⟩ := heap_setCells vs (o + 1) (w.setCell ⟨b, o, none⟩ v) (cs.setIfInBounds o v) (by rw [heap_set, h]; rfl)
    exact ⟨cur, h1, by simpa using h2⟩
/-- All cells put: the block is what was put. -/
theorem cells_all {w : World} {b : Nat} {cs : Array Value} {t : TypeId} (h : w.heap[b]? = some (.cells cs t)) (vs : Array Value) (hs : vs.size = cs.size) :
    ∃ w3, w.setCells b 0 vs.toList = w3 ∧ w3.heap[b]? = some (.cells vs t) ∧ Keeps (fun j => j = b) w w3 ∧ w3.heap.size = w.heap.size := by
  obtain ⟨w3, hw3, C3, F3, K3, S3⟩ := cells_put h vs (Nat.le_of_eq hs)
  obtain ⟨cur, h1, h2⟩ := heap_setCells vs.toList 0 w cs h
  rw [hw3] at h1
  refine ⟨w3, hw3, ?_, K3, S3⟩
  have : cur = vs := Array.ext (by omega) (fun i hi hi' => by
    have e1 := C3 i _ (Array.getElem?_eq_getElem hi')
    rw [blk_cell' h1, Array.getElem?_eq_getElem hi] at e1
    injection e1)
  rw [← this]
  exact h1
end Go.Proofs.YtbgknopjgohocaaGreat
