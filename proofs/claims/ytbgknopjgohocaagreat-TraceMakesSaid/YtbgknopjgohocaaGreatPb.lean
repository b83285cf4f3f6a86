/- A struct put into a block, all of its cells at once. -/
import Derived.Test.YtbgknopjgohocaaGreatArr
import Derived.Deep.MidRow
namespace Go.Proofs.YtbgknopjgohocaaGreat
open Go.RowKit
set_option linter.unusedVariables false

theorem size_setCells (b : Nat) : ∀ (vs : List Value) (o : Nat) (w : World), (w.setCells b o vs).heap.size = w.heap.size
  | [], o, w => rfl
  | v :: vs, o, w => by rw [World.setCells, size_setCells b vs, World.size_setCell]
theorem there_of {w : World} {b n : Nat} {cs : Array Value} {t : TypeId} (h : w.heap[b]? = some (.cells cs t)) (hn : n ≤ cs.size) : w.there b 0 n := fun j hj => by
  rw [Nat.zero_add]
  refine ⟨?_, blk_free h j⟩
  rw [blk_cell' h, Array.getElem?_eq_getElem (by omega)]
  rfl
theorem frozen_setCells {w : World} {b : Nat} : ∀ (vs : List Value) (o : Nat) (w : World) (a : Addr), (w.setCells b o vs).frozen? a = w.frozen? a
  | [], o, w, a => rfl
  | v :: vs, o, w, a => by rw [World.setCells, frozen_setCells (w := w) vs, World.frozen?_setCell]
/-- Cells put into a block that is as large. -/
theorem cells_put {w : World} {b : Nat} {cs : Array Value} {t : TypeId} (h : w.heap[b]? = some (.cells cs t)) (vs : Array Value) (hs : vs.size ≤ cs.size) :
    ∃ w3, w.setCells b 0 vs.toList = w3 ∧ (∀ i v, vs[i]? = some v → w3.cell? ⟨b, i, none⟩ = some v) ∧ (∀ i, w3.frozen? ⟨b, i, none⟩ = false) ∧ Keeps (fun j => j = b) w w3 ∧ w3.heap.size = w.heap.size := by
  have CI := World.cell?_setCells_in b vs.toList 0 w (fun j hj => (there_of h hs j (by simpa using hj)).1)
  simp only [Nat.zero_add] at CI
  refine ⟨_, rfl, fun i v e => ?_, fun i => ?_, Keeps.setCells b _ 0 w, size_setCells b _ 0 w⟩
  · have hi : i < vs.toList.length := by
      have := (Array.getElem?_eq_some_iff.1 e).1
      simpa using this
    rw [CI i hi]
    exact congrArg some (by
      have := (Array.getElem?_eq_some_iff.1 e).2
      simpa using this)
  · rw [frozen_setCells (w := w)]
    exact blk_free h i
end Go.Proofs.YtbgknopjgohocaaGreat
