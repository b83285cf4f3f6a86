/- Regions that draw their order, that read, and call what leaves all that stood: walked once, in the order of the text. -/
import Derived.Test.YtbgknopjgohocaaGreatFr
import Derived.Deep.QuietTactic
import Derived.BigQuiet
namespace Go.Proofs.YtbgknopjgohocaaGreat
open Go.RowKit
set_option linter.unusedVariables false

/-- A world in which all that stood in w stands. -/
structure Later (w : World) where
  W : World
  le : Below w.heap.size w W

instance (w : World) : Inhabited (Later w) := ⟨⟨w, Below.refl _ _⟩⟩

theorem wp_region_later {P : Program} {id : Nat} {Q : Exit → Act → World → Prop} {a : Act} {w : World} {l : List Oper} (hm : P.follows .mixedOrders = true) (hB : Region.lexB .any l.toArray = true)
    (h : wpQuiet P l.toArray (fun w' => ∃ p : Later w, w' = p.W) (fun a' => ∀ w', (∃ p : Later w, w' = p.W) → Q .normal a' w') l a) : (Code.region id l.toArray true).wp P Q a w :=
  wp_region_quiet (C := fun w' => ∃ p : Later w, w' = p.W) hm hB ⟨⟨w.drew, (Below.refl _ w).drew⟩, rfl⟩ (by simpa using h)

/-- A callee that leaves all that stood; its answer is one. -/
theorem calls_later {P : Program} {f : FuncId} {args : Array Value} {w : World} {p : Later w} {v : Value} (h : Calls P f args p.W fun e w' => e = .returned v ∧ Below p.W.heap.size p.W w') :
    Calls P f args p.W fun e w' => e = .returned v ∧ ∃ q : Later w, w' = q.W :=
  h.mono fun _ w' ⟨he, hb⟩ => ⟨he, ⟨w', p.le.trans (hb.mono p.le.size)⟩, rfl⟩
theorem calls_later_same {P : Program} {f : FuncId} {args : Array Value} {w : World} {p : Later w} {v : Value} (h : Calls P f args p.W fun e w' => e = .returned v ∧ p.W = w') :
    Calls P f args p.W fun e w' => e = .returned v ∧ ∃ q : Later w, w' = q.W :=
  h.mono fun _ w' ⟨he, hb⟩ => ⟨he, p, hb.symm⟩
theorem Later.cell {w : World} (p : Later w) {a : Addr} {v : Value} (h : w.cell? a = some v) : p.W.cell? a = some v := (Keeps.of_below p.le).old h

end Go.Proofs.YtbgknopjgohocaaGreat
