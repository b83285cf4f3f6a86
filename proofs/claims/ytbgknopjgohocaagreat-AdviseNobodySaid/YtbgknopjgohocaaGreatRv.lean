/- slices.Reverse over a row of whole numbers. -/
import Derived.Test.YtbgknopjgohocaaGreatArr
import Derived.BigRegion
namespace Go.Proofs.YtbgknopjgohocaaGreat
open Go.RowKit
set_option linter.unusedVariables false

/-- A row behind k swaps from both ends. -/
def revF (z : Nat → Int) (n k i : Nat) : Int := if i < n ∧ (i < k ∨ n ≤ i + k) then z (n - 1 - i) else z i

end Go.Proofs.YtbgknopjgohocaaGreat
