/- The document's filter: walks of New, Think, See. -/
import Derived.Test.YtbgknopjgohocaaGreatTi
namespace Go.Proofs.YtbgknopjgohocaaGreat
open Go.RowKit
set_option linter.unusedVariables false

def rtF (sb dg width : Nat) (n sample : Nat) : Nat → Value
  | 0 => .pointer (some ⟨sb, 0, none⟩)
  | 1 => .slice (some ⟨dg, 0, none⟩) width width
  | 2 => .int .i64 (n : Int)
  | _ => .int .i64 (sample : Int)

section
variable {S : Nat → Prop} {w : World} {b sb dg : Nat} {A : Nat → Prop} {seed : Int} {width sample : Nat} {t : TS}

variable {w0 : World}
end

end Go.Proofs.YtbgknopjgohocaaGreat
