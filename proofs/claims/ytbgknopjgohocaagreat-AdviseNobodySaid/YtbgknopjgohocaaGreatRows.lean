/-
  No cell of these rows narrows 'for every input' (looked for: loops, veiled, ifaces, maps, wideKeys, modest, calm, conditions, laid).
  DERIVED. THE GIVEN ROWS OF THIS SEAT. 3 by the template 'for every input the law returns true; each argument reads behind the call as it read before'; 0 by the template 'total and deterministic' (their statements: YtbgknopjgohocaaGreatTotals.lean).
  GIVEN WITH THE SEED: the statements are not yours to turn. If you find one false, say at which input.
  Laid BY PROGRAM, IN A SANDBOX (cutbox-rows.mjs): the forced cells as the released guide's own fill.sh prints them over the translation 7fb333fdaa3e43f2… (all of the seat's roots in one cut). By AI agents, Wed Nov 11 2026. No macro, syntax, notation, axiom, sorry.
-/
import Derived.Test.YtbgknopjgohocaaGreatChecked
import GoSem.Claim
import GoSem.ClaimJoined
import GoSem.ClaimMapViews
import Derived.JoinedTies
import Derived.KernelRfl
namespace Go.Proofs.YtbgknopjgohocaaGreat
/- THE CELL 'sum', in the pinned program and in every row, IS THE sha256 OF THE DUMP (.gsa) THAT YtbgknopjgohocaaGreatProg.lean LOADS. Nothing in Lean hashes anything: it is a label: what it is worth is what the hold of that sum in a sandbox is worth. -/
noncomputable def Tryz.pinned : Pinned := { name := "ytbgknopjgohocaagreat", sum := "7fb333fdaa3e43f2ca8e9918188eb7f2b0b5d97a9e50d022f7ae93f6de2908d7", checked := Tryz.checked }
namespace Rows
def none {H : Type} : Left H := { results := [], args := [] }

/-- 'springhouselaw36.TraceGoes': WHATEVER THE INPUT: true; the input reads as it did. -/
def traceGoesSpec : ChangeSpec := { name := "traceGoes", fn := fun _ => fun
  | [d1, d2, d3] => { results := [.lit (.bool true)], args := [d1, d2, d3] }
  | _ => none }
def traceGoesRow : OpenClaim := { program := "ytbgknopjgohocaagreat", sum := "7fb333fdaa3e43f2ca8e9918188eb7f2b0b5d97a9e50d022f7ae93f6de2908d7", func := "springhouse/springhouselaw36.TraceGoes", spec := "traceGoes", inPlace := ["math.Float64frombits", "math.Float64bits"], unfollowed := true, recurses := true, apart := false }
def TraceGoesSaid : Prop := traceGoesRow.holds Tryz.pinned (OpenSpec.ofChange traceGoesSpec)

/-- ITS FALSE NEIGHBOUR: 'it returns false'. Refute it at one input. -/
def traceGoesWrong : ChangeSpec := { name := "traceGoes", fn := fun _ => fun
  | [d1, d2, d3] => { results := [.lit (.bool false)], args := [d1, d2, d3] }
  | _ => none }
def TraceGoesWrongFalsely : Prop := traceGoesRow.holds Tryz.pinned (OpenSpec.ofChange traceGoesWrong)

/-- 'springhouselaw36.TraceMakes': WHATEVER THE INPUT: true; the input reads as it did. -/
def traceMakesSpec : ChangeSpec := { name := "traceMakes", fn := fun _ => fun
  | [d1, d2] => { results := [.lit (.bool true)], args := [d1, d2] }
  | _ => none }
def traceMakesRow : OpenClaim := { program := "ytbgknopjgohocaagreat", sum := "7fb333fdaa3e43f2ca8e9918188eb7f2b0b5d97a9e50d022f7ae93f6de2908d7", func := "springhouse/springhouselaw36.TraceMakes", spec := "traceMakes", inPlace := ["math.Float64bits"], unfollowed := true, recurses := true, apart := false }
def TraceMakesSaid : Prop := traceMakesRow.holds Tryz.pinned (OpenSpec.ofChange traceMakesSpec)

/-- ITS FALSE NEIGHBOUR: 'it returns false'. Refute it at one input. -/
def traceMakesWrong : ChangeSpec := { name := "traceMakes", fn := fun _ => fun
  | [d1, d2] => { results := [.lit (.bool false)], args := [d1, d2] }
  | _ => none }
def TraceMakesWrongFalsely : Prop := traceMakesRow.holds Tryz.pinned (OpenSpec.ofChange traceMakesWrong)

/-- 'springhouselaw37.AdviseNobody': WHATEVER THE INPUT: true; the input reads as it did. -/
def adviseNobodySpec : ChangeSpec := { name := "adviseNobody", fn := fun _ => fun
  | [d1, d2, d3] => { results := [.lit (.bool true)], args := [d1, d2, d3] }
  | _ => none }
def adviseNobodyRow : OpenClaim := { program := "ytbgknopjgohocaagreat", sum := "7fb333fdaa3e43f2ca8e9918188eb7f2b0b5d97a9e50d022f7ae93f6de2908d7", func := "springhouse/springhouselaw37.AdviseNobody", spec := "adviseNobody", inPlace := ["math.Float64frombits", "math.Float64bits"], unfollowed := true, recurses := true, apart := false }
def AdviseNobodySaid : Prop := adviseNobodyRow.holds Tryz.pinned (OpenSpec.ofChange adviseNobodySpec)

/-- ITS FALSE NEIGHBOUR: 'it returns false'. Refute it at one input. -/
def adviseNobodyWrong : ChangeSpec := { name := "adviseNobody", fn := fun _ => fun
  | [d1, d2, d3] => { results := [.lit (.bool false)], args := [d1, d2, d3] }
  | _ => none }
def AdviseNobodyWrongFalsely : Prop := adviseNobodyRow.holds Tryz.pinned (OpenSpec.ofChange adviseNobodyWrong)

/- THE SECOND FORM. 'bulk': how many values and letters a reading holds, each counted each time it is reached (what is shared counts as often as it is met; a slice's spare places count too). A statement '..UptoSaid' is the law's where the arguments, and the package variables that the reading takes, are together of bulk at most 1048576: NARROWER than '..Said'. Prove '..Said' where nothing that the law and all that it calls make is longer than what came in: it says more and counts as full. Else prove '..UptoSaid'. A law counts once. -/
mutual
def uptoBulk {H : Type} : DataW H → Nat
  | .lit (.string bytes) => bytes.length + 1
  | .lit _ => 1
  | .nil => 1
  | .ptr d => uptoBulk d + 1
  | .slice elems spare => uptoBulkAll elems + uptoBulkAll spare + 1
  | .agg parts => uptoBulkAll parts + 1
  | .iface _ d => uptoBulk d + 1
  | .map entries => uptoBulkEntries entries + 1
  | .held _ => 1
def uptoBulkAll {H : Type} : List (DataW H) → Nat
  | [] => 0
  | d :: r => uptoBulk d + uptoBulkAll r
def uptoBulkEntries {H : Type} : List (Lit × DataW H) → Nat
  | [] => 0
  | x :: r => uptoBulkEntry x + uptoBulkEntries r
def uptoBulkEntry {H : Type} : Lit × DataW H → Nat
  | (.string bytes, d) => bytes.length + uptoBulk d + 1
  | (_, d) => uptoBulk d + 1
 end
def uptoSmall : (H : Type) → List (DataW H) → Bool := fun _ ds => decide (uptoBulkAll ds ≤ 1048576)
def OpenSpec.upto (s : _root_.Go.ChangeSpec) : _root_.Go.OpenSpec := { _root_.Go.OpenSpec.ofChange s with cond := some uptoSmall }

/-- 'springhouselaw36.TraceGoes', WHERE WHAT IT READS IS OF BULK AT MOST 1048576: true; the input reads as it did. -/
def traceGoesUptoRow : OpenClaim := { program := "ytbgknopjgohocaagreat", sum := "7fb333fdaa3e43f2ca8e9918188eb7f2b0b5d97a9e50d022f7ae93f6de2908d7", func := "springhouse/springhouselaw36.TraceGoes", spec := "traceGoes", inPlace := ["math.Float64frombits", "math.Float64bits"], unfollowed := true, recurses := true, apart := false, narrowed := true }
def TraceGoesUptoSaid : Prop := traceGoesUptoRow.holds Tryz.pinned (OpenSpec.upto traceGoesSpec)

/-- 'springhouselaw36.TraceMakes', WHERE WHAT IT READS IS OF BULK AT MOST 1048576: true; the input reads as it did. -/
def traceMakesUptoRow : OpenClaim := { program := "ytbgknopjgohocaagreat", sum := "7fb333fdaa3e43f2ca8e9918188eb7f2b0b5d97a9e50d022f7ae93f6de2908d7", func := "springhouse/springhouselaw36.TraceMakes", spec := "traceMakes", inPlace := ["math.Float64bits"], unfollowed := true, recurses := true, apart := false, narrowed := true }
def TraceMakesUptoSaid : Prop := traceMakesUptoRow.holds Tryz.pinned (OpenSpec.upto traceMakesSpec)

/-- 'springhouselaw37.AdviseNobody', WHERE WHAT IT READS IS OF BULK AT MOST 1048576: true; the input reads as it did. -/
def adviseNobodyUptoRow : OpenClaim := { program := "ytbgknopjgohocaagreat", sum := "7fb333fdaa3e43f2ca8e9918188eb7f2b0b5d97a9e50d022f7ae93f6de2908d7", func := "springhouse/springhouselaw37.AdviseNobody", spec := "adviseNobody", inPlace := ["math.Float64frombits", "math.Float64bits"], unfollowed := true, recurses := true, apart := false, narrowed := true }
def AdviseNobodyUptoSaid : Prop := adviseNobodyUptoRow.holds Tryz.pinned (OpenSpec.upto adviseNobodySpec)

end Rows
end Go.Proofs.YtbgknopjgohocaaGreat
