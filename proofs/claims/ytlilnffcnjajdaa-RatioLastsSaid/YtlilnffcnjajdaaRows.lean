/-
  No cell of these rows narrows 'for every input' (looked for: loops, veiled, ifaces, maps, wideKeys, modest, calm, conditions, laid).
  DERIVED. THE GIVEN ROWS OF THIS SEAT. 8 by the template 'for every input the law returns true; each argument reads behind the call as it read before'; 0 by the template 'total and deterministic' (their statements: YtlilnffcnjajdaaTotals.lean).
  GIVEN WITH THE SEED: the statements are not yours to turn. If you find one false, say at which input.
  Laid BY PROGRAM, IN A SANDBOX (cutbox-rows.mjs): the forced cells as the released guide's own fill.sh prints them over the translation d151e0921e363081… (all of the seat's roots in one cut). By AI agents, Wed Nov 11 2026. No macro, syntax, notation, axiom, sorry.
-/
import Derived.Test.YtlilnffcnjajdaaChecked
import GoSem.Claim
import GoSem.ClaimJoined
import GoSem.ClaimMapViews
import Derived.JoinedTies
import Derived.KernelRfl
namespace Go.Proofs.Ytlilnffcnjajdaa
/- THE CELL 'sum', in the pinned program and in every row, IS THE sha256 OF THE DUMP (.gsa) THAT YtlilnffcnjajdaaProg.lean LOADS. Nothing in Lean hashes anything: it is a label: what it is worth is what the hold of that sum in a sandbox is worth. -/
noncomputable def Try.pinned : Pinned := { name := "ytlilnffcnjajdaa", sum := "d151e0921e363081e50e5f4d5a388b781693d2edcba428d4357cf347a1f3fbe5", checked := Try.checked }
namespace Rows
def none {H : Type} : Left H := { results := [], args := [] }

/-- 'springhouselaw24.ScanPlays': WHATEVER THE INPUT: true; the input reads as it did. -/
def scanPlaysSpec : ChangeSpec := { name := "scanPlays", fn := fun _ => fun
  | [d1, d2, d3] => { results := [.lit (.bool true)], args := [d1, d2, d3] }
  | _ => none }
def scanPlaysRow : OpenClaim := { program := "ytlilnffcnjajdaa", sum := "d151e0921e363081e50e5f4d5a388b781693d2edcba428d4357cf347a1f3fbe5", func := "springhouse/springhouselaw24.ScanPlays", spec := "scanPlays", unfollowed := true, recurses := true, apart := false }
def ScanPlaysSaid : Prop := scanPlaysRow.holds Try.pinned (OpenSpec.ofChange scanPlaysSpec)

/-- ITS FALSE NEIGHBOUR: 'it returns false'. Refute it at one input. -/
def scanPlaysWrong : ChangeSpec := { name := "scanPlays", fn := fun _ => fun
  | [d1, d2, d3] => { results := [.lit (.bool false)], args := [d1, d2, d3] }
  | _ => none }
def ScanPlaysWrongFalsely : Prop := scanPlaysRow.holds Try.pinned (OpenSpec.ofChange scanPlaysWrong)

/-- 'springhouselaw24.ScanMakes': WHATEVER THE INPUT: true; the input reads as it did. -/
def scanMakesSpec : ChangeSpec := { name := "scanMakes", fn := fun _ => fun
  | [d1, d2] => { results := [.lit (.bool true)], args := [d1, d2] }
  | _ => none }
def scanMakesRow : OpenClaim := { program := "ytlilnffcnjajdaa", sum := "d151e0921e363081e50e5f4d5a388b781693d2edcba428d4357cf347a1f3fbe5", func := "springhouse/springhouselaw24.ScanMakes", spec := "scanMakes", unfollowed := true, recurses := true, apart := false }
def ScanMakesSaid : Prop := scanMakesRow.holds Try.pinned (OpenSpec.ofChange scanMakesSpec)

/-- ITS FALSE NEIGHBOUR: 'it returns false'. Refute it at one input. -/
def scanMakesWrong : ChangeSpec := { name := "scanMakes", fn := fun _ => fun
  | [d1, d2] => { results := [.lit (.bool false)], args := [d1, d2] }
  | _ => none }
def ScanMakesWrongFalsely : Prop := scanMakesRow.holds Try.pinned (OpenSpec.ofChange scanMakesWrong)

/-- 'springhouselaw02.RatioOrders': WHATEVER THE INPUT: true; the input reads as it did. -/
def ratioOrdersSpec : ChangeSpec := { name := "ratioOrders", fn := fun _ => fun
  | [d1, d2, d3] => { results := [.lit (.bool true)], args := [d1, d2, d3] }
  | _ => none }
def ratioOrdersRow : OpenClaim := { program := "ytlilnffcnjajdaa", sum := "d151e0921e363081e50e5f4d5a388b781693d2edcba428d4357cf347a1f3fbe5", func := "springhouse/springhouselaw02.RatioOrders", spec := "ratioOrders", inPlace := ["math.Float64frombits", "math.Float64bits"], apart := false }
def RatioOrdersSaid : Prop := ratioOrdersRow.holds Try.pinned (OpenSpec.ofChange ratioOrdersSpec)

/-- ITS FALSE NEIGHBOUR: 'it returns false'. Refute it at one input. -/
def ratioOrdersWrong : ChangeSpec := { name := "ratioOrders", fn := fun _ => fun
  | [d1, d2, d3] => { results := [.lit (.bool false)], args := [d1, d2, d3] }
  | _ => none }
def RatioOrdersWrongFalsely : Prop := ratioOrdersRow.holds Try.pinned (OpenSpec.ofChange ratioOrdersWrong)

/-- 'springhouselaw02.RatioFixes': WHATEVER THE INPUT: true; the input reads as it did. -/
def ratioFixesSpec : ChangeSpec := { name := "ratioFixes", fn := fun _ => fun
  | [d1, d2, d3, d4] => { results := [.lit (.bool true)], args := [d1, d2, d3, d4] }
  | _ => none }
def ratioFixesRow : OpenClaim := { program := "ytlilnffcnjajdaa", sum := "d151e0921e363081e50e5f4d5a388b781693d2edcba428d4357cf347a1f3fbe5", func := "springhouse/springhouselaw02.RatioFixes", spec := "ratioFixes", inPlace := ["math.Float64frombits", "math.Float64bits"], apart := false }
def RatioFixesSaid : Prop := ratioFixesRow.holds Try.pinned (OpenSpec.ofChange ratioFixesSpec)

/-- ITS FALSE NEIGHBOUR: 'it returns false'. Refute it at one input. -/
def ratioFixesWrong : ChangeSpec := { name := "ratioFixes", fn := fun _ => fun
  | [d1, d2, d3, d4] => { results := [.lit (.bool false)], args := [d1, d2, d3, d4] }
  | _ => none }
def RatioFixesWrongFalsely : Prop := ratioFixesRow.holds Try.pinned (OpenSpec.ofChange ratioFixesWrong)

/-- 'springhouselaw02.RatioRates': WHATEVER THE INPUT: true; the input reads as it did. -/
def ratioRatesSpec : ChangeSpec := { name := "ratioRates", fn := fun _ => fun
  | [d1, d2, d3] => { results := [.lit (.bool true)], args := [d1, d2, d3] }
  | _ => none }
def ratioRatesRow : OpenClaim := { program := "ytlilnffcnjajdaa", sum := "d151e0921e363081e50e5f4d5a388b781693d2edcba428d4357cf347a1f3fbe5", func := "springhouse/springhouselaw02.RatioRates", spec := "ratioRates", inPlace := ["math.Float64bits", "math.Float64frombits"], apart := false }
def RatioRatesSaid : Prop := ratioRatesRow.holds Try.pinned (OpenSpec.ofChange ratioRatesSpec)

/-- ITS FALSE NEIGHBOUR: 'it returns false'. Refute it at one input. -/
def ratioRatesWrong : ChangeSpec := { name := "ratioRates", fn := fun _ => fun
  | [d1, d2, d3] => { results := [.lit (.bool false)], args := [d1, d2, d3] }
  | _ => none }
def RatioRatesWrongFalsely : Prop := ratioRatesRow.holds Try.pinned (OpenSpec.ofChange ratioRatesWrong)

/-- 'springhouselaw02.RatioBlends': WHATEVER THE INPUT: true; the input reads as it did. -/
def ratioBlendsSpec : ChangeSpec := { name := "ratioBlends", fn := fun _ => fun
  | [d1, d2, d3] => { results := [.lit (.bool true)], args := [d1, d2, d3] }
  | _ => none }
def ratioBlendsRow : OpenClaim := { program := "ytlilnffcnjajdaa", sum := "d151e0921e363081e50e5f4d5a388b781693d2edcba428d4357cf347a1f3fbe5", func := "springhouse/springhouselaw02.RatioBlends", spec := "ratioBlends", inPlace := ["math.Float64frombits", "math.Float64bits"], apart := false }
def RatioBlendsSaid : Prop := ratioBlendsRow.holds Try.pinned (OpenSpec.ofChange ratioBlendsSpec)

/-- ITS FALSE NEIGHBOUR: 'it returns false'. Refute it at one input. -/
def ratioBlendsWrong : ChangeSpec := { name := "ratioBlends", fn := fun _ => fun
  | [d1, d2, d3] => { results := [.lit (.bool false)], args := [d1, d2, d3] }
  | _ => none }
def RatioBlendsWrongFalsely : Prop := ratioBlendsRow.holds Try.pinned (OpenSpec.ofChange ratioBlendsWrong)

/-- 'springhouselaw02.RatioLasts': WHATEVER THE INPUT: true; the input reads as it did. -/
def ratioLastsSpec : ChangeSpec := { name := "ratioLasts", fn := fun _ => fun
  | [d] => { results := [.lit (.bool true)], args := [d] }
  | _ => none }
def ratioLastsRow : OpenClaim := { program := "ytlilnffcnjajdaa", sum := "d151e0921e363081e50e5f4d5a388b781693d2edcba428d4357cf347a1f3fbe5", func := "springhouse/springhouselaw02.RatioLasts", spec := "ratioLasts", inPlace := ["math.Float64frombits", "math.Float64bits"], apart := false }
def RatioLastsSaid : Prop := ratioLastsRow.holds Try.pinned (OpenSpec.ofChange ratioLastsSpec)

/-- ITS FALSE NEIGHBOUR: 'it returns false'. Refute it at one input. -/
def ratioLastsWrong : ChangeSpec := { name := "ratioLasts", fn := fun _ => fun
  | [d] => { results := [.lit (.bool false)], args := [d] }
  | _ => none }
def RatioLastsWrongFalsely : Prop := ratioLastsRow.holds Try.pinned (OpenSpec.ofChange ratioLastsWrong)

/-- 'springhouselaw02.RatioShares': WHATEVER THE INPUT: true; the input reads as it did. -/
def ratioSharesSpec : ChangeSpec := { name := "ratioShares", fn := fun _ => fun
  | [d1, d2, d3] => { results := [.lit (.bool true)], args := [d1, d2, d3] }
  | _ => none }
def ratioSharesRow : OpenClaim := { program := "ytlilnffcnjajdaa", sum := "d151e0921e363081e50e5f4d5a388b781693d2edcba428d4357cf347a1f3fbe5", func := "springhouse/springhouselaw02.RatioShares", spec := "ratioShares", inPlace := ["math.Float64frombits", "math.Float64bits", "math.archFloor", "math.archTrunc"], apart := false }
def RatioSharesSaid : Prop := ratioSharesRow.holds Try.pinned (OpenSpec.ofChange ratioSharesSpec)

/-- ITS FALSE NEIGHBOUR: 'it returns false'. Refute it at one input. -/
def ratioSharesWrong : ChangeSpec := { name := "ratioShares", fn := fun _ => fun
  | [d1, d2, d3] => { results := [.lit (.bool false)], args := [d1, d2, d3] }
  | _ => none }
def RatioSharesWrongFalsely : Prop := ratioSharesRow.holds Try.pinned (OpenSpec.ofChange ratioSharesWrong)

/- THE SECOND FORM. 'bulk': how many values and letters a reading holds, each counted each time it is reached (what is shared counts as often as it is met; a slice's spare places count too). A statement '..UptoSaid' is the law's where the arguments, and the package variables that the reading takes, are together of bulk at most 1048576: NARROWER than '..Said'. Prove '..Said' where nothing that the law and all that it calls make is longer than what came in: it says more and counts as full. Else prove '..UptoSaid'. A law counts once. -/
mutual
def uptoBulk {H : Type} : DataW H → Nat
  | .lit (.string bytes) => bytes.length + 1
  | .lit _ => 1
  | .nil => 1
  | .ptr d => uptoBulk d + 1
  | .slice elems spare => uptoBulkAll elems + uptoBulkAll spare + 1
  | .agg parts => uptoBulkAll parts + 1
  | .iface _ d => uptoBulk d + 1
  | .map entries => uptoBulkEntries entries + 1
  | .held _ => 1
def uptoBulkAll {H : Type} : List (DataW H) → Nat
  | [] => 0
  | d :: r => uptoBulk d + uptoBulkAll r
def uptoBulkEntries {H : Type} : List (Lit × DataW H) → Nat
  | [] => 0
  | x :: r => uptoBulkEntry x + uptoBulkEntries r
def uptoBulkEntry {H : Type} : Lit × DataW H → Nat
  | (.string bytes, d) => bytes.length + uptoBulk d + 1
  | (_, d) => uptoBulk d + 1
 end
def uptoSmall : (H : Type) → List (DataW H) → Bool := fun _ ds => decide (uptoBulkAll ds ≤ 1048576)
def OpenSpec.upto (s : _root_.Go.ChangeSpec) : _root_.Go.OpenSpec := { _root_.Go.OpenSpec.ofChange s with cond := some uptoSmall }

/-- 'springhouselaw24.ScanPlays', WHERE WHAT IT READS IS OF BULK AT MOST 1048576: true; the input reads as it did. -/
def scanPlaysUptoRow : OpenClaim := { program := "ytlilnffcnjajdaa", sum := "d151e0921e363081e50e5f4d5a388b781693d2edcba428d4357cf347a1f3fbe5", func := "springhouse/springhouselaw24.ScanPlays", spec := "scanPlays", unfollowed := true, recurses := true, apart := false, narrowed := true }
def ScanPlaysUptoSaid : Prop := scanPlaysUptoRow.holds Try.pinned (OpenSpec.upto scanPlaysSpec)

/-- 'springhouselaw24.ScanMakes', WHERE WHAT IT READS IS OF BULK AT MOST 1048576: true; the input reads as it did. -/
def scanMakesUptoRow : OpenClaim := { program := "ytlilnffcnjajdaa", sum := "d151e0921e363081e50e5f4d5a388b781693d2edcba428d4357cf347a1f3fbe5", func := "springhouse/springhouselaw24.ScanMakes", spec := "scanMakes", unfollowed := true, recurses := true, apart := false, narrowed := true }
def ScanMakesUptoSaid : Prop := scanMakesUptoRow.holds Try.pinned (OpenSpec.upto scanMakesSpec)

/-- 'springhouselaw02.RatioOrders', WHERE WHAT IT READS IS OF BULK AT MOST 1048576: true; the input reads as it did. -/
def ratioOrdersUptoRow : OpenClaim := { program := "ytlilnffcnjajdaa", sum := "d151e0921e363081e50e5f4d5a388b781693d2edcba428d4357cf347a1f3fbe5", func := "springhouse/springhouselaw02.RatioOrders", spec := "ratioOrders", inPlace := ["math.Float64frombits", "math.Float64bits"], apart := false, narrowed := true }
def RatioOrdersUptoSaid : Prop := ratioOrdersUptoRow.holds Try.pinned (OpenSpec.upto ratioOrdersSpec)

/-- 'springhouselaw02.RatioFixes', WHERE WHAT IT READS IS OF BULK AT MOST 1048576: true; the input reads as it did. -/
def ratioFixesUptoRow : OpenClaim := { program := "ytlilnffcnjajdaa", sum := "d151e0921e363081e50e5f4d5a388b781693d2edcba428d4357cf347a1f3fbe5", func := "springhouse/springhouselaw02.RatioFixes", spec := "ratioFixes", inPlace := ["math.Float64frombits", "math.Float64bits"], apart := false, narrowed := true }
def RatioFixesUptoSaid : Prop := ratioFixesUptoRow.holds Try.pinned (OpenSpec.upto ratioFixesSpec)

/-- 'springhouselaw02.RatioRates', WHERE WHAT IT READS IS OF BULK AT MOST 1048576: true; the input reads as it did. -/
def ratioRatesUptoRow : OpenClaim := { program := "ytlilnffcnjajdaa", sum := "d151e0921e363081e50e5f4d5a388b781693d2edcba428d4357cf347a1f3fbe5", func := "springhouse/springhouselaw02.RatioRates", spec := "ratioRates", inPlace := ["math.Float64bits", "math.Float64frombits"], apart := false, narrowed := true }
def RatioRatesUptoSaid : Prop := ratioRatesUptoRow.holds Try.pinned (OpenSpec.upto ratioRatesSpec)

/-- 'springhouselaw02.RatioBlends', WHERE WHAT IT READS IS OF BULK AT MOST 1048576: true; the input reads as it did. -/
def ratioBlendsUptoRow : OpenClaim := { program := "ytlilnffcnjajdaa", sum := "d151e0921e363081e50e5f4d5a388b781693d2edcba428d4357cf347a1f3fbe5", func := "springhouse/springhouselaw02.RatioBlends", spec := "ratioBlends", inPlace := ["math.Float64frombits", "math.Float64bits"], apart := false, narrowed := true }
def RatioBlendsUptoSaid : Prop := ratioBlendsUptoRow.holds Try.pinned (OpenSpec.upto ratioBlendsSpec)

/-- 'springhouselaw02.RatioLasts', WHERE WHAT IT READS IS OF BULK AT MOST 1048576: true; the input reads as it did. -/
def ratioLastsUptoRow : OpenClaim := { program := "ytlilnffcnjajdaa", sum := "d151e0921e363081e50e5f4d5a388b781693d2edcba428d4357cf347a1f3fbe5", func := "springhouse/springhouselaw02.RatioLasts", spec := "ratioLasts", inPlace := ["math.Float64frombits", "math.Float64bits"], apart := false, narrowed := true }
def RatioLastsUptoSaid : Prop := ratioLastsUptoRow.holds Try.pinned (OpenSpec.upto ratioLastsSpec)

/-- 'springhouselaw02.RatioShares', WHERE WHAT IT READS IS OF BULK AT MOST 1048576: true; the input reads as it did. -/
def ratioSharesUptoRow : OpenClaim := { program := "ytlilnffcnjajdaa", sum := "d151e0921e363081e50e5f4d5a388b781693d2edcba428d4357cf347a1f3fbe5", func := "springhouse/springhouselaw02.RatioShares", spec := "ratioShares", inPlace := ["math.Float64frombits", "math.Float64bits", "math.archFloor", "math.archTrunc"], apart := false, narrowed := true }
def RatioSharesUptoSaid : Prop := ratioSharesUptoRow.holds Try.pinned (OpenSpec.upto ratioSharesSpec)

end Rows
end Go.Proofs.Ytlilnffcnjajdaa
