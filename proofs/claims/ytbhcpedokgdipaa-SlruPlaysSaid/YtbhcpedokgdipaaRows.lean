/-
  No cell of these rows narrows 'for every input' (looked for: loops, veiled, ifaces, maps, wideKeys, modest, calm, conditions, laid).
  DERIVED. THE GIVEN ROWS OF THIS SEAT. 9 by the template 'for every input the law returns true; each argument reads behind the call as it read before'; 0 by the template 'total and deterministic' (their statements: YtbhcpedokgdipaaTotals.lean).
  GIVEN WITH THE SEED: the statements are not yours to turn. If you find one false, say at which input.
  Laid BY PROGRAM, IN A SANDBOX (cutbox-rows.mjs): the forced cells as the released guide's own fill.sh prints them over the translation 6ebbf912ee2f54bd… (all of the seat's roots in one cut). By AI agents, Wed Nov 11 2026. No macro, syntax, notation, axiom, sorry.
-/
import Derived.Test.YtbhcpedokgdipaaChecked
import GoSem.Claim
import GoSem.ClaimJoined
import GoSem.ClaimMapViews
import Derived.JoinedTies
import Derived.KernelRfl
namespace Go.Proofs.Ytbhcpedokgdipaa
/- THE CELL 'sum', in the pinned program and in every row, IS THE sha256 OF THE DUMP (.gsa) THAT YtbhcpedokgdipaaProg.lean LOADS. Nothing in Lean hashes anything: it is a label: what it is worth is what the hold of that sum in a sandbox is worth. -/
noncomputable def Try.pinned : Pinned := { name := "ytbhcpedokgdipaa", sum := "6ebbf912ee2f54bd4f8b69682cb53acb8e24f66c8241e6be41dd15b34839a79a", checked := Try.checked }
namespace Rows
def none {H : Type} : Left H := { results := [], args := [] }

/-- 'springhouselaw20.SketchPlays': WHATEVER THE INPUT: true; the input reads as it did. -/
def sketchPlaysSpec : ChangeSpec := { name := "sketchPlays", fn := fun _ => fun
  | [d1, d2, d3, d4] => { results := [.lit (.bool true)], args := [d1, d2, d3, d4] }
  | _ => none }
def sketchPlaysRow : OpenClaim := { program := "ytbhcpedokgdipaa", sum := "6ebbf912ee2f54bd4f8b69682cb53acb8e24f66c8241e6be41dd15b34839a79a", func := "springhouse/springhouselaw20.SketchPlays", spec := "sketchPlays", apart := false }
def SketchPlaysSaid : Prop := sketchPlaysRow.holds Try.pinned (OpenSpec.ofChange sketchPlaysSpec)

/-- ITS FALSE NEIGHBOUR: 'it returns false'. Refute it at one input. -/
def sketchPlaysWrong : ChangeSpec := { name := "sketchPlays", fn := fun _ => fun
  | [d1, d2, d3, d4] => { results := [.lit (.bool false)], args := [d1, d2, d3, d4] }
  | _ => none }
def SketchPlaysWrongFalsely : Prop := sketchPlaysRow.holds Try.pinned (OpenSpec.ofChange sketchPlaysWrong)

/-- 'springhouselaw20.SketchLeast': WHATEVER THE INPUT: true; the input reads as it did. -/
def sketchLeastSpec : ChangeSpec := { name := "sketchLeast", fn := fun _ => fun
  | [d1, d2, d3, d4] => { results := [.lit (.bool true)], args := [d1, d2, d3, d4] }
  | _ => none }
def sketchLeastRow : OpenClaim := { program := "ytbhcpedokgdipaa", sum := "6ebbf912ee2f54bd4f8b69682cb53acb8e24f66c8241e6be41dd15b34839a79a", func := "springhouse/springhouselaw20.SketchLeast", spec := "sketchLeast", apart := false }
def SketchLeastSaid : Prop := sketchLeastRow.holds Try.pinned (OpenSpec.ofChange sketchLeastSpec)

/-- ITS FALSE NEIGHBOUR: 'it returns false'. Refute it at one input. -/
def sketchLeastWrong : ChangeSpec := { name := "sketchLeast", fn := fun _ => fun
  | [d1, d2, d3, d4] => { results := [.lit (.bool false)], args := [d1, d2, d3, d4] }
  | _ => none }
def SketchLeastWrongFalsely : Prop := sketchLeastRow.holds Try.pinned (OpenSpec.ofChange sketchLeastWrong)

/-- 'springhouselaw20.SketchMakes': WHATEVER THE INPUT: true; the input reads as it did. -/
def sketchMakesSpec : ChangeSpec := { name := "sketchMakes", fn := fun _ => fun
  | [d1, d2, d3] => { results := [.lit (.bool true)], args := [d1, d2, d3] }
  | _ => none }
def sketchMakesRow : OpenClaim := { program := "ytbhcpedokgdipaa", sum := "6ebbf912ee2f54bd4f8b69682cb53acb8e24f66c8241e6be41dd15b34839a79a", func := "springhouse/springhouselaw20.SketchMakes", spec := "sketchMakes", apart := false }
def SketchMakesSaid : Prop := sketchMakesRow.holds Try.pinned (OpenSpec.ofChange sketchMakesSpec)

/-- ITS FALSE NEIGHBOUR: 'it returns false'. Refute it at one input. -/
def sketchMakesWrong : ChangeSpec := { name := "sketchMakes", fn := fun _ => fun
  | [d1, d2, d3] => { results := [.lit (.bool false)], args := [d1, d2, d3] }
  | _ => none }
def SketchMakesWrongFalsely : Prop := sketchMakesRow.holds Try.pinned (OpenSpec.ofChange sketchMakesWrong)

/-- 'springhouselaw21.TinyPlays': WHATEVER THE INPUT: true; the input reads as it did. -/
def tinyPlaysSpec : ChangeSpec := { name := "tinyPlays", fn := fun _ => fun
  | [d1, d2, d3, d4, d5] => { results := [.lit (.bool true)], args := [d1, d2, d3, d4, d5] }
  | _ => none }
def tinyPlaysRow : OpenClaim := { program := "ytbhcpedokgdipaa", sum := "6ebbf912ee2f54bd4f8b69682cb53acb8e24f66c8241e6be41dd15b34839a79a", func := "springhouse/springhouselaw21.TinyPlays", spec := "tinyPlays", apart := false }
def TinyPlaysSaid : Prop := tinyPlaysRow.holds Try.pinned (OpenSpec.ofChange tinyPlaysSpec)

/-- ITS FALSE NEIGHBOUR: 'it returns false'. Refute it at one input. -/
def tinyPlaysWrong : ChangeSpec := { name := "tinyPlays", fn := fun _ => fun
  | [d1, d2, d3, d4, d5] => { results := [.lit (.bool false)], args := [d1, d2, d3, d4, d5] }
  | _ => none }
def TinyPlaysWrongFalsely : Prop := tinyPlaysRow.holds Try.pinned (OpenSpec.ofChange tinyPlaysWrong)

/-- 'springhouselaw21.TinyMakes': WHATEVER THE INPUT: true; the input reads as it did. -/
def tinyMakesSpec : ChangeSpec := { name := "tinyMakes", fn := fun _ => fun
  | [d1, d2, d3, d4] => { results := [.lit (.bool true)], args := [d1, d2, d3, d4] }
  | _ => none }
def tinyMakesRow : OpenClaim := { program := "ytbhcpedokgdipaa", sum := "6ebbf912ee2f54bd4f8b69682cb53acb8e24f66c8241e6be41dd15b34839a79a", func := "springhouse/springhouselaw21.TinyMakes", spec := "tinyMakes", apart := false }
def TinyMakesSaid : Prop := tinyMakesRow.holds Try.pinned (OpenSpec.ofChange tinyMakesSpec)

/-- ITS FALSE NEIGHBOUR: 'it returns false'. Refute it at one input. -/
def tinyMakesWrong : ChangeSpec := { name := "tinyMakes", fn := fun _ => fun
  | [d1, d2, d3, d4] => { results := [.lit (.bool false)], args := [d1, d2, d3, d4] }
  | _ => none }
def TinyMakesWrongFalsely : Prop := tinyMakesRow.holds Try.pinned (OpenSpec.ofChange tinyMakesWrong)

/-- 'springhouselaw21.TinyAdmits': WHATEVER THE INPUT: true; the input reads as it did. -/
def tinyAdmitsSpec : ChangeSpec := { name := "tinyAdmits", fn := fun _ => fun
  | [d1, d2, d3, d4, d5, d6, d7] => { results := [.lit (.bool true)], args := [d1, d2, d3, d4, d5, d6, d7] }
  | _ => none }
def tinyAdmitsRow : OpenClaim := { program := "ytbhcpedokgdipaa", sum := "6ebbf912ee2f54bd4f8b69682cb53acb8e24f66c8241e6be41dd15b34839a79a", func := "springhouse/springhouselaw21.TinyAdmits", spec := "tinyAdmits", inPlace := ["math.Float64frombits"], apart := false }
def TinyAdmitsSaid : Prop := tinyAdmitsRow.holds Try.pinned (OpenSpec.ofChange tinyAdmitsSpec)

/-- ITS FALSE NEIGHBOUR: 'it returns false'. Refute it at one input. -/
def tinyAdmitsWrong : ChangeSpec := { name := "tinyAdmits", fn := fun _ => fun
  | [d1, d2, d3, d4, d5, d6, d7] => { results := [.lit (.bool false)], args := [d1, d2, d3, d4, d5, d6, d7] }
  | _ => none }
def TinyAdmitsWrongFalsely : Prop := tinyAdmitsRow.holds Try.pinned (OpenSpec.ofChange tinyAdmitsWrong)

/-- 'springhouselaw22.SlruKeeps': WHATEVER THE INPUT: true; the input reads as it did. -/
def slruKeepsSpec : ChangeSpec := { name := "slruKeeps", fn := fun _ => fun
  | [d1, d2, d3] => { results := [.lit (.bool true)], args := [d1, d2, d3] }
  | _ => none }
def slruKeepsRow : OpenClaim := { program := "ytbhcpedokgdipaa", sum := "6ebbf912ee2f54bd4f8b69682cb53acb8e24f66c8241e6be41dd15b34839a79a", func := "springhouse/springhouselaw22.SlruKeeps", spec := "slruKeeps", inPlace := ["math.Float64frombits", "math.Float64bits"], unfollowed := true, recurses := true, apart := false }
def SlruKeepsSaid : Prop := slruKeepsRow.holds Try.pinned (OpenSpec.ofChange slruKeepsSpec)

/-- ITS FALSE NEIGHBOUR: 'it returns false'. Refute it at one input. -/
def slruKeepsWrong : ChangeSpec := { name := "slruKeeps", fn := fun _ => fun
  | [d1, d2, d3] => { results := [.lit (.bool false)], args := [d1, d2, d3] }
  | _ => none }
def SlruKeepsWrongFalsely : Prop := slruKeepsRow.holds Try.pinned (OpenSpec.ofChange slruKeepsWrong)

/-- 'springhouselaw22.SlruMakes': WHATEVER THE INPUT: true; the input reads as it did. -/
def slruMakesSpec : ChangeSpec := { name := "slruMakes", fn := fun _ => fun
  | [d1, d2, d3] => { results := [.lit (.bool true)], args := [d1, d2, d3] }
  | _ => none }
def slruMakesRow : OpenClaim := { program := "ytbhcpedokgdipaa", sum := "6ebbf912ee2f54bd4f8b69682cb53acb8e24f66c8241e6be41dd15b34839a79a", func := "springhouse/springhouselaw22.SlruMakes", spec := "slruMakes", inPlace := ["math.Float64frombits", "math.Float64bits"], unfollowed := true, recurses := true, apart := false }
def SlruMakesSaid : Prop := slruMakesRow.holds Try.pinned (OpenSpec.ofChange slruMakesSpec)

/-- ITS FALSE NEIGHBOUR: 'it returns false'. Refute it at one input. -/
def slruMakesWrong : ChangeSpec := { name := "slruMakes", fn := fun _ => fun
  | [d1, d2, d3] => { results := [.lit (.bool false)], args := [d1, d2, d3] }
  | _ => none }
def SlruMakesWrongFalsely : Prop := slruMakesRow.holds Try.pinned (OpenSpec.ofChange slruMakesWrong)

/-- 'springhouselaw22.SlruPlays': WHATEVER THE INPUT: true; the input reads as it did. -/
def slruPlaysSpec : ChangeSpec := { name := "slruPlays", fn := fun _ => fun
  | [d1, d2, d3, d4] => { results := [.lit (.bool true)], args := [d1, d2, d3, d4] }
  | _ => none }
def slruPlaysRow : OpenClaim := { program := "ytbhcpedokgdipaa", sum := "6ebbf912ee2f54bd4f8b69682cb53acb8e24f66c8241e6be41dd15b34839a79a", func := "springhouse/springhouselaw22.SlruPlays", spec := "slruPlays", inPlace := ["math.Float64frombits", "math.Float64bits", "math.archFloor", "math.archTrunc"], unfollowed := true, recurses := true, apart := false }
def SlruPlaysSaid : Prop := slruPlaysRow.holds Try.pinned (OpenSpec.ofChange slruPlaysSpec)

/-- ITS FALSE NEIGHBOUR: 'it returns false'. Refute it at one input. -/
def slruPlaysWrong : ChangeSpec := { name := "slruPlays", fn := fun _ => fun
  | [d1, d2, d3, d4] => { results := [.lit (.bool false)], args := [d1, d2, d3, d4] }
  | _ => none }
def SlruPlaysWrongFalsely : Prop := slruPlaysRow.holds Try.pinned (OpenSpec.ofChange slruPlaysWrong)

/- THE SECOND FORM. 'bulk': how many values and letters a reading holds, each counted each time it is reached (what is shared counts as often as it is met; a slice's spare places count too). A statement '..UptoSaid' is the law's where the arguments, and the package variables that the reading takes, are together of bulk at most 1048576: NARROWER than '..Said'. Prove '..Said' where nothing that the law and all that it calls make is longer than what came in: it says more and counts as full. Else prove '..UptoSaid'. A law counts once. -/
mutual
def uptoBulk {H : Type} : DataW H → Nat
  | .lit (.string bytes) => bytes.length + 1
  | .lit _ => 1
  | .nil => 1
  | .ptr d => uptoBulk d + 1
  | .slice elems spare => uptoBulkAll elems + uptoBulkAll spare + 1
  | .agg parts => uptoBulkAll parts + 1
  | .iface _ d => uptoBulk d + 1
  | .map entries => uptoBulkEntries entries + 1
  | .held _ => 1
def uptoBulkAll {H : Type} : List (DataW H) → Nat
  | [] => 0
  | d :: r => uptoBulk d + uptoBulkAll r
def uptoBulkEntries {H : Type} : List (Lit × DataW H) → Nat
  | [] => 0
  | x :: r => uptoBulkEntry x + uptoBulkEntries r
def uptoBulkEntry {H : Type} : Lit × DataW H → Nat
  | (.string bytes, d) => bytes.length + uptoBulk d + 1
  | (_, d) => uptoBulk d + 1
 end
def uptoSmall : (H : Type) → List (DataW H) → Bool := fun _ ds => decide (uptoBulkAll ds ≤ 1048576)
def OpenSpec.upto (s : _root_.Go.ChangeSpec) : _root_.Go.OpenSpec := { _root_.Go.OpenSpec.ofChange s with cond := some uptoSmall }

/-- 'springhouselaw20.SketchPlays', WHERE WHAT IT READS IS OF BULK AT MOST 1048576: true; the input reads as it did. -/
def sketchPlaysUptoRow : OpenClaim := { program := "ytbhcpedokgdipaa", sum := "6ebbf912ee2f54bd4f8b69682cb53acb8e24f66c8241e6be41dd15b34839a79a", func := "springhouse/springhouselaw20.SketchPlays", spec := "sketchPlays", apart := false, narrowed := true }
def SketchPlaysUptoSaid : Prop := sketchPlaysUptoRow.holds Try.pinned (OpenSpec.upto sketchPlaysSpec)

/-- 'springhouselaw20.SketchLeast', WHERE WHAT IT READS IS OF BULK AT MOST 1048576: true; the input reads as it did. -/
def sketchLeastUptoRow : OpenClaim := { program := "ytbhcpedokgdipaa", sum := "6ebbf912ee2f54bd4f8b69682cb53acb8e24f66c8241e6be41dd15b34839a79a", func := "springhouse/springhouselaw20.SketchLeast", spec := "sketchLeast", apart := false, narrowed := true }
def SketchLeastUptoSaid : Prop := sketchLeastUptoRow.holds Try.pinned (OpenSpec.upto sketchLeastSpec)

/-- 'springhouselaw20.SketchMakes', WHERE WHAT IT READS IS OF BULK AT MOST 1048576: true; the input reads as it did. -/
def sketchMakesUptoRow : OpenClaim := { program := "ytbhcpedokgdipaa", sum := "6ebbf912ee2f54bd4f8b69682cb53acb8e24f66c8241e6be41dd15b34839a79a", func := "springhouse/springhouselaw20.SketchMakes", spec := "sketchMakes", apart := false, narrowed := true }
def SketchMakesUptoSaid : Prop := sketchMakesUptoRow.holds Try.pinned (OpenSpec.upto sketchMakesSpec)

/-- 'springhouselaw21.TinyPlays', WHERE WHAT IT READS IS OF BULK AT MOST 1048576: true; the input reads as it did. -/
def tinyPlaysUptoRow : OpenClaim := { program := "ytbhcpedokgdipaa", sum := "6ebbf912ee2f54bd4f8b69682cb53acb8e24f66c8241e6be41dd15b34839a79a", func := "springhouse/springhouselaw21.TinyPlays", spec := "tinyPlays", apart := false, narrowed := true }
def TinyPlaysUptoSaid : Prop := tinyPlaysUptoRow.holds Try.pinned (OpenSpec.upto tinyPlaysSpec)

/-- 'springhouselaw21.TinyMakes', WHERE WHAT IT READS IS OF BULK AT MOST 1048576: true; the input reads as it did. -/
def tinyMakesUptoRow : OpenClaim := { program := "ytbhcpedokgdipaa", sum := "6ebbf912ee2f54bd4f8b69682cb53acb8e24f66c8241e6be41dd15b34839a79a", func := "springhouse/springhouselaw21.TinyMakes", spec := "tinyMakes", apart := false, narrowed := true }
def TinyMakesUptoSaid : Prop := tinyMakesUptoRow.holds Try.pinned (OpenSpec.upto tinyMakesSpec)

/-- 'springhouselaw21.TinyAdmits', WHERE WHAT IT READS IS OF BULK AT MOST 1048576: true; the input reads as it did. -/
def tinyAdmitsUptoRow : OpenClaim := { program := "ytbhcpedokgdipaa", sum := "6ebbf912ee2f54bd4f8b69682cb53acb8e24f66c8241e6be41dd15b34839a79a", func := "springhouse/springhouselaw21.TinyAdmits", spec := "tinyAdmits", inPlace := ["math.Float64frombits"], apart := false, narrowed := true }
def TinyAdmitsUptoSaid : Prop := tinyAdmitsUptoRow.holds Try.pinned (OpenSpec.upto tinyAdmitsSpec)

/-- 'springhouselaw22.SlruKeeps', WHERE WHAT IT READS IS OF BULK AT MOST 1048576: true; the input reads as it did. -/
def slruKeepsUptoRow : OpenClaim := { program := "ytbhcpedokgdipaa", sum := "6ebbf912ee2f54bd4f8b69682cb53acb8e24f66c8241e6be41dd15b34839a79a", func := "springhouse/springhouselaw22.SlruKeeps", spec := "slruKeeps", inPlace := ["math.Float64frombits", "math.Float64bits"], unfollowed := true, recurses := true, apart := false, narrowed := true }
def SlruKeepsUptoSaid : Prop := slruKeepsUptoRow.holds Try.pinned (OpenSpec.upto slruKeepsSpec)

/-- 'springhouselaw22.SlruMakes', WHERE WHAT IT READS IS OF BULK AT MOST 1048576: true; the input reads as it did. -/
def slruMakesUptoRow : OpenClaim := { program := "ytbhcpedokgdipaa", sum := "6ebbf912ee2f54bd4f8b69682cb53acb8e24f66c8241e6be41dd15b34839a79a", func := "springhouse/springhouselaw22.SlruMakes", spec := "slruMakes", inPlace := ["math.Float64frombits", "math.Float64bits"], unfollowed := true, recurses := true, apart := false, narrowed := true }
def SlruMakesUptoSaid : Prop := slruMakesUptoRow.holds Try.pinned (OpenSpec.upto slruMakesSpec)

/-- 'springhouselaw22.SlruPlays', WHERE WHAT IT READS IS OF BULK AT MOST 1048576: true; the input reads as it did. -/
def slruPlaysUptoRow : OpenClaim := { program := "ytbhcpedokgdipaa", sum := "6ebbf912ee2f54bd4f8b69682cb53acb8e24f66c8241e6be41dd15b34839a79a", func := "springhouse/springhouselaw22.SlruPlays", spec := "slruPlays", inPlace := ["math.Float64frombits", "math.Float64bits", "math.archFloor", "math.archTrunc"], unfollowed := true, recurses := true, apart := false, narrowed := true }
def SlruPlaysUptoSaid : Prop := slruPlaysUptoRow.holds Try.pinned (OpenSpec.upto slruPlaysSpec)

end Rows
end Go.Proofs.Ytbhcpedokgdipaa
