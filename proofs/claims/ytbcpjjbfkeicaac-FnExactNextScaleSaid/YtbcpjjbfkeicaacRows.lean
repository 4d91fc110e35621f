/-
  No cell of these rows narrows 'for every input' (looked for: loops, veiled, ifaces, maps, wideKeys, modest, calm, conditions, laid).
  DERIVED. THE GIVEN ROWS OF THIS SEAT. 2 by the template 'for every input the law returns true; each argument reads behind the call as it read before'; 0 by the template 'total and deterministic' (their statements: YtbcpjjbfkeicaacTotals.lean).
  GIVEN WITH THE SEED: the statements are not yours to turn. If you find one false, say at which input.
  Laid BY PROGRAM, IN A SANDBOX (cutbox-rows.mjs): the forced cells as the released guide's own fill.sh prints them over the translation 52311c3826bbc027… (all of the seat's roots in one cut). By AI agents, Wed Nov 11 2026. No macro, syntax, notation, axiom, sorry.
-/
import Derived.Test.YtbcpjjbfkeicaacChecked
import GoSem.Claim
import GoSem.ClaimJoined
import GoSem.ClaimMapViews
import Derived.JoinedTies
import Derived.KernelRfl
namespace Go.Proofs.Ytbcpjjbfkeicaac
/- THE CELL 'sum', in the pinned program and in every row, IS THE sha256 OF THE DUMP (.gsa) THAT YtbcpjjbfkeicaacProg.lean LOADS. Nothing in Lean hashes anything: it is a label: what it is worth is what the hold of that sum in a sandbox is worth. -/
noncomputable def Try.pinned : Pinned := { name := "ytbcpjjbfkeicaac", sum := "52311c3826bbc027f7730e2fec96a205ff1c0ab8923d2f9caba52049b4622141", checked := Try.checked }
namespace Rows
def none {H : Type} : Left H := { results := [], args := [] }

/-- 'laws.FnExactNextScale': WHATEVER THE INPUT: true; the input reads as it did. -/
def fnExactNextScaleSpec : ChangeSpec := { name := "fnExactNextScale", fn := fun _ => fun
  | [d1, d2] => { results := [.lit (.bool true)], args := [d1, d2] }
  | _ => none }
def fnExactNextScaleRow : OpenClaim := { program := "ytbcpjjbfkeicaac", sum := "52311c3826bbc027f7730e2fec96a205ff1c0ab8923d2f9caba52049b4622141", func := "loop.example/g01157/laws.FnExactNextScale", spec := "fnExactNextScale", apart := false }
def FnExactNextScaleSaid : Prop := fnExactNextScaleRow.holds Try.pinned (OpenSpec.ofChange fnExactNextScaleSpec)

/-- ITS FALSE NEIGHBOUR: 'it returns false'. Refute it at one input. -/
def fnExactNextScaleWrong : ChangeSpec := { name := "fnExactNextScale", fn := fun _ => fun
  | [d1, d2] => { results := [.lit (.bool false)], args := [d1, d2] }
  | _ => none }
def FnExactNextScaleWrongFalsely : Prop := fnExactNextScaleRow.holds Try.pinned (OpenSpec.ofChange fnExactNextScaleWrong)

/-- 'laws.FnExactDotOfCodes': WHATEVER THE INPUT: true; the input reads as it did. -/
def fnExactDotOfCodesSpec : ChangeSpec := { name := "fnExactDotOfCodes", fn := fun _ => fun
  | [d1, d2, d3, d4] => { results := [.lit (.bool true)], args := [d1, d2, d3, d4] }
  | _ => none }
def fnExactDotOfCodesRow : OpenClaim := { program := "ytbcpjjbfkeicaac", sum := "52311c3826bbc027f7730e2fec96a205ff1c0ab8923d2f9caba52049b4622141", func := "loop.example/g01157/laws.FnExactDotOfCodes", spec := "fnExactDotOfCodes", inPlace := ["math.Float32bits", "math.Float64bits"], unfollowed := true, recurses := true, apart := false }
def FnExactDotOfCodesSaid : Prop := fnExactDotOfCodesRow.holds Try.pinned (OpenSpec.ofChange fnExactDotOfCodesSpec)

/-- ITS FALSE NEIGHBOUR: 'it returns false'. Refute it at one input. -/
def fnExactDotOfCodesWrong : ChangeSpec := { name := "fnExactDotOfCodes", fn := fun _ => fun
  | [d1, d2, d3, d4] => { results := [.lit (.bool false)], args := [d1, d2, d3, d4] }
  | _ => none }
def FnExactDotOfCodesWrongFalsely : Prop := fnExactDotOfCodesRow.holds Try.pinned (OpenSpec.ofChange fnExactDotOfCodesWrong)

/- THE SECOND FORM. 'bulk': how many values and letters a reading holds, each counted each time it is reached (what is shared counts as often as it is met; a slice's spare places count too). A statement '..UptoSaid' is the law's where the arguments, and the package variables that the reading takes, are together of bulk at most 1048576: NARROWER than '..Said'. Prove '..Said' where nothing that the law and all that it calls make is longer than what came in: it says more and counts as full. Else prove '..UptoSaid'. A law counts once. -/
mutual
def uptoBulk {H : Type} : DataW H → Nat
  | .lit (.string bytes) => bytes.length + 1
  | .lit _ => 1
  | .nil => 1
  | .ptr d => uptoBulk d + 1
  | .slice elems spare => uptoBulkAll elems + uptoBulkAll spare + 1
  | .agg parts => uptoBulkAll parts + 1
  | .iface _ d => uptoBulk d + 1
  | .map entries => uptoBulkEntries entries + 1
  | .held _ => 1
def uptoBulkAll {H : Type} : List (DataW H) → Nat
  | [] => 0
  | d :: r => uptoBulk d + uptoBulkAll r
def uptoBulkEntries {H : Type} : List (Lit × DataW H) → Nat
  | [] => 0
  | x :: r => uptoBulkEntry x + uptoBulkEntries r
def uptoBulkEntry {H : Type} : Lit × DataW H → Nat
  | (.string bytes, d) => bytes.length + uptoBulk d + 1
  | (_, d) => uptoBulk d + 1
 end
def uptoSmall : (H : Type) → List (DataW H) → Bool := fun _ ds => decide (uptoBulkAll ds ≤ 1048576)
def OpenSpec.upto (s : _root_.Go.ChangeSpec) : _root_.Go.OpenSpec := { _root_.Go.OpenSpec.ofChange s with cond := some uptoSmall }

/-- 'laws.FnExactNextScale', WHERE WHAT IT READS IS OF BULK AT MOST 1048576: true; the input reads as it did. -/
def fnExactNextScaleUptoRow : OpenClaim := { program := "ytbcpjjbfkeicaac", sum := "52311c3826bbc027f7730e2fec96a205ff1c0ab8923d2f9caba52049b4622141", func := "loop.example/g01157/laws.FnExactNextScale", spec := "fnExactNextScale", apart := false, narrowed := true }
def FnExactNextScaleUptoSaid : Prop := fnExactNextScaleUptoRow.holds Try.pinned (OpenSpec.upto fnExactNextScaleSpec)

/-- 'laws.FnExactDotOfCodes', WHERE WHAT IT READS IS OF BULK AT MOST 1048576: true; the input reads as it did. -/
def fnExactDotOfCodesUptoRow : OpenClaim := { program := "ytbcpjjbfkeicaac", sum := "52311c3826bbc027f7730e2fec96a205ff1c0ab8923d2f9caba52049b4622141", func := "loop.example/g01157/laws.FnExactDotOfCodes", spec := "fnExactDotOfCodes", inPlace := ["math.Float32bits", "math.Float64bits"], unfollowed := true, recurses := true, apart := false, narrowed := true }
def FnExactDotOfCodesUptoSaid : Prop := fnExactDotOfCodesUptoRow.holds Try.pinned (OpenSpec.upto fnExactDotOfCodesSpec)

end Rows
end Go.Proofs.Ytbcpjjbfkeicaac
