/-
  No cell of these rows narrows 'for every input' (looked for: loops, veiled, ifaces, maps, wideKeys, modest, calm, conditions, laid).
  DERIVED. THE GIVEN ROWS OF THIS SEAT. 12 by the template 'for every input the law returns true; each argument reads behind the call as it read before'; 0 by the template 'total and deterministic' (their statements: YtpemhiaeiecinaaTotals.lean).
  GIVEN WITH THE SEED: the statements are not yours to turn. If you find one false, say at which input.
  Laid BY PROGRAM, IN A SANDBOX (cutbox-rows.mjs): the forced cells as the released guide's own fill.sh prints them over the translation 2993de78a1ade086… (all of the seat's roots in one cut). By AI agents, Wed Nov 11 2026. No macro, syntax, notation, axiom, sorry.
-/
import Derived.Test.YtpemhiaeiecinaaChecked
import GoSem.Claim
import GoSem.ClaimJoined
import GoSem.ClaimMapViews
import Derived.JoinedTies
import Derived.KernelRfl
namespace Go.Proofs.Ytpemhiaeiecinaa
/- THE CELL 'sum', in the pinned program and in every row, IS THE sha256 OF THE DUMP (.gsa) THAT YtpemhiaeiecinaaProg.lean LOADS. Nothing in Lean hashes anything: it is a label: what it is worth is what the hold of that sum in a sandbox is worth. -/
noncomputable def Try.pinned : Pinned := { name := "ytpemhiaeiecinaa", sum := "2993de78a1ade08698053b9d191aab35fe49ee93c9607ffea633971c3b4f4a2a", checked := Try.checked }
namespace Rows
def none {H : Type} : Left H := { results := [], args := [] }

/-- 'laws.FnExactProducts': WHATEVER THE INPUT: true; the input reads as it did. -/
def fnExactProductsSpec : ChangeSpec := { name := "fnExactProducts", fn := fun _ => fun
  | [d1, d2] => { results := [.lit (.bool true)], args := [d1, d2] }
  | _ => none }
def fnExactProductsRow : OpenClaim := { program := "ytpemhiaeiecinaa", sum := "2993de78a1ade08698053b9d191aab35fe49ee93c9607ffea633971c3b4f4a2a", func := "loop.example/g01157/laws.FnExactProducts", spec := "fnExactProducts", inPlace := ["math.Float64bits", "math.Float64frombits"], unfollowed := true, recurses := true, apart := false }
def FnExactProductsSaid : Prop := fnExactProductsRow.holds Try.pinned (OpenSpec.ofChange fnExactProductsSpec)

/-- ITS FALSE NEIGHBOUR: 'it returns false'. Refute it at one input. -/
def fnExactProductsWrong : ChangeSpec := { name := "fnExactProducts", fn := fun _ => fun
  | [d1, d2] => { results := [.lit (.bool false)], args := [d1, d2] }
  | _ => none }
def FnExactProductsWrongFalsely : Prop := fnExactProductsRow.holds Try.pinned (OpenSpec.ofChange fnExactProductsWrong)

/-- 'laws.FnParts': WHATEVER THE INPUT: true; the input reads as it did. -/
def fnPartsSpec : ChangeSpec := { name := "fnParts", fn := fun _ => fun
  | [d1, d2] => { results := [.lit (.bool true)], args := [d1, d2] }
  | _ => none }
def fnPartsRow : OpenClaim := { program := "ytpemhiaeiecinaa", sum := "2993de78a1ade08698053b9d191aab35fe49ee93c9607ffea633971c3b4f4a2a", func := "loop.example/g01157/laws.FnParts", spec := "fnParts", inPlace := ["math.Float32frombits", "math.Float64bits"], unfollowed := true, recurses := true, apart := false }
def FnPartsSaid : Prop := fnPartsRow.holds Try.pinned (OpenSpec.ofChange fnPartsSpec)

/-- ITS FALSE NEIGHBOUR: 'it returns false'. Refute it at one input. -/
def fnPartsWrong : ChangeSpec := { name := "fnParts", fn := fun _ => fun
  | [d1, d2] => { results := [.lit (.bool false)], args := [d1, d2] }
  | _ => none }
def FnPartsWrongFalsely : Prop := fnPartsRow.holds Try.pinned (OpenSpec.ofChange fnPartsWrong)

/-- 'laws.FnRounded': WHATEVER THE INPUT: true; the input reads as it did. -/
def fnRoundedSpec : ChangeSpec := { name := "fnRounded", fn := fun _ => fun
  | [d1, d2] => { results := [.lit (.bool true)], args := [d1, d2] }
  | _ => none }
def fnRoundedRow : OpenClaim := { program := "ytpemhiaeiecinaa", sum := "2993de78a1ade08698053b9d191aab35fe49ee93c9607ffea633971c3b4f4a2a", func := "loop.example/g01157/laws.FnRounded", spec := "fnRounded", inPlace := ["math.Float32frombits", "math.Float64frombits", "math.Float32bits"], unfollowed := true, recurses := true, apart := false }
def FnRoundedSaid : Prop := fnRoundedRow.holds Try.pinned (OpenSpec.ofChange fnRoundedSpec)

/-- ITS FALSE NEIGHBOUR: 'it returns false'. Refute it at one input. -/
def fnRoundedWrong : ChangeSpec := { name := "fnRounded", fn := fun _ => fun
  | [d1, d2] => { results := [.lit (.bool false)], args := [d1, d2] }
  | _ => none }
def FnRoundedWrongFalsely : Prop := fnRoundedRow.holds Try.pinned (OpenSpec.ofChange fnRoundedWrong)

/-- 'laws.FnForms': WHATEVER THE INPUT: true; the input reads as it did. -/
def fnFormsSpec : ChangeSpec := { name := "fnForms", fn := fun _ => fun
  | [d1, d2] => { results := [.lit (.bool true)], args := [d1, d2] }
  | _ => none }
def fnFormsRow : OpenClaim := { program := "ytpemhiaeiecinaa", sum := "2993de78a1ade08698053b9d191aab35fe49ee93c9607ffea633971c3b4f4a2a", func := "loop.example/g01157/laws.FnForms", spec := "fnForms", inPlace := ["math.Float32frombits", "math.Float32bits", "math.sqrt", "math.Float64frombits"], unfollowed := true, recurses := true, apart := false }
def FnFormsSaid : Prop := fnFormsRow.holds Try.pinned (OpenSpec.ofChange fnFormsSpec)

/-- ITS FALSE NEIGHBOUR: 'it returns false'. Refute it at one input. -/
def fnFormsWrong : ChangeSpec := { name := "fnForms", fn := fun _ => fun
  | [d1, d2] => { results := [.lit (.bool false)], args := [d1, d2] }
  | _ => none }
def FnFormsWrongFalsely : Prop := fnFormsRow.holds Try.pinned (OpenSpec.ofChange fnFormsWrong)

/-- 'laws.FnExactWideSlope': WHATEVER THE INPUT: true; the input reads as it did. -/
def fnExactWideSlopeSpec : ChangeSpec := { name := "fnExactWideSlope", fn := fun _ => fun
  | [d1, d2, d3, d4] => { results := [.lit (.bool true)], args := [d1, d2, d3, d4] }
  | _ => none }
def fnExactWideSlopeRow : OpenClaim := { program := "ytpemhiaeiecinaa", sum := "2993de78a1ade08698053b9d191aab35fe49ee93c9607ffea633971c3b4f4a2a", func := "loop.example/g01157/laws.FnExactWideSlope", spec := "fnExactWideSlope", inPlace := ["math.Float32bits", "math.Float64bits"], unfollowed := true, recurses := true, apart := false }
def FnExactWideSlopeSaid : Prop := fnExactWideSlopeRow.holds Try.pinned (OpenSpec.ofChange fnExactWideSlopeSpec)

/-- ITS FALSE NEIGHBOUR: 'it returns false'. Refute it at one input. -/
def fnExactWideSlopeWrong : ChangeSpec := { name := "fnExactWideSlope", fn := fun _ => fun
  | [d1, d2, d3, d4] => { results := [.lit (.bool false)], args := [d1, d2, d3, d4] }
  | _ => none }
def FnExactWideSlopeWrongFalsely : Prop := fnExactWideSlopeRow.holds Try.pinned (OpenSpec.ofChange fnExactWideSlopeWrong)

/-- 'laws.FnExactModelTape': WHATEVER THE INPUT: true; the input reads as it did. -/
def fnExactModelTapeSpec : ChangeSpec := { name := "fnExactModelTape", fn := fun _ => fun
  | [d1, d2, d3] => { results := [.lit (.bool true)], args := [d1, d2, d3] }
  | _ => none }
def fnExactModelTapeRow : OpenClaim := { program := "ytpemhiaeiecinaa", sum := "2993de78a1ade08698053b9d191aab35fe49ee93c9607ffea633971c3b4f4a2a", func := "loop.example/g01157/laws.FnExactModelTape", spec := "fnExactModelTape", unfollowed := true, recurses := true, apart := false }
def FnExactModelTapeSaid : Prop := fnExactModelTapeRow.holds Try.pinned (OpenSpec.ofChange fnExactModelTapeSpec)

/-- ITS FALSE NEIGHBOUR: 'it returns false'. Refute it at one input. -/
def fnExactModelTapeWrong : ChangeSpec := { name := "fnExactModelTape", fn := fun _ => fun
  | [d1, d2, d3] => { results := [.lit (.bool false)], args := [d1, d2, d3] }
  | _ => none }
def FnExactModelTapeWrongFalsely : Prop := fnExactModelTapeRow.holds Try.pinned (OpenSpec.ofChange fnExactModelTapeWrong)

/-- 'laws.FnExactRunWide': WHATEVER THE INPUT: true; the input reads as it did. -/
def fnExactRunWideSpec : ChangeSpec := { name := "fnExactRunWide", fn := fun _ => fun
  | [d] => { results := [.lit (.bool true)], args := [d] }
  | _ => none }
def fnExactRunWideRow : OpenClaim := { program := "ytpemhiaeiecinaa", sum := "2993de78a1ade08698053b9d191aab35fe49ee93c9607ffea633971c3b4f4a2a", func := "loop.example/g01157/laws.FnExactRunWide", spec := "fnExactRunWide", inPlace := ["math.Float32bits", "math.Float64bits"], apart := false }
def FnExactRunWideSaid : Prop := fnExactRunWideRow.holds Try.pinned (OpenSpec.ofChange fnExactRunWideSpec)

/-- ITS FALSE NEIGHBOUR: 'it returns false'. Refute it at one input. -/
def fnExactRunWideWrong : ChangeSpec := { name := "fnExactRunWide", fn := fun _ => fun
  | [d] => { results := [.lit (.bool false)], args := [d] }
  | _ => none }
def FnExactRunWideWrongFalsely : Prop := fnExactRunWideRow.holds Try.pinned (OpenSpec.ofChange fnExactRunWideWrong)

/-- 'laws.FnTapes': WHATEVER THE INPUT: true; the input reads as it did. -/
def fnTapesSpec : ChangeSpec := { name := "fnTapes", fn := fun _ => fun
  | [d1, d2] => { results := [.lit (.bool true)], args := [d1, d2] }
  | _ => none }
def fnTapesRow : OpenClaim := { program := "ytpemhiaeiecinaa", sum := "2993de78a1ade08698053b9d191aab35fe49ee93c9607ffea633971c3b4f4a2a", func := "loop.example/g01157/laws.FnTapes", spec := "fnTapes", inPlace := ["math.Float32frombits", "math.Float32bits", "math.Float64bits"], unfollowed := true, recurses := true, apart := false }
def FnTapesSaid : Prop := fnTapesRow.holds Try.pinned (OpenSpec.ofChange fnTapesSpec)

/-- ITS FALSE NEIGHBOUR: 'it returns false'. Refute it at one input. -/
def fnTapesWrong : ChangeSpec := { name := "fnTapes", fn := fun _ => fun
  | [d1, d2] => { results := [.lit (.bool false)], args := [d1, d2] }
  | _ => none }
def FnTapesWrongFalsely : Prop := fnTapesRow.holds Try.pinned (OpenSpec.ofChange fnTapesWrong)

/-- 'laws.FnUsed': WHATEVER THE INPUT: true; the input reads as it did. -/
def fnUsedSpec : ChangeSpec := { name := "fnUsed", fn := fun _ => fun
  | [d1, d2] => { results := [.lit (.bool true)], args := [d1, d2] }
  | _ => none }
def fnUsedRow : OpenClaim := { program := "ytpemhiaeiecinaa", sum := "2993de78a1ade08698053b9d191aab35fe49ee93c9607ffea633971c3b4f4a2a", func := "loop.example/g01157/laws.FnUsed", spec := "fnUsed", inPlace := ["math.Float32frombits", "math.Float32bits", "math.Float64bits"], unfollowed := true, recurses := true, apart := false }
def FnUsedSaid : Prop := fnUsedRow.holds Try.pinned (OpenSpec.ofChange fnUsedSpec)

/-- ITS FALSE NEIGHBOUR: 'it returns false'. Refute it at one input. -/
def fnUsedWrong : ChangeSpec := { name := "fnUsed", fn := fun _ => fun
  | [d1, d2] => { results := [.lit (.bool false)], args := [d1, d2] }
  | _ => none }
def FnUsedWrongFalsely : Prop := fnUsedRow.holds Try.pinned (OpenSpec.ofChange fnUsedWrong)

/-- 'laws.FnExactModelLoss': WHATEVER THE INPUT: true; the input reads as it did. -/
def fnExactModelLossSpec : ChangeSpec := { name := "fnExactModelLoss", fn := fun _ => fun
  | [d1, d2, d3] => { results := [.lit (.bool true)], args := [d1, d2, d3] }
  | _ => none }
def fnExactModelLossRow : OpenClaim := { program := "ytpemhiaeiecinaa", sum := "2993de78a1ade08698053b9d191aab35fe49ee93c9607ffea633971c3b4f4a2a", func := "loop.example/g01157/laws.FnExactModelLoss", spec := "fnExactModelLoss", unfollowed := true, recurses := true, apart := false }
def FnExactModelLossSaid : Prop := fnExactModelLossRow.holds Try.pinned (OpenSpec.ofChange fnExactModelLossSpec)

/-- ITS FALSE NEIGHBOUR: 'it returns false'. Refute it at one input. -/
def fnExactModelLossWrong : ChangeSpec := { name := "fnExactModelLoss", fn := fun _ => fun
  | [d1, d2, d3] => { results := [.lit (.bool false)], args := [d1, d2, d3] }
  | _ => none }
def FnExactModelLossWrongFalsely : Prop := fnExactModelLossRow.holds Try.pinned (OpenSpec.ofChange fnExactModelLossWrong)

/-- 'laws.FnExactGradients': WHATEVER THE INPUT: true; the input reads as it did. -/
def fnExactGradientsSpec : ChangeSpec := { name := "fnExactGradients", fn := fun _ => fun
  | [d] => { results := [.lit (.bool true)], args := [d] }
  | _ => none }
def fnExactGradientsRow : OpenClaim := { program := "ytpemhiaeiecinaa", sum := "2993de78a1ade08698053b9d191aab35fe49ee93c9607ffea633971c3b4f4a2a", func := "loop.example/g01157/laws.FnExactGradients", spec := "fnExactGradients", inPlace := ["math.Float32bits", "math.Float64bits"], unfollowed := true, recurses := true, apart := false }
def FnExactGradientsSaid : Prop := fnExactGradientsRow.holds Try.pinned (OpenSpec.ofChange fnExactGradientsSpec)

/-- ITS FALSE NEIGHBOUR: 'it returns false'. Refute it at one input. -/
def fnExactGradientsWrong : ChangeSpec := { name := "fnExactGradients", fn := fun _ => fun
  | [d] => { results := [.lit (.bool false)], args := [d] }
  | _ => none }
def FnExactGradientsWrongFalsely : Prop := fnExactGradientsRow.holds Try.pinned (OpenSpec.ofChange fnExactGradientsWrong)

/-- 'laws.FnExactModelGradients': WHATEVER THE INPUT: true; the input reads as it did. -/
def fnExactModelGradientsSpec : ChangeSpec := { name := "fnExactModelGradients", fn := fun _ => fun
  | [d1, d2, d3] => { results := [.lit (.bool true)], args := [d1, d2, d3] }
  | _ => none }
def fnExactModelGradientsRow : OpenClaim := { program := "ytpemhiaeiecinaa", sum := "2993de78a1ade08698053b9d191aab35fe49ee93c9607ffea633971c3b4f4a2a", func := "loop.example/g01157/laws.FnExactModelGradients", spec := "fnExactModelGradients", unfollowed := true, recurses := true, apart := false }
def FnExactModelGradientsSaid : Prop := fnExactModelGradientsRow.holds Try.pinned (OpenSpec.ofChange fnExactModelGradientsSpec)

/-- ITS FALSE NEIGHBOUR: 'it returns false'. Refute it at one input. -/
def fnExactModelGradientsWrong : ChangeSpec := { name := "fnExactModelGradients", fn := fun _ => fun
  | [d1, d2, d3] => { results := [.lit (.bool false)], args := [d1, d2, d3] }
  | _ => none }
def FnExactModelGradientsWrongFalsely : Prop := fnExactModelGradientsRow.holds Try.pinned (OpenSpec.ofChange fnExactModelGradientsWrong)

/- THE SECOND FORM. 'bulk': how many values and letters a reading holds, each counted each time it is reached (what is shared counts as often as it is met; a slice's spare places count too). A statement '..UptoSaid' is the law's where the arguments, and the package variables that the reading takes, are together of bulk at most 1048576: NARROWER than '..Said'. Prove '..Said' where nothing that the law and all that it calls make is longer than what came in: it says more and counts as full. Else prove '..UptoSaid'. A law counts once. -/
mutual
def uptoBulk {H : Type} : DataW H → Nat
  | .lit (.string bytes) => bytes.length + 1
  | .lit _ => 1
  | .nil => 1
  | .ptr d => uptoBulk d + 1
  | .slice elems spare => uptoBulkAll elems + uptoBulkAll spare + 1
  | .agg parts => uptoBulkAll parts + 1
  | .iface _ d => uptoBulk d + 1
  | .map entries => uptoBulkEntries entries + 1
  | .held _ => 1
def uptoBulkAll {H : Type} : List (DataW H) → Nat
  | [] => 0
  | d :: r => uptoBulk d + uptoBulkAll r
def uptoBulkEntries {H : Type} : List (Lit × DataW H) → Nat
  | [] => 0
  | x :: r => uptoBulkEntry x + uptoBulkEntries r
def uptoBulkEntry {H : Type} : Lit × DataW H → Nat
  | (.string bytes, d) => bytes.length + uptoBulk d + 1
  | (_, d) => uptoBulk d + 1
 end
def uptoSmall : (H : Type) → List (DataW H) → Bool := fun _ ds => decide (uptoBulkAll ds ≤ 1048576)
def OpenSpec.upto (s : _root_.Go.ChangeSpec) : _root_.Go.OpenSpec := { _root_.Go.OpenSpec.ofChange s with cond := some uptoSmall }

/-- 'laws.FnExactProducts', WHERE WHAT IT READS IS OF BULK AT MOST 1048576: true; the input reads as it did. -/
def fnExactProductsUptoRow : OpenClaim := { program := "ytpemhiaeiecinaa", sum := "2993de78a1ade08698053b9d191aab35fe49ee93c9607ffea633971c3b4f4a2a", func := "loop.example/g01157/laws.FnExactProducts", spec := "fnExactProducts", inPlace := ["math.Float64bits", "math.Float64frombits"], unfollowed := true, recurses := true, apart := false, narrowed := true }
def FnExactProductsUptoSaid : Prop := fnExactProductsUptoRow.holds Try.pinned (OpenSpec.upto fnExactProductsSpec)

/-- 'laws.FnParts', WHERE WHAT IT READS IS OF BULK AT MOST 1048576: true; the input reads as it did. -/
def fnPartsUptoRow : OpenClaim := { program := "ytpemhiaeiecinaa", sum := "2993de78a1ade08698053b9d191aab35fe49ee93c9607ffea633971c3b4f4a2a", func := "loop.example/g01157/laws.FnParts", spec := "fnParts", inPlace := ["math.Float32frombits", "math.Float64bits"], unfollowed := true, recurses := true, apart := false, narrowed := true }
def FnPartsUptoSaid : Prop := fnPartsUptoRow.holds Try.pinned (OpenSpec.upto fnPartsSpec)

/-- 'laws.FnRounded', WHERE WHAT IT READS IS OF BULK AT MOST 1048576: true; the input reads as it did. -/
def fnRoundedUptoRow : OpenClaim := { program := "ytpemhiaeiecinaa", sum := "2993de78a1ade08698053b9d191aab35fe49ee93c9607ffea633971c3b4f4a2a", func := "loop.example/g01157/laws.FnRounded", spec := "fnRounded", inPlace := ["math.Float32frombits", "math.Float64frombits", "math.Float32bits"], unfollowed := true, recurses := true, apart := false, narrowed := true }
def FnRoundedUptoSaid : Prop := fnRoundedUptoRow.holds Try.pinned (OpenSpec.upto fnRoundedSpec)

/-- 'laws.FnForms', WHERE WHAT IT READS IS OF BULK AT MOST 1048576: true; the input reads as it did. -/
def fnFormsUptoRow : OpenClaim := { program := "ytpemhiaeiecinaa", sum := "2993de78a1ade08698053b9d191aab35fe49ee93c9607ffea633971c3b4f4a2a", func := "loop.example/g01157/laws.FnForms", spec := "fnForms", inPlace := ["math.Float32frombits", "math.Float32bits", "math.sqrt", "math.Float64frombits"], unfollowed := true, recurses := true, apart := false, narrowed := true }
def FnFormsUptoSaid : Prop := fnFormsUptoRow.holds Try.pinned (OpenSpec.upto fnFormsSpec)

/-- 'laws.FnExactWideSlope', WHERE WHAT IT READS IS OF BULK AT MOST 1048576: true; the input reads as it did. -/
def fnExactWideSlopeUptoRow : OpenClaim := { program := "ytpemhiaeiecinaa", sum := "2993de78a1ade08698053b9d191aab35fe49ee93c9607ffea633971c3b4f4a2a", func := "loop.example/g01157/laws.FnExactWideSlope", spec := "fnExactWideSlope", inPlace := ["math.Float32bits", "math.Float64bits"], unfollowed := true, recurses := true, apart := false, narrowed := true }
def FnExactWideSlopeUptoSaid : Prop := fnExactWideSlopeUptoRow.holds Try.pinned (OpenSpec.upto fnExactWideSlopeSpec)

/-- 'laws.FnExactModelTape', WHERE WHAT IT READS IS OF BULK AT MOST 1048576: true; the input reads as it did. -/
def fnExactModelTapeUptoRow : OpenClaim := { program := "ytpemhiaeiecinaa", sum := "2993de78a1ade08698053b9d191aab35fe49ee93c9607ffea633971c3b4f4a2a", func := "loop.example/g01157/laws.FnExactModelTape", spec := "fnExactModelTape", unfollowed := true, recurses := true, apart := false, narrowed := true }
def FnExactModelTapeUptoSaid : Prop := fnExactModelTapeUptoRow.holds Try.pinned (OpenSpec.upto fnExactModelTapeSpec)

/-- 'laws.FnExactRunWide', WHERE WHAT IT READS IS OF BULK AT MOST 1048576: true; the input reads as it did. -/
def fnExactRunWideUptoRow : OpenClaim := { program := "ytpemhiaeiecinaa", sum := "2993de78a1ade08698053b9d191aab35fe49ee93c9607ffea633971c3b4f4a2a", func := "loop.example/g01157/laws.FnExactRunWide", spec := "fnExactRunWide", inPlace := ["math.Float32bits", "math.Float64bits"], apart := false, narrowed := true }
def FnExactRunWideUptoSaid : Prop := fnExactRunWideUptoRow.holds Try.pinned (OpenSpec.upto fnExactRunWideSpec)

/-- 'laws.FnTapes', WHERE WHAT IT READS IS OF BULK AT MOST 1048576: true; the input reads as it did. -/
def fnTapesUptoRow : OpenClaim := { program := "ytpemhiaeiecinaa", sum := "2993de78a1ade08698053b9d191aab35fe49ee93c9607ffea633971c3b4f4a2a", func := "loop.example/g01157/laws.FnTapes", spec := "fnTapes", inPlace := ["math.Float32frombits", "math.Float32bits", "math.Float64bits"], unfollowed := true, recurses := true, apart := false, narrowed := true }
def FnTapesUptoSaid : Prop := fnTapesUptoRow.holds Try.pinned (OpenSpec.upto fnTapesSpec)

/-- 'laws.FnUsed', WHERE WHAT IT READS IS OF BULK AT MOST 1048576: true; the input reads as it did. -/
def fnUsedUptoRow : OpenClaim := { program := "ytpemhiaeiecinaa", sum := "2993de78a1ade08698053b9d191aab35fe49ee93c9607ffea633971c3b4f4a2a", func := "loop.example/g01157/laws.FnUsed", spec := "fnUsed", inPlace := ["math.Float32frombits", "math.Float32bits", "math.Float64bits"], unfollowed := true, recurses := true, apart := false, narrowed := true }
def FnUsedUptoSaid : Prop := fnUsedUptoRow.holds Try.pinned (OpenSpec.upto fnUsedSpec)

/-- 'laws.FnExactModelLoss', WHERE WHAT IT READS IS OF BULK AT MOST 1048576: true; the input reads as it did. -/
def fnExactModelLossUptoRow : OpenClaim := { program := "ytpemhiaeiecinaa", sum := "2993de78a1ade08698053b9d191aab35fe49ee93c9607ffea633971c3b4f4a2a", func := "loop.example/g01157/laws.FnExactModelLoss", spec := "fnExactModelLoss", unfollowed := true, recurses := true, apart := false, narrowed := true }
def FnExactModelLossUptoSaid : Prop := fnExactModelLossUptoRow.holds Try.pinned (OpenSpec.upto fnExactModelLossSpec)

/-- 'laws.FnExactGradients', WHERE WHAT IT READS IS OF BULK AT MOST 1048576: true; the input reads as it did. -/
def fnExactGradientsUptoRow : OpenClaim := { program := "ytpemhiaeiecinaa", sum := "2993de78a1ade08698053b9d191aab35fe49ee93c9607ffea633971c3b4f4a2a", func := "loop.example/g01157/laws.FnExactGradients", spec := "fnExactGradients", inPlace := ["math.Float32bits", "math.Float64bits"], unfollowed := true, recurses := true, apart := false, narrowed := true }
def FnExactGradientsUptoSaid : Prop := fnExactGradientsUptoRow.holds Try.pinned (OpenSpec.upto fnExactGradientsSpec)

/-- 'laws.FnExactModelGradients', WHERE WHAT IT READS IS OF BULK AT MOST 1048576: true; the input reads as it did. -/
def fnExactModelGradientsUptoRow : OpenClaim := { program := "ytpemhiaeiecinaa", sum := "2993de78a1ade08698053b9d191aab35fe49ee93c9607ffea633971c3b4f4a2a", func := "loop.example/g01157/laws.FnExactModelGradients", spec := "fnExactModelGradients", unfollowed := true, recurses := true, apart := false, narrowed := true }
def FnExactModelGradientsUptoSaid : Prop := fnExactModelGradientsUptoRow.holds Try.pinned (OpenSpec.upto fnExactModelGradientsSpec)

end Rows
end Go.Proofs.Ytpemhiaeiecinaa
