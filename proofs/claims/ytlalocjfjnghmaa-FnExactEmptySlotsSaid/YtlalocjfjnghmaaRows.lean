/-
  No cell of these rows narrows 'for every input' (looked for: loops, veiled, ifaces, maps, wideKeys, modest, calm, conditions, laid).
  DERIVED. THE GIVEN ROWS OF THIS SEAT. 8 by the template 'for every input the law returns true; each argument reads behind the call as it read before'; 0 by the template 'total and deterministic' (their statements: YtlalocjfjnghmaaTotals.lean).
  GIVEN WITH THE SEED: the statements are not yours to turn. If you find one false, say at which input.
  Laid BY PROGRAM, IN A SANDBOX (cutbox-rows.mjs): the forced cells as the released guide's own fill.sh prints them over the translation bd90b81ea21cd5a0… (all of the seat's roots in one cut). By AI agents, Wed Nov 11 2026. No macro, syntax, notation, axiom, sorry.
-/
import Derived.Test.YtlalocjfjnghmaaChecked
import GoSem.Claim
import GoSem.ClaimJoined
import GoSem.ClaimMapViews
import Derived.JoinedTies
import Derived.KernelRfl
namespace Go.Proofs.Ytlalocjfjnghmaa
/- THE CELL 'sum', in the pinned program and in every row, IS THE sha256 OF THE DUMP (.gsa) THAT YtlalocjfjnghmaaProg.lean LOADS. Nothing in Lean hashes anything: it is a label: what it is worth is what the hold of that sum in a sandbox is worth. -/
noncomputable def Try.pinned : Pinned := { name := "ytlalocjfjnghmaa", sum := "bd90b81ea21cd5a0fb506c15a417b0cc983797b65223f7e69218ab1f564db42f", checked := Try.checked }
namespace Rows
def none {H : Type} : Left H := { results := [], args := [] }

/-- 'laws.FnExactEmptySlots': WHATEVER THE INPUT: true; the input reads as it did. -/
def fnExactEmptySlotsSpec : ChangeSpec := { name := "fnExactEmptySlots", fn := fun _ => fun
  | [d1, d2] => { results := [.lit (.bool true)], args := [d1, d2] }
  | _ => none }
def fnExactEmptySlotsRow : OpenClaim := { program := "ytlalocjfjnghmaa", sum := "bd90b81ea21cd5a0fb506c15a417b0cc983797b65223f7e69218ab1f564db42f", func := "loop.example/g01157/laws.FnExactEmptySlots", spec := "fnExactEmptySlots", apart := false }
def FnExactEmptySlotsSaid : Prop := fnExactEmptySlotsRow.holds Try.pinned (OpenSpec.ofChange fnExactEmptySlotsSpec)

/-- ITS FALSE NEIGHBOUR: 'it returns false'. Refute it at one input. -/
def fnExactEmptySlotsWrong : ChangeSpec := { name := "fnExactEmptySlots", fn := fun _ => fun
  | [d1, d2] => { results := [.lit (.bool false)], args := [d1, d2] }
  | _ => none }
def FnExactEmptySlotsWrongFalsely : Prop := fnExactEmptySlotsRow.holds Try.pinned (OpenSpec.ofChange fnExactEmptySlotsWrong)

/-- 'laws.FnExactCodesOf': WHATEVER THE INPUT: true; the input reads as it did. -/
def fnExactCodesOfSpec : ChangeSpec := { name := "fnExactCodesOf", fn := fun _ => fun
  | [d1, d2] => { results := [.lit (.bool true)], args := [d1, d2] }
  | _ => none }
def fnExactCodesOfRow : OpenClaim := { program := "ytlalocjfjnghmaa", sum := "bd90b81ea21cd5a0fb506c15a417b0cc983797b65223f7e69218ab1f564db42f", func := "loop.example/g01157/laws.FnExactCodesOf", spec := "fnExactCodesOf", inPlace := ["math.Float32bits", "math.RoundToEven", "math.Float64bits"], unfollowed := true, recurses := true, apart := false }
def FnExactCodesOfSaid : Prop := fnExactCodesOfRow.holds Try.pinned (OpenSpec.ofChange fnExactCodesOfSpec)

/-- ITS FALSE NEIGHBOUR: 'it returns false'. Refute it at one input. -/
def fnExactCodesOfWrong : ChangeSpec := { name := "fnExactCodesOf", fn := fun _ => fun
  | [d1, d2] => { results := [.lit (.bool false)], args := [d1, d2] }
  | _ => none }
def FnExactCodesOfWrongFalsely : Prop := fnExactCodesOfRow.holds Try.pinned (OpenSpec.ofChange fnExactCodesOfWrong)

/-- 'laws.FnExactCodesBy': WHATEVER THE INPUT: true; the input reads as it did. -/
def fnExactCodesBySpec : ChangeSpec := { name := "fnExactCodesBy", fn := fun _ => fun
  | [d1, d2, d3] => { results := [.lit (.bool true)], args := [d1, d2, d3] }
  | _ => none }
def fnExactCodesByRow : OpenClaim := { program := "ytlalocjfjnghmaa", sum := "bd90b81ea21cd5a0fb506c15a417b0cc983797b65223f7e69218ab1f564db42f", func := "loop.example/g01157/laws.FnExactCodesBy", spec := "fnExactCodesBy", inPlace := ["math.Float32bits", "math.archFloor", "math.Float64bits", "math.Float64frombits", "math.archTrunc"], unfollowed := true, recurses := true, apart := false }
def FnExactCodesBySaid : Prop := fnExactCodesByRow.holds Try.pinned (OpenSpec.ofChange fnExactCodesBySpec)

/-- ITS FALSE NEIGHBOUR: 'it returns false'. Refute it at one input. -/
def fnExactCodesByWrong : ChangeSpec := { name := "fnExactCodesBy", fn := fun _ => fun
  | [d1, d2, d3] => { results := [.lit (.bool false)], args := [d1, d2, d3] }
  | _ => none }
def FnExactCodesByWrongFalsely : Prop := fnExactCodesByRow.holds Try.pinned (OpenSpec.ofChange fnExactCodesByWrong)

/-- 'laws.FnExactLossEntropy': WHATEVER THE INPUT: true; the input reads as it did. -/
def fnExactLossEntropySpec : ChangeSpec := { name := "fnExactLossEntropy", fn := fun _ => fun
  | [d1, d2] => { results := [.lit (.bool true)], args := [d1, d2] }
  | _ => none }
def fnExactLossEntropyRow : OpenClaim := { program := "ytlalocjfjnghmaa", sum := "bd90b81ea21cd5a0fb506c15a417b0cc983797b65223f7e69218ab1f564db42f", func := "loop.example/g01157/laws.FnExactLossEntropy", spec := "fnExactLossEntropy", inPlace := ["math.Float64frombits", "math.Float64bits"], apart := false }
def FnExactLossEntropySaid : Prop := fnExactLossEntropyRow.holds Try.pinned (OpenSpec.ofChange fnExactLossEntropySpec)

/-- ITS FALSE NEIGHBOUR: 'it returns false'. Refute it at one input. -/
def fnExactLossEntropyWrong : ChangeSpec := { name := "fnExactLossEntropy", fn := fun _ => fun
  | [d1, d2] => { results := [.lit (.bool false)], args := [d1, d2] }
  | _ => none }
def FnExactLossEntropyWrongFalsely : Prop := fnExactLossEntropyRow.holds Try.pinned (OpenSpec.ofChange fnExactLossEntropyWrong)

/-- 'laws.FnExactStepParams': WHATEVER THE INPUT: true; the input reads as it did. -/
def fnExactStepParamsSpec : ChangeSpec := { name := "fnExactStepParams", fn := fun _ => fun
  | [d1, d2, d3, d4, d5] => { results := [.lit (.bool true)], args := [d1, d2, d3, d4, d5] }
  | _ => none }
def fnExactStepParamsRow : OpenClaim := { program := "ytlalocjfjnghmaa", sum := "bd90b81ea21cd5a0fb506c15a417b0cc983797b65223f7e69218ab1f564db42f", func := "loop.example/g01157/laws.FnExactStepParams", spec := "fnExactStepParams", inPlace := ["math.sqrt"], unfollowed := true, recurses := true, apart := false }
def FnExactStepParamsSaid : Prop := fnExactStepParamsRow.holds Try.pinned (OpenSpec.ofChange fnExactStepParamsSpec)

/-- ITS FALSE NEIGHBOUR: 'it returns false'. Refute it at one input. -/
def fnExactStepParamsWrong : ChangeSpec := { name := "fnExactStepParams", fn := fun _ => fun
  | [d1, d2, d3, d4, d5] => { results := [.lit (.bool false)], args := [d1, d2, d3, d4, d5] }
  | _ => none }
def FnExactStepParamsWrongFalsely : Prop := fnExactStepParamsRow.holds Try.pinned (OpenSpec.ofChange fnExactStepParamsWrong)

/-- 'laws.FnStepsAlone': WHATEVER THE INPUT: true; the input reads as it did. -/
def fnStepsAloneSpec : ChangeSpec := { name := "fnStepsAlone", fn := fun _ => fun
  | [d1, d2] => { results := [.lit (.bool true)], args := [d1, d2] }
  | _ => none }
def fnStepsAloneRow : OpenClaim := { program := "ytlalocjfjnghmaa", sum := "bd90b81ea21cd5a0fb506c15a417b0cc983797b65223f7e69218ab1f564db42f", func := "loop.example/g01157/laws.FnStepsAlone", spec := "fnStepsAlone", inPlace := ["math.Float32frombits", "math.sqrt", "math.Float32bits"], unfollowed := true, recurses := true, apart := false }
def FnStepsAloneSaid : Prop := fnStepsAloneRow.holds Try.pinned (OpenSpec.ofChange fnStepsAloneSpec)

/-- ITS FALSE NEIGHBOUR: 'it returns false'. Refute it at one input. -/
def fnStepsAloneWrong : ChangeSpec := { name := "fnStepsAlone", fn := fun _ => fun
  | [d1, d2] => { results := [.lit (.bool false)], args := [d1, d2] }
  | _ => none }
def FnStepsAloneWrongFalsely : Prop := fnStepsAloneRow.holds Try.pinned (OpenSpec.ofChange fnStepsAloneWrong)

/-- 'laws.FnFunctions': WHATEVER THE INPUT: true; the input reads as it did. -/
def fnFunctionsSpec : ChangeSpec := { name := "fnFunctions", fn := fun _ => fun
  | [d1, d2] => { results := [.lit (.bool true)], args := [d1, d2] }
  | _ => none }
def fnFunctionsRow : OpenClaim := { program := "ytlalocjfjnghmaa", sum := "bd90b81ea21cd5a0fb506c15a417b0cc983797b65223f7e69218ab1f564db42f", func := "loop.example/g01157/laws.FnFunctions", spec := "fnFunctions", inPlace := ["math.Float64frombits", "math.sqrt"], apart := false }
def FnFunctionsSaid : Prop := fnFunctionsRow.holds Try.pinned (OpenSpec.ofChange fnFunctionsSpec)

/-- ITS FALSE NEIGHBOUR: 'it returns false'. Refute it at one input. -/
def fnFunctionsWrong : ChangeSpec := { name := "fnFunctions", fn := fun _ => fun
  | [d1, d2] => { results := [.lit (.bool false)], args := [d1, d2] }
  | _ => none }
def FnFunctionsWrongFalsely : Prop := fnFunctionsRow.holds Try.pinned (OpenSpec.ofChange fnFunctionsWrong)

/-- 'laws.FnEights': WHATEVER THE INPUT: true; the input reads as it did. -/
def fnEightsSpec : ChangeSpec := { name := "fnEights", fn := fun _ => fun
  | [d1, d2] => { results := [.lit (.bool true)], args := [d1, d2] }
  | _ => none }
def fnEightsRow : OpenClaim := { program := "ytlalocjfjnghmaa", sum := "bd90b81ea21cd5a0fb506c15a417b0cc983797b65223f7e69218ab1f564db42f", func := "loop.example/g01157/laws.FnEights", spec := "fnEights", inPlace := ["math.Float32frombits", "math.Float64bits", "math.Float64frombits", "math.Float32bits"], apart := false }
def FnEightsSaid : Prop := fnEightsRow.holds Try.pinned (OpenSpec.ofChange fnEightsSpec)

/-- ITS FALSE NEIGHBOUR: 'it returns false'. Refute it at one input. -/
def fnEightsWrong : ChangeSpec := { name := "fnEights", fn := fun _ => fun
  | [d1, d2] => { results := [.lit (.bool false)], args := [d1, d2] }
  | _ => none }
def FnEightsWrongFalsely : Prop := fnEightsRow.holds Try.pinned (OpenSpec.ofChange fnEightsWrong)

/- THE SECOND FORM. 'bulk': how many values and letters a reading holds, each counted each time it is reached (what is shared counts as often as it is met; a slice's spare places count too). A statement '..UptoSaid' is the law's where the arguments, and the package variables that the reading takes, are together of bulk at most 1048576: NARROWER than '..Said'. Prove '..Said' where nothing that the law and all that it calls make is longer than what came in: it says more and counts as full. Else prove '..UptoSaid'. A law counts once. -/
mutual
def uptoBulk {H : Type} : DataW H → Nat
  | .lit (.string bytes) => bytes.length + 1
  | .lit _ => 1
  | .nil => 1
  | .ptr d => uptoBulk d + 1
  | .slice elems spare => uptoBulkAll elems + uptoBulkAll spare + 1
  | .agg parts => uptoBulkAll parts + 1
  | .iface _ d => uptoBulk d + 1
  | .map entries => uptoBulkEntries entries + 1
  | .held _ => 1
def uptoBulkAll {H : Type} : List (DataW H) → Nat
  | [] => 0
  | d :: r => uptoBulk d + uptoBulkAll r
def uptoBulkEntries {H : Type} : List (Lit × DataW H) → Nat
  | [] => 0
  | x :: r => uptoBulkEntry x + uptoBulkEntries r
def uptoBulkEntry {H : Type} : Lit × DataW H → Nat
  | (.string bytes, d) => bytes.length + uptoBulk d + 1
  | (_, d) => uptoBulk d + 1
 end
def uptoSmall : (H : Type) → List (DataW H) → Bool := fun _ ds => decide (uptoBulkAll ds ≤ 1048576)
def OpenSpec.upto (s : _root_.Go.ChangeSpec) : _root_.Go.OpenSpec := { _root_.Go.OpenSpec.ofChange s with cond := some uptoSmall }

/-- 'laws.FnExactEmptySlots', WHERE WHAT IT READS IS OF BULK AT MOST 1048576: true; the input reads as it did. -/
def fnExactEmptySlotsUptoRow : OpenClaim := { program := "ytlalocjfjnghmaa", sum := "bd90b81ea21cd5a0fb506c15a417b0cc983797b65223f7e69218ab1f564db42f", func := "loop.example/g01157/laws.FnExactEmptySlots", spec := "fnExactEmptySlots", apart := false, narrowed := true }
def FnExactEmptySlotsUptoSaid : Prop := fnExactEmptySlotsUptoRow.holds Try.pinned (OpenSpec.upto fnExactEmptySlotsSpec)

/-- 'laws.FnExactCodesOf', WHERE WHAT IT READS IS OF BULK AT MOST 1048576: true; the input reads as it did. -/
def fnExactCodesOfUptoRow : OpenClaim := { program := "ytlalocjfjnghmaa", sum := "bd90b81ea21cd5a0fb506c15a417b0cc983797b65223f7e69218ab1f564db42f", func := "loop.example/g01157/laws.FnExactCodesOf", spec := "fnExactCodesOf", inPlace := ["math.Float32bits", "math.RoundToEven", "math.Float64bits"], unfollowed := true, recurses := true, apart := false, narrowed := true }
def FnExactCodesOfUptoSaid : Prop := fnExactCodesOfUptoRow.holds Try.pinned (OpenSpec.upto fnExactCodesOfSpec)

/-- 'laws.FnExactCodesBy', WHERE WHAT IT READS IS OF BULK AT MOST 1048576: true; the input reads as it did. -/
def fnExactCodesByUptoRow : OpenClaim := { program := "ytlalocjfjnghmaa", sum := "bd90b81ea21cd5a0fb506c15a417b0cc983797b65223f7e69218ab1f564db42f", func := "loop.example/g01157/laws.FnExactCodesBy", spec := "fnExactCodesBy", inPlace := ["math.Float32bits", "math.archFloor", "math.Float64bits", "math.Float64frombits", "math.archTrunc"], unfollowed := true, recurses := true, apart := false, narrowed := true }
def FnExactCodesByUptoSaid : Prop := fnExactCodesByUptoRow.holds Try.pinned (OpenSpec.upto fnExactCodesBySpec)

/-- 'laws.FnExactLossEntropy', WHERE WHAT IT READS IS OF BULK AT MOST 1048576: true; the input reads as it did. -/
def fnExactLossEntropyUptoRow : OpenClaim := { program := "ytlalocjfjnghmaa", sum := "bd90b81ea21cd5a0fb506c15a417b0cc983797b65223f7e69218ab1f564db42f", func := "loop.example/g01157/laws.FnExactLossEntropy", spec := "fnExactLossEntropy", inPlace := ["math.Float64frombits", "math.Float64bits"], apart := false, narrowed := true }
def FnExactLossEntropyUptoSaid : Prop := fnExactLossEntropyUptoRow.holds Try.pinned (OpenSpec.upto fnExactLossEntropySpec)

/-- 'laws.FnExactStepParams', WHERE WHAT IT READS IS OF BULK AT MOST 1048576: true; the input reads as it did. -/
def fnExactStepParamsUptoRow : OpenClaim := { program := "ytlalocjfjnghmaa", sum := "bd90b81ea21cd5a0fb506c15a417b0cc983797b65223f7e69218ab1f564db42f", func := "loop.example/g01157/laws.FnExactStepParams", spec := "fnExactStepParams", inPlace := ["math.sqrt"], unfollowed := true, recurses := true, apart := false, narrowed := true }
def FnExactStepParamsUptoSaid : Prop := fnExactStepParamsUptoRow.holds Try.pinned (OpenSpec.upto fnExactStepParamsSpec)

/-- 'laws.FnStepsAlone', WHERE WHAT IT READS IS OF BULK AT MOST 1048576: true; the input reads as it did. -/
def fnStepsAloneUptoRow : OpenClaim := { program := "ytlalocjfjnghmaa", sum := "bd90b81ea21cd5a0fb506c15a417b0cc983797b65223f7e69218ab1f564db42f", func := "loop.example/g01157/laws.FnStepsAlone", spec := "fnStepsAlone", inPlace := ["math.Float32frombits", "math.sqrt", "math.Float32bits"], unfollowed := true, recurses := true, apart := false, narrowed := true }
def FnStepsAloneUptoSaid : Prop := fnStepsAloneUptoRow.holds Try.pinned (OpenSpec.upto fnStepsAloneSpec)

/-- 'laws.FnFunctions', WHERE WHAT IT READS IS OF BULK AT MOST 1048576: true; the input reads as it did. -/
def fnFunctionsUptoRow : OpenClaim := { program := "ytlalocjfjnghmaa", sum := "bd90b81ea21cd5a0fb506c15a417b0cc983797b65223f7e69218ab1f564db42f", func := "loop.example/g01157/laws.FnFunctions", spec := "fnFunctions", inPlace := ["math.Float64frombits", "math.sqrt"], apart := false, narrowed := true }
def FnFunctionsUptoSaid : Prop := fnFunctionsUptoRow.holds Try.pinned (OpenSpec.upto fnFunctionsSpec)

/-- 'laws.FnEights', WHERE WHAT IT READS IS OF BULK AT MOST 1048576: true; the input reads as it did. -/
def fnEightsUptoRow : OpenClaim := { program := "ytlalocjfjnghmaa", sum := "bd90b81ea21cd5a0fb506c15a417b0cc983797b65223f7e69218ab1f564db42f", func := "loop.example/g01157/laws.FnEights", spec := "fnEights", inPlace := ["math.Float32frombits", "math.Float64bits", "math.Float64frombits", "math.Float32bits"], apart := false, narrowed := true }
def FnEightsUptoSaid : Prop := fnEightsUptoRow.holds Try.pinned (OpenSpec.upto fnEightsSpec)

end Rows
end Go.Proofs.Ytlalocjfjnghmaa
