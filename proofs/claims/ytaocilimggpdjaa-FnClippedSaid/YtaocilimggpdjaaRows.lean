/-
  No cell of these rows narrows 'for every input' (looked for: loops, veiled, ifaces, maps, wideKeys, modest, calm, conditions, laid).
  DERIVED. THE GIVEN ROWS OF THIS SEAT. 11 by the template 'for every input the law returns true; each argument reads behind the call as it read before'; 0 by the template 'total and deterministic' (their statements: YtaocilimggpdjaaTotals.lean).
  GIVEN WITH THE SEED: the statements are not yours to turn. If you find one false, say at which input.
  Laid BY PROGRAM, IN A SANDBOX (cutbox-rows.mjs): the forced cells as the released guide's own fill.sh prints them over the translation b940b7448a404b03… (all of the seat's roots in one cut). By AI agents, Wed Nov 11 2026. No macro, syntax, notation, axiom, sorry.
-/
import Derived.Test.YtaocilimggpdjaaChecked
import GoSem.Claim
import GoSem.ClaimJoined
import GoSem.ClaimMapViews
import Derived.JoinedTies
import Derived.KernelRfl
namespace Go.Proofs.Ytaocilimggpdjaa
/- THE CELL 'sum', in the pinned program and in every row, IS THE sha256 OF THE DUMP (.gsa) THAT YtaocilimggpdjaaProg.lean LOADS. Nothing in Lean hashes anything: it is a label: what it is worth is what the hold of that sum in a sandbox is worth. -/
noncomputable def Try.pinned : Pinned := { name := "ytaocilimggpdjaa", sum := "b940b7448a404b03300c71a048cefff7a6f5a1cda8f104d9a48461734212b020", checked := Try.checked }
namespace Rows
def none {H : Type} : Left H := { results := [], args := [] }

/-- 'laws.FnExactStepParams': WHATEVER THE INPUT: true; the input reads as it did. -/
def fnExactStepParamsSpec : ChangeSpec := { name := "fnExactStepParams", fn := fun _ => fun
  | [d1, d2, d3, d4, d5] => { results := [.lit (.bool true)], args := [d1, d2, d3, d4, d5] }
  | _ => none }
def fnExactStepParamsRow : OpenClaim := { program := "ytaocilimggpdjaa", sum := "b940b7448a404b03300c71a048cefff7a6f5a1cda8f104d9a48461734212b020", func := "loop.example/g01157/laws.FnExactStepParams", spec := "fnExactStepParams", inPlace := ["math.sqrt"], unfollowed := true, recurses := true, apart := false }
def FnExactStepParamsSaid : Prop := fnExactStepParamsRow.holds Try.pinned (OpenSpec.ofChange fnExactStepParamsSpec)

/-- ITS FALSE NEIGHBOUR: 'it returns false'. Refute it at one input. -/
def fnExactStepParamsWrong : ChangeSpec := { name := "fnExactStepParams", fn := fun _ => fun
  | [d1, d2, d3, d4, d5] => { results := [.lit (.bool false)], args := [d1, d2, d3, d4, d5] }
  | _ => none }
def FnExactStepParamsWrongFalsely : Prop := fnExactStepParamsRow.holds Try.pinned (OpenSpec.ofChange fnExactStepParamsWrong)

/-- 'laws.FnExactLossEntropy': WHATEVER THE INPUT: true; the input reads as it did. -/
def fnExactLossEntropySpec : ChangeSpec := { name := "fnExactLossEntropy", fn := fun _ => fun
  | [d1, d2] => { results := [.lit (.bool true)], args := [d1, d2] }
  | _ => none }
def fnExactLossEntropyRow : OpenClaim := { program := "ytaocilimggpdjaa", sum := "b940b7448a404b03300c71a048cefff7a6f5a1cda8f104d9a48461734212b020", func := "loop.example/g01157/laws.FnExactLossEntropy", spec := "fnExactLossEntropy", inPlace := ["math.Float64frombits", "math.Float64bits"], apart := false }
def FnExactLossEntropySaid : Prop := fnExactLossEntropyRow.holds Try.pinned (OpenSpec.ofChange fnExactLossEntropySpec)

/-- ITS FALSE NEIGHBOUR: 'it returns false'. Refute it at one input. -/
def fnExactLossEntropyWrong : ChangeSpec := { name := "fnExactLossEntropy", fn := fun _ => fun
  | [d1, d2] => { results := [.lit (.bool false)], args := [d1, d2] }
  | _ => none }
def FnExactLossEntropyWrongFalsely : Prop := fnExactLossEntropyRow.holds Try.pinned (OpenSpec.ofChange fnExactLossEntropyWrong)

/-- 'laws.FnStepsAlone': WHATEVER THE INPUT: true; the input reads as it did. -/
def fnStepsAloneSpec : ChangeSpec := { name := "fnStepsAlone", fn := fun _ => fun
  | [d1, d2] => { results := [.lit (.bool true)], args := [d1, d2] }
  | _ => none }
def fnStepsAloneRow : OpenClaim := { program := "ytaocilimggpdjaa", sum := "b940b7448a404b03300c71a048cefff7a6f5a1cda8f104d9a48461734212b020", func := "loop.example/g01157/laws.FnStepsAlone", spec := "fnStepsAlone", inPlace := ["math.Float32frombits", "math.sqrt", "math.Float32bits"], unfollowed := true, recurses := true, apart := false }
def FnStepsAloneSaid : Prop := fnStepsAloneRow.holds Try.pinned (OpenSpec.ofChange fnStepsAloneSpec)

/-- ITS FALSE NEIGHBOUR: 'it returns false'. Refute it at one input. -/
def fnStepsAloneWrong : ChangeSpec := { name := "fnStepsAlone", fn := fun _ => fun
  | [d1, d2] => { results := [.lit (.bool false)], args := [d1, d2] }
  | _ => none }
def FnStepsAloneWrongFalsely : Prop := fnStepsAloneRow.holds Try.pinned (OpenSpec.ofChange fnStepsAloneWrong)

/-- 'laws.FnFunctions': WHATEVER THE INPUT: true; the input reads as it did. -/
def fnFunctionsSpec : ChangeSpec := { name := "fnFunctions", fn := fun _ => fun
  | [d1, d2] => { results := [.lit (.bool true)], args := [d1, d2] }
  | _ => none }
def fnFunctionsRow : OpenClaim := { program := "ytaocilimggpdjaa", sum := "b940b7448a404b03300c71a048cefff7a6f5a1cda8f104d9a48461734212b020", func := "loop.example/g01157/laws.FnFunctions", spec := "fnFunctions", inPlace := ["math.Float64frombits", "math.sqrt"], apart := false }
def FnFunctionsSaid : Prop := fnFunctionsRow.holds Try.pinned (OpenSpec.ofChange fnFunctionsSpec)

/-- ITS FALSE NEIGHBOUR: 'it returns false'. Refute it at one input. -/
def fnFunctionsWrong : ChangeSpec := { name := "fnFunctions", fn := fun _ => fun
  | [d1, d2] => { results := [.lit (.bool false)], args := [d1, d2] }
  | _ => none }
def FnFunctionsWrongFalsely : Prop := fnFunctionsRow.holds Try.pinned (OpenSpec.ofChange fnFunctionsWrong)

/-- 'laws.FnEights': WHATEVER THE INPUT: true; the input reads as it did. -/
def fnEightsSpec : ChangeSpec := { name := "fnEights", fn := fun _ => fun
  | [d1, d2] => { results := [.lit (.bool true)], args := [d1, d2] }
  | _ => none }
def fnEightsRow : OpenClaim := { program := "ytaocilimggpdjaa", sum := "b940b7448a404b03300c71a048cefff7a6f5a1cda8f104d9a48461734212b020", func := "loop.example/g01157/laws.FnEights", spec := "fnEights", inPlace := ["math.Float32frombits", "math.Float64bits", "math.Float64frombits", "math.Float32bits"], apart := false }
def FnEightsSaid : Prop := fnEightsRow.holds Try.pinned (OpenSpec.ofChange fnEightsSpec)

/-- ITS FALSE NEIGHBOUR: 'it returns false'. Refute it at one input. -/
def fnEightsWrong : ChangeSpec := { name := "fnEights", fn := fun _ => fun
  | [d1, d2] => { results := [.lit (.bool false)], args := [d1, d2] }
  | _ => none }
def FnEightsWrongFalsely : Prop := fnEightsRow.holds Try.pinned (OpenSpec.ofChange fnEightsWrong)

/-- 'laws.FnCodes': WHATEVER THE INPUT: true; the input reads as it did. -/
def fnCodesSpec : ChangeSpec := { name := "fnCodes", fn := fun _ => fun
  | [d1, d2] => { results := [.lit (.bool true)], args := [d1, d2] }
  | _ => none }
def fnCodesRow : OpenClaim := { program := "ytaocilimggpdjaa", sum := "b940b7448a404b03300c71a048cefff7a6f5a1cda8f104d9a48461734212b020", func := "loop.example/g01157/laws.FnCodes", spec := "fnCodes", inPlace := ["math.Float64bits", "math.RoundToEven"], unfollowed := true, recurses := true, apart := false }
def FnCodesSaid : Prop := fnCodesRow.holds Try.pinned (OpenSpec.ofChange fnCodesSpec)

/-- ITS FALSE NEIGHBOUR: 'it returns false'. Refute it at one input. -/
def fnCodesWrong : ChangeSpec := { name := "fnCodes", fn := fun _ => fun
  | [d1, d2] => { results := [.lit (.bool false)], args := [d1, d2] }
  | _ => none }
def FnCodesWrongFalsely : Prop := fnCodesRow.holds Try.pinned (OpenSpec.ofChange fnCodesWrong)

/-- 'laws.FnSums': WHATEVER THE INPUT: true; the input reads as it did. -/
def fnSumsSpec : ChangeSpec := { name := "fnSums", fn := fun _ => fun
  | [d1, d2] => { results := [.lit (.bool true)], args := [d1, d2] }
  | _ => none }
def fnSumsRow : OpenClaim := { program := "ytaocilimggpdjaa", sum := "b940b7448a404b03300c71a048cefff7a6f5a1cda8f104d9a48461734212b020", func := "loop.example/g01157/laws.FnSums", spec := "fnSums", inPlace := ["math.Float32frombits", "math.Float32bits"], recurses := true, apart := false }
def FnSumsSaid : Prop := fnSumsRow.holds Try.pinned (OpenSpec.ofChange fnSumsSpec)

/-- ITS FALSE NEIGHBOUR: 'it returns false'. Refute it at one input. -/
def fnSumsWrong : ChangeSpec := { name := "fnSums", fn := fun _ => fun
  | [d1, d2] => { results := [.lit (.bool false)], args := [d1, d2] }
  | _ => none }
def FnSumsWrongFalsely : Prop := fnSumsRow.holds Try.pinned (OpenSpec.ofChange fnSumsWrong)

/-- 'laws.FnClipped': WHATEVER THE INPUT: true; the input reads as it did. -/
def fnClippedSpec : ChangeSpec := { name := "fnClipped", fn := fun _ => fun
  | [d1, d2] => { results := [.lit (.bool true)], args := [d1, d2] }
  | _ => none }
def fnClippedRow : OpenClaim := { program := "ytaocilimggpdjaa", sum := "b940b7448a404b03300c71a048cefff7a6f5a1cda8f104d9a48461734212b020", func := "loop.example/g01157/laws.FnClipped", spec := "fnClipped", inPlace := ["math.sqrt", "math.Float32bits"], apart := false }
def FnClippedSaid : Prop := fnClippedRow.holds Try.pinned (OpenSpec.ofChange fnClippedSpec)

/-- ITS FALSE NEIGHBOUR: 'it returns false'. Refute it at one input. -/
def fnClippedWrong : ChangeSpec := { name := "fnClipped", fn := fun _ => fun
  | [d1, d2] => { results := [.lit (.bool false)], args := [d1, d2] }
  | _ => none }
def FnClippedWrongFalsely : Prop := fnClippedRow.holds Try.pinned (OpenSpec.ofChange fnClippedWrong)

/-- 'laws.FnLosses': WHATEVER THE INPUT: true; the input reads as it did. -/
def fnLossesSpec : ChangeSpec := { name := "fnLosses", fn := fun _ => fun
  | [d1, d2] => { results := [.lit (.bool true)], args := [d1, d2] }
  | _ => none }
def fnLossesRow : OpenClaim := { program := "ytaocilimggpdjaa", sum := "b940b7448a404b03300c71a048cefff7a6f5a1cda8f104d9a48461734212b020", func := "loop.example/g01157/laws.FnLosses", spec := "fnLosses", inPlace := ["math.Float64bits", "math.Float64frombits"], apart := false }
def FnLossesSaid : Prop := fnLossesRow.holds Try.pinned (OpenSpec.ofChange fnLossesSpec)

/-- ITS FALSE NEIGHBOUR: 'it returns false'. Refute it at one input. -/
def fnLossesWrong : ChangeSpec := { name := "fnLosses", fn := fun _ => fun
  | [d1, d2] => { results := [.lit (.bool false)], args := [d1, d2] }
  | _ => none }
def FnLossesWrongFalsely : Prop := fnLossesRow.holds Try.pinned (OpenSpec.ofChange fnLossesWrong)

/-- 'laws.FnEightBits': WHATEVER THE INPUT: true; the input reads as it did. -/
def fnEightBitsSpec : ChangeSpec := { name := "fnEightBits", fn := fun _ => fun
  | [d1, d2] => { results := [.lit (.bool true)], args := [d1, d2] }
  | _ => none }
def fnEightBitsRow : OpenClaim := { program := "ytaocilimggpdjaa", sum := "b940b7448a404b03300c71a048cefff7a6f5a1cda8f104d9a48461734212b020", func := "loop.example/g01157/laws.FnEightBits", spec := "fnEightBits", inPlace := ["math.Float32frombits", "math.Float64bits", "math.Float64frombits", "math.RoundToEven", "math.archFloor", "math.archTrunc"], unfollowed := true, recurses := true, apart := false }
def FnEightBitsSaid : Prop := fnEightBitsRow.holds Try.pinned (OpenSpec.ofChange fnEightBitsSpec)

/-- ITS FALSE NEIGHBOUR: 'it returns false'. Refute it at one input. -/
def fnEightBitsWrong : ChangeSpec := { name := "fnEightBits", fn := fun _ => fun
  | [d1, d2] => { results := [.lit (.bool false)], args := [d1, d2] }
  | _ => none }
def FnEightBitsWrongFalsely : Prop := fnEightBitsRow.holds Try.pinned (OpenSpec.ofChange fnEightBitsWrong)

/-- 'laws.FnBatches': WHATEVER THE INPUT: true; the input reads as it did. -/
def fnBatchesSpec : ChangeSpec := { name := "fnBatches", fn := fun _ => fun
  | [d1, d2] => { results := [.lit (.bool true)], args := [d1, d2] }
  | _ => none }
def fnBatchesRow : OpenClaim := { program := "ytaocilimggpdjaa", sum := "b940b7448a404b03300c71a048cefff7a6f5a1cda8f104d9a48461734212b020", func := "loop.example/g01157/laws.FnBatches", spec := "fnBatches", apart := false }
def FnBatchesSaid : Prop := fnBatchesRow.holds Try.pinned (OpenSpec.ofChange fnBatchesSpec)

/-- ITS FALSE NEIGHBOUR: 'it returns false'. Refute it at one input. -/
def fnBatchesWrong : ChangeSpec := { name := "fnBatches", fn := fun _ => fun
  | [d1, d2] => { results := [.lit (.bool false)], args := [d1, d2] }
  | _ => none }
def FnBatchesWrongFalsely : Prop := fnBatchesRow.holds Try.pinned (OpenSpec.ofChange fnBatchesWrong)

/- THE SECOND FORM. 'bulk': how many values and letters a reading holds, each counted each time it is reached (what is shared counts as often as it is met; a slice's spare places count too). A statement '..UptoSaid' is the law's where the arguments, and the package variables that the reading takes, are together of bulk at most 1048576: NARROWER than '..Said'. Prove '..Said' where nothing that the law and all that it calls make is longer than what came in: it says more and counts as full. Else prove '..UptoSaid'. A law counts once. -/
mutual
def uptoBulk {H : Type} : DataW H → Nat
  | .lit (.string bytes) => bytes.length + 1
  | .lit _ => 1
  | .nil => 1
  | .ptr d => uptoBulk d + 1
  | .slice elems spare => uptoBulkAll elems + uptoBulkAll spare + 1
  | .agg parts => uptoBulkAll parts + 1
  | .iface _ d => uptoBulk d + 1
  | .map entries => uptoBulkEntries entries + 1
  | .held _ => 1
def uptoBulkAll {H : Type} : List (DataW H) → Nat
  | [] => 0
  | d :: r => uptoBulk d + uptoBulkAll r
def uptoBulkEntries {H : Type} : List (Lit × DataW H) → Nat
  | [] => 0
  | x :: r => uptoBulkEntry x + uptoBulkEntries r
def uptoBulkEntry {H : Type} : Lit × DataW H → Nat
  | (.string bytes, d) => bytes.length + uptoBulk d + 1
  | (_, d) => uptoBulk d + 1
 end
def uptoSmall : (H : Type) → List (DataW H) → Bool := fun _ ds => decide (uptoBulkAll ds ≤ 1048576)
def OpenSpec.upto (s : _root_.Go.ChangeSpec) : _root_.Go.OpenSpec := { _root_.Go.OpenSpec.ofChange s with cond := some uptoSmall }

/-- 'laws.FnExactStepParams', WHERE WHAT IT READS IS OF BULK AT MOST 1048576: true; the input reads as it did. -/
def fnExactStepParamsUptoRow : OpenClaim := { program := "ytaocilimggpdjaa", sum := "b940b7448a404b03300c71a048cefff7a6f5a1cda8f104d9a48461734212b020", func := "loop.example/g01157/laws.FnExactStepParams", spec := "fnExactStepParams", inPlace := ["math.sqrt"], unfollowed := true, recurses := true, apart := false, narrowed := true }
def FnExactStepParamsUptoSaid : Prop := fnExactStepParamsUptoRow.holds Try.pinned (OpenSpec.upto fnExactStepParamsSpec)

/-- 'laws.FnExactLossEntropy', WHERE WHAT IT READS IS OF BULK AT MOST 1048576: true; the input reads as it did. -/
def fnExactLossEntropyUptoRow : OpenClaim := { program := "ytaocilimggpdjaa", sum := "b940b7448a404b03300c71a048cefff7a6f5a1cda8f104d9a48461734212b020", func := "loop.example/g01157/laws.FnExactLossEntropy", spec := "fnExactLossEntropy", inPlace := ["math.Float64frombits", "math.Float64bits"], apart := false, narrowed := true }
def FnExactLossEntropyUptoSaid : Prop := fnExactLossEntropyUptoRow.holds Try.pinned (OpenSpec.upto fnExactLossEntropySpec)

/-- 'laws.FnStepsAlone', WHERE WHAT IT READS IS OF BULK AT MOST 1048576: true; the input reads as it did. -/
def fnStepsAloneUptoRow : OpenClaim := { program := "ytaocilimggpdjaa", sum := "b940b7448a404b03300c71a048cefff7a6f5a1cda8f104d9a48461734212b020", func := "loop.example/g01157/laws.FnStepsAlone", spec := "fnStepsAlone", inPlace := ["math.Float32frombits", "math.sqrt", "math.Float32bits"], unfollowed := true, recurses := true, apart := false, narrowed := true }
def FnStepsAloneUptoSaid : Prop := fnStepsAloneUptoRow.holds Try.pinned (OpenSpec.upto fnStepsAloneSpec)

/-- 'laws.FnFunctions', WHERE WHAT IT READS IS OF BULK AT MOST 1048576: true; the input reads as it did. -/
def fnFunctionsUptoRow : OpenClaim := { program := "ytaocilimggpdjaa", sum := "b940b7448a404b03300c71a048cefff7a6f5a1cda8f104d9a48461734212b020", func := "loop.example/g01157/laws.FnFunctions", spec := "fnFunctions", inPlace := ["math.Float64frombits", "math.sqrt"], apart := false, narrowed := true }
def FnFunctionsUptoSaid : Prop := fnFunctionsUptoRow.holds Try.pinned (OpenSpec.upto fnFunctionsSpec)

/-- 'laws.FnEights', WHERE WHAT IT READS IS OF BULK AT MOST 1048576: true; the input reads as it did. -/
def fnEightsUptoRow : OpenClaim := { program := "ytaocilimggpdjaa", sum := "b940b7448a404b03300c71a048cefff7a6f5a1cda8f104d9a48461734212b020", func := "loop.example/g01157/laws.FnEights", spec := "fnEights", inPlace := ["math.Float32frombits", "math.Float64bits", "math.Float64frombits", "math.Float32bits"], apart := false, narrowed := true }
def FnEightsUptoSaid : Prop := fnEightsUptoRow.holds Try.pinned (OpenSpec.upto fnEightsSpec)

/-- 'laws.FnCodes', WHERE WHAT IT READS IS OF BULK AT MOST 1048576: true; the input reads as it did. -/
def fnCodesUptoRow : OpenClaim := { program := "ytaocilimggpdjaa", sum := "b940b7448a404b03300c71a048cefff7a6f5a1cda8f104d9a48461734212b020", func := "loop.example/g01157/laws.FnCodes", spec := "fnCodes", inPlace := ["math.Float64bits", "math.RoundToEven"], unfollowed := true, recurses := true, apart := false, narrowed := true }
def FnCodesUptoSaid : Prop := fnCodesUptoRow.holds Try.pinned (OpenSpec.upto fnCodesSpec)

/-- 'laws.FnSums', WHERE WHAT IT READS IS OF BULK AT MOST 1048576: true; the input reads as it did. -/
def fnSumsUptoRow : OpenClaim := { program := "ytaocilimggpdjaa", sum := "b940b7448a404b03300c71a048cefff7a6f5a1cda8f104d9a48461734212b020", func := "loop.example/g01157/laws.FnSums", spec := "fnSums", inPlace := ["math.Float32frombits", "math.Float32bits"], recurses := true, apart := false, narrowed := true }
def FnSumsUptoSaid : Prop := fnSumsUptoRow.holds Try.pinned (OpenSpec.upto fnSumsSpec)

/-- 'laws.FnClipped', WHERE WHAT IT READS IS OF BULK AT MOST 1048576: true; the input reads as it did. -/
def fnClippedUptoRow : OpenClaim := { program := "ytaocilimggpdjaa", sum := "b940b7448a404b03300c71a048cefff7a6f5a1cda8f104d9a48461734212b020", func := "loop.example/g01157/laws.FnClipped", spec := "fnClipped", inPlace := ["math.sqrt", "math.Float32bits"], apart := false, narrowed := true }
def FnClippedUptoSaid : Prop := fnClippedUptoRow.holds Try.pinned (OpenSpec.upto fnClippedSpec)

/-- 'laws.FnLosses', WHERE WHAT IT READS IS OF BULK AT MOST 1048576: true; the input reads as it did. -/
def fnLossesUptoRow : OpenClaim := { program := "ytaocilimggpdjaa", sum := "b940b7448a404b03300c71a048cefff7a6f5a1cda8f104d9a48461734212b020", func := "loop.example/g01157/laws.FnLosses", spec := "fnLosses", inPlace := ["math.Float64bits", "math.Float64frombits"], apart := false, narrowed := true }
def FnLossesUptoSaid : Prop := fnLossesUptoRow.holds Try.pinned (OpenSpec.upto fnLossesSpec)

/-- 'laws.FnEightBits', WHERE WHAT IT READS IS OF BULK AT MOST 1048576: true; the input reads as it did. -/
def fnEightBitsUptoRow : OpenClaim := { program := "ytaocilimggpdjaa", sum := "b940b7448a404b03300c71a048cefff7a6f5a1cda8f104d9a48461734212b020", func := "loop.example/g01157/laws.FnEightBits", spec := "fnEightBits", inPlace := ["math.Float32frombits", "math.Float64bits", "math.Float64frombits", "math.RoundToEven", "math.archFloor", "math.archTrunc"], unfollowed := true, recurses := true, apart := false, narrowed := true }
def FnEightBitsUptoSaid : Prop := fnEightBitsUptoRow.holds Try.pinned (OpenSpec.upto fnEightBitsSpec)

/-- 'laws.FnBatches', WHERE WHAT IT READS IS OF BULK AT MOST 1048576: true; the input reads as it did. -/
def fnBatchesUptoRow : OpenClaim := { program := "ytaocilimggpdjaa", sum := "b940b7448a404b03300c71a048cefff7a6f5a1cda8f104d9a48461734212b020", func := "loop.example/g01157/laws.FnBatches", spec := "fnBatches", apart := false, narrowed := true }
def FnBatchesUptoSaid : Prop := fnBatchesUptoRow.holds Try.pinned (OpenSpec.upto fnBatchesSpec)

end Rows
end Go.Proofs.Ytaocilimggpdjaa
