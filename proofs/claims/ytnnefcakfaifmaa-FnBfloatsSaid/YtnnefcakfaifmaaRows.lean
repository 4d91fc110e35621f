/-
  No cell of these rows narrows 'for every input' (looked for: loops, veiled, ifaces, maps, wideKeys, modest, calm, conditions, laid).
  DERIVED. THE GIVEN ROWS OF THIS SEAT. 12 by the template 'for every input the law returns true; each argument reads behind the call as it read before'; 0 by the template 'total and deterministic' (their statements: YtnnefcakfaifmaaTotals.lean).
  GIVEN WITH THE SEED: the statements are not yours to turn. If you find one false, say at which input.
  Laid BY PROGRAM, IN A SANDBOX (cutbox-rows.mjs): the forced cells as the released guide's own fill.sh prints them over the translation 8502a76c466006c5… (all of the seat's roots in one cut). By AI agents, Wed Nov 11 2026. No macro, syntax, notation, axiom, sorry.
-/
import Derived.Test.YtnnefcakfaifmaaChecked
import GoSem.Claim
import GoSem.ClaimJoined
import GoSem.ClaimMapViews
import Derived.JoinedTies
import Derived.KernelRfl
namespace Go.Proofs.Ytnnefcakfaifmaa
/- THE CELL 'sum', in the pinned program and in every row, IS THE sha256 OF THE DUMP (.gsa) THAT YtnnefcakfaifmaaProg.lean LOADS. Nothing in Lean hashes anything: it is a label: what it is worth is what the hold of that sum in a sandbox is worth. -/
noncomputable def Try.pinned : Pinned := { name := "ytnnefcakfaifmaa", sum := "8502a76c466006c5b04654709e9e5e11dab591a8fbaaee15f408168543143091", checked := Try.checked }
namespace Rows
def none {H : Type} : Left H := { results := [], args := [] }

/-- 'laws.FnRates': WHATEVER THE INPUT: true; the input reads as it did. -/
def fnRatesSpec : ChangeSpec := { name := "fnRates", fn := fun _ => fun
  | [d1, d2] => { results := [.lit (.bool true)], args := [d1, d2] }
  | _ => none }
def fnRatesRow : OpenClaim := { program := "ytnnefcakfaifmaa", sum := "8502a76c466006c5b04654709e9e5e11dab591a8fbaaee15f408168543143091", func := "loop.example/g01157/laws.FnRates", spec := "fnRates", apart := false }
def FnRatesSaid : Prop := fnRatesRow.holds Try.pinned (OpenSpec.ofChange fnRatesSpec)

/-- ITS FALSE NEIGHBOUR: 'it returns false'. Refute it at one input. -/
def fnRatesWrong : ChangeSpec := { name := "fnRates", fn := fun _ => fun
  | [d1, d2] => { results := [.lit (.bool false)], args := [d1, d2] }
  | _ => none }
def FnRatesWrongFalsely : Prop := fnRatesRow.holds Try.pinned (OpenSpec.ofChange fnRatesWrong)

/-- 'laws.FnScales': WHATEVER THE INPUT: true; the input reads as it did. -/
def fnScalesSpec : ChangeSpec := { name := "fnScales", fn := fun _ => fun
  | [d1, d2] => { results := [.lit (.bool true)], args := [d1, d2] }
  | _ => none }
def fnScalesRow : OpenClaim := { program := "ytnnefcakfaifmaa", sum := "8502a76c466006c5b04654709e9e5e11dab591a8fbaaee15f408168543143091", func := "loop.example/g01157/laws.FnScales", spec := "fnScales", apart := false }
def FnScalesSaid : Prop := fnScalesRow.holds Try.pinned (OpenSpec.ofChange fnScalesSpec)

/-- ITS FALSE NEIGHBOUR: 'it returns false'. Refute it at one input. -/
def fnScalesWrong : ChangeSpec := { name := "fnScales", fn := fun _ => fun
  | [d1, d2] => { results := [.lit (.bool false)], args := [d1, d2] }
  | _ => none }
def FnScalesWrongFalsely : Prop := fnScalesRow.holds Try.pinned (OpenSpec.ofChange fnScalesWrong)

/-- 'laws.FnBatches': WHATEVER THE INPUT: true; the input reads as it did. -/
def fnBatchesSpec : ChangeSpec := { name := "fnBatches", fn := fun _ => fun
  | [d1, d2] => { results := [.lit (.bool true)], args := [d1, d2] }
  | _ => none }
def fnBatchesRow : OpenClaim := { program := "ytnnefcakfaifmaa", sum := "8502a76c466006c5b04654709e9e5e11dab591a8fbaaee15f408168543143091", func := "loop.example/g01157/laws.FnBatches", spec := "fnBatches", apart := false }
def FnBatchesSaid : Prop := fnBatchesRow.holds Try.pinned (OpenSpec.ofChange fnBatchesSpec)

/-- ITS FALSE NEIGHBOUR: 'it returns false'. Refute it at one input. -/
def fnBatchesWrong : ChangeSpec := { name := "fnBatches", fn := fun _ => fun
  | [d1, d2] => { results := [.lit (.bool false)], args := [d1, d2] }
  | _ => none }
def FnBatchesWrongFalsely : Prop := fnBatchesRow.holds Try.pinned (OpenSpec.ofChange fnBatchesWrong)

/-- 'laws.FnNarrowed': WHATEVER THE INPUT: true; the input reads as it did. -/
def fnNarrowedSpec : ChangeSpec := { name := "fnNarrowed", fn := fun _ => fun
  | [d1, d2] => { results := [.lit (.bool true)], args := [d1, d2] }
  | _ => none }
def fnNarrowedRow : OpenClaim := { program := "ytnnefcakfaifmaa", sum := "8502a76c466006c5b04654709e9e5e11dab591a8fbaaee15f408168543143091", func := "loop.example/g01157/laws.FnNarrowed", spec := "fnNarrowed", inPlace := ["math.Float32frombits", "math.Float32bits", "math.Float64bits"], apart := false }
def FnNarrowedSaid : Prop := fnNarrowedRow.holds Try.pinned (OpenSpec.ofChange fnNarrowedSpec)

/-- ITS FALSE NEIGHBOUR: 'it returns false'. Refute it at one input. -/
def fnNarrowedWrong : ChangeSpec := { name := "fnNarrowed", fn := fun _ => fun
  | [d1, d2] => { results := [.lit (.bool false)], args := [d1, d2] }
  | _ => none }
def FnNarrowedWrongFalsely : Prop := fnNarrowedRow.holds Try.pinned (OpenSpec.ofChange fnNarrowedWrong)

/-- 'laws.FnBfloats': WHATEVER THE INPUT: true; the input reads as it did. -/
def fnBfloatsSpec : ChangeSpec := { name := "fnBfloats", fn := fun _ => fun
  | [d1, d2] => { results := [.lit (.bool true)], args := [d1, d2] }
  | _ => none }
def fnBfloatsRow : OpenClaim := { program := "ytnnefcakfaifmaa", sum := "8502a76c466006c5b04654709e9e5e11dab591a8fbaaee15f408168543143091", func := "loop.example/g01157/laws.FnBfloats", spec := "fnBfloats", inPlace := ["math.Float32frombits", "math.Float64frombits", "math.Float32bits"], apart := false }
def FnBfloatsSaid : Prop := fnBfloatsRow.holds Try.pinned (OpenSpec.ofChange fnBfloatsSpec)

/-- ITS FALSE NEIGHBOUR: 'it returns false'. Refute it at one input. -/
def fnBfloatsWrong : ChangeSpec := { name := "fnBfloats", fn := fun _ => fun
  | [d1, d2] => { results := [.lit (.bool false)], args := [d1, d2] }
  | _ => none }
def FnBfloatsWrongFalsely : Prop := fnBfloatsRow.holds Try.pinned (OpenSpec.ofChange fnBfloatsWrong)

/-- 'laws.FnBits': WHATEVER THE INPUT: true; the input reads as it did. -/
def fnBitsSpec : ChangeSpec := { name := "fnBits", fn := fun _ => fun
  | [d1, d2] => { results := [.lit (.bool true)], args := [d1, d2] }
  | _ => none }
def fnBitsRow : OpenClaim := { program := "ytnnefcakfaifmaa", sum := "8502a76c466006c5b04654709e9e5e11dab591a8fbaaee15f408168543143091", func := "loop.example/g01157/laws.FnBits", spec := "fnBits", inPlace := ["math.Float32frombits", "math.Float32bits", "math.Float64bits", "math.Float64frombits"], apart := false }
def FnBitsSaid : Prop := fnBitsRow.holds Try.pinned (OpenSpec.ofChange fnBitsSpec)

/-- ITS FALSE NEIGHBOUR: 'it returns false'. Refute it at one input. -/
def fnBitsWrong : ChangeSpec := { name := "fnBits", fn := fun _ => fun
  | [d1, d2] => { results := [.lit (.bool false)], args := [d1, d2] }
  | _ => none }
def FnBitsWrongFalsely : Prop := fnBitsRow.holds Try.pinned (OpenSpec.ofChange fnBitsWrong)

/-- 'laws.FnGathered': WHATEVER THE INPUT: true; the input reads as it did. -/
def fnGatheredSpec : ChangeSpec := { name := "fnGathered", fn := fun _ => fun
  | [d1, d2] => { results := [.lit (.bool true)], args := [d1, d2] }
  | _ => none }
def fnGatheredRow : OpenClaim := { program := "ytnnefcakfaifmaa", sum := "8502a76c466006c5b04654709e9e5e11dab591a8fbaaee15f408168543143091", func := "loop.example/g01157/laws.FnGathered", spec := "fnGathered", inPlace := ["math.Float32frombits", "math.Float64frombits", "math.Float32bits", "math.Float64bits"], apart := false }
def FnGatheredSaid : Prop := fnGatheredRow.holds Try.pinned (OpenSpec.ofChange fnGatheredSpec)

/-- ITS FALSE NEIGHBOUR: 'it returns false'. Refute it at one input. -/
def fnGatheredWrong : ChangeSpec := { name := "fnGathered", fn := fun _ => fun
  | [d1, d2] => { results := [.lit (.bool false)], args := [d1, d2] }
  | _ => none }
def FnGatheredWrongFalsely : Prop := fnGatheredRow.holds Try.pinned (OpenSpec.ofChange fnGatheredWrong)

/-- 'laws.FnCodes': WHATEVER THE INPUT: true; the input reads as it did. -/
def fnCodesSpec : ChangeSpec := { name := "fnCodes", fn := fun _ => fun
  | [d1, d2] => { results := [.lit (.bool true)], args := [d1, d2] }
  | _ => none }
def fnCodesRow : OpenClaim := { program := "ytnnefcakfaifmaa", sum := "8502a76c466006c5b04654709e9e5e11dab591a8fbaaee15f408168543143091", func := "loop.example/g01157/laws.FnCodes", spec := "fnCodes", inPlace := ["math.Float64bits", "math.RoundToEven"], unfollowed := true, recurses := true, apart := false }
def FnCodesSaid : Prop := fnCodesRow.holds Try.pinned (OpenSpec.ofChange fnCodesSpec)

/-- ITS FALSE NEIGHBOUR: 'it returns false'. Refute it at one input. -/
def fnCodesWrong : ChangeSpec := { name := "fnCodes", fn := fun _ => fun
  | [d1, d2] => { results := [.lit (.bool false)], args := [d1, d2] }
  | _ => none }
def FnCodesWrongFalsely : Prop := fnCodesRow.holds Try.pinned (OpenSpec.ofChange fnCodesWrong)

/-- 'laws.FnSums': WHATEVER THE INPUT: true; the input reads as it did. -/
def fnSumsSpec : ChangeSpec := { name := "fnSums", fn := fun _ => fun
  | [d1, d2] => { results := [.lit (.bool true)], args := [d1, d2] }
  | _ => none }
def fnSumsRow : OpenClaim := { program := "ytnnefcakfaifmaa", sum := "8502a76c466006c5b04654709e9e5e11dab591a8fbaaee15f408168543143091", func := "loop.example/g01157/laws.FnSums", spec := "fnSums", inPlace := ["math.Float32frombits", "math.Float32bits"], recurses := true, apart := false }
def FnSumsSaid : Prop := fnSumsRow.holds Try.pinned (OpenSpec.ofChange fnSumsSpec)

/-- ITS FALSE NEIGHBOUR: 'it returns false'. Refute it at one input. -/
def fnSumsWrong : ChangeSpec := { name := "fnSums", fn := fun _ => fun
  | [d1, d2] => { results := [.lit (.bool false)], args := [d1, d2] }
  | _ => none }
def FnSumsWrongFalsely : Prop := fnSumsRow.holds Try.pinned (OpenSpec.ofChange fnSumsWrong)

/-- 'laws.FnClipped': WHATEVER THE INPUT: true; the input reads as it did. -/
def fnClippedSpec : ChangeSpec := { name := "fnClipped", fn := fun _ => fun
  | [d1, d2] => { results := [.lit (.bool true)], args := [d1, d2] }
  | _ => none }
def fnClippedRow : OpenClaim := { program := "ytnnefcakfaifmaa", sum := "8502a76c466006c5b04654709e9e5e11dab591a8fbaaee15f408168543143091", func := "loop.example/g01157/laws.FnClipped", spec := "fnClipped", inPlace := ["math.sqrt", "math.Float32bits"], apart := false }
def FnClippedSaid : Prop := fnClippedRow.holds Try.pinned (OpenSpec.ofChange fnClippedSpec)

/-- ITS FALSE NEIGHBOUR: 'it returns false'. Refute it at one input. -/
def fnClippedWrong : ChangeSpec := { name := "fnClipped", fn := fun _ => fun
  | [d1, d2] => { results := [.lit (.bool false)], args := [d1, d2] }
  | _ => none }
def FnClippedWrongFalsely : Prop := fnClippedRow.holds Try.pinned (OpenSpec.ofChange fnClippedWrong)

/-- 'laws.FnLosses': WHATEVER THE INPUT: true; the input reads as it did. -/
def fnLossesSpec : ChangeSpec := { name := "fnLosses", fn := fun _ => fun
  | [d1, d2] => { results := [.lit (.bool true)], args := [d1, d2] }
  | _ => none }
def fnLossesRow : OpenClaim := { program := "ytnnefcakfaifmaa", sum := "8502a76c466006c5b04654709e9e5e11dab591a8fbaaee15f408168543143091", func := "loop.example/g01157/laws.FnLosses", spec := "fnLosses", inPlace := ["math.Float64bits", "math.Float64frombits"], apart := false }
def FnLossesSaid : Prop := fnLossesRow.holds Try.pinned (OpenSpec.ofChange fnLossesSpec)

/-- ITS FALSE NEIGHBOUR: 'it returns false'. Refute it at one input. -/
def fnLossesWrong : ChangeSpec := { name := "fnLosses", fn := fun _ => fun
  | [d1, d2] => { results := [.lit (.bool false)], args := [d1, d2] }
  | _ => none }
def FnLossesWrongFalsely : Prop := fnLossesRow.holds Try.pinned (OpenSpec.ofChange fnLossesWrong)

/-- 'laws.FnEightBits': WHATEVER THE INPUT: true; the input reads as it did. -/
def fnEightBitsSpec : ChangeSpec := { name := "fnEightBits", fn := fun _ => fun
  | [d1, d2] => { results := [.lit (.bool true)], args := [d1, d2] }
  | _ => none }
def fnEightBitsRow : OpenClaim := { program := "ytnnefcakfaifmaa", sum := "8502a76c466006c5b04654709e9e5e11dab591a8fbaaee15f408168543143091", func := "loop.example/g01157/laws.FnEightBits", spec := "fnEightBits", inPlace := ["math.Float32frombits", "math.Float64bits", "math.Float64frombits", "math.RoundToEven", "math.archFloor", "math.archTrunc"], unfollowed := true, recurses := true, apart := false }
def FnEightBitsSaid : Prop := fnEightBitsRow.holds Try.pinned (OpenSpec.ofChange fnEightBitsSpec)

/-- ITS FALSE NEIGHBOUR: 'it returns false'. Refute it at one input. -/
def fnEightBitsWrong : ChangeSpec := { name := "fnEightBits", fn := fun _ => fun
  | [d1, d2] => { results := [.lit (.bool false)], args := [d1, d2] }
  | _ => none }
def FnEightBitsWrongFalsely : Prop := fnEightBitsRow.holds Try.pinned (OpenSpec.ofChange fnEightBitsWrong)

/- THE SECOND FORM. 'bulk': how many values and letters a reading holds, each counted each time it is reached (what is shared counts as often as it is met; a slice's spare places count too). A statement '..UptoSaid' is the law's where the arguments, and the package variables that the reading takes, are together of bulk at most 1048576: NARROWER than '..Said'. Prove '..Said' where nothing that the law and all that it calls make is longer than what came in: it says more and counts as full. Else prove '..UptoSaid'. A law counts once. -/
mutual
def uptoBulk {H : Type} : DataW H → Nat
  | .lit (.string bytes) => bytes.length + 1
  | .lit _ => 1
  | .nil => 1
  | .ptr d => uptoBulk d + 1
  | .slice elems spare => uptoBulkAll elems + uptoBulkAll spare + 1
  | .agg parts => uptoBulkAll parts + 1
  | .iface _ d => uptoBulk d + 1
  | .map entries => uptoBulkEntries entries + 1
  | .held _ => 1
def uptoBulkAll {H : Type} : List (DataW H) → Nat
  | [] => 0
  | d :: r => uptoBulk d + uptoBulkAll r
def uptoBulkEntries {H : Type} : List (Lit × DataW H) → Nat
  | [] => 0
  | x :: r => uptoBulkEntry x + uptoBulkEntries r
def uptoBulkEntry {H : Type} : Lit × DataW H → Nat
  | (.string bytes, d) => bytes.length + uptoBulk d + 1
  | (_, d) => uptoBulk d + 1
 end
def uptoSmall : (H : Type) → List (DataW H) → Bool := fun _ ds => decide (uptoBulkAll ds ≤ 1048576)
def OpenSpec.upto (s : _root_.Go.ChangeSpec) : _root_.Go.OpenSpec := { _root_.Go.OpenSpec.ofChange s with cond := some uptoSmall }

/-- 'laws.FnRates', WHERE WHAT IT READS IS OF BULK AT MOST 1048576: true; the input reads as it did. -/
def fnRatesUptoRow : OpenClaim := { program := "ytnnefcakfaifmaa", sum := "8502a76c466006c5b04654709e9e5e11dab591a8fbaaee15f408168543143091", func := "loop.example/g01157/laws.FnRates", spec := "fnRates", apart := false, narrowed := true }
def FnRatesUptoSaid : Prop := fnRatesUptoRow.holds Try.pinned (OpenSpec.upto fnRatesSpec)

/-- 'laws.FnScales', WHERE WHAT IT READS IS OF BULK AT MOST 1048576: true; the input reads as it did. -/
def fnScalesUptoRow : OpenClaim := { program := "ytnnefcakfaifmaa", sum := "8502a76c466006c5b04654709e9e5e11dab591a8fbaaee15f408168543143091", func := "loop.example/g01157/laws.FnScales", spec := "fnScales", apart := false, narrowed := true }
def FnScalesUptoSaid : Prop := fnScalesUptoRow.holds Try.pinned (OpenSpec.upto fnScalesSpec)

/-- 'laws.FnBatches', WHERE WHAT IT READS IS OF BULK AT MOST 1048576: true; the input reads as it did. -/
def fnBatchesUptoRow : OpenClaim := { program := "ytnnefcakfaifmaa", sum := "8502a76c466006c5b04654709e9e5e11dab591a8fbaaee15f408168543143091", func := "loop.example/g01157/laws.FnBatches", spec := "fnBatches", apart := false, narrowed := true }
def FnBatchesUptoSaid : Prop := fnBatchesUptoRow.holds Try.pinned (OpenSpec.upto fnBatchesSpec)

/-- 'laws.FnNarrowed', WHERE WHAT IT READS IS OF BULK AT MOST 1048576: true; the input reads as it did. -/
def fnNarrowedUptoRow : OpenClaim := { program := "ytnnefcakfaifmaa", sum := "8502a76c466006c5b04654709e9e5e11dab591a8fbaaee15f408168543143091", func := "loop.example/g01157/laws.FnNarrowed", spec := "fnNarrowed", inPlace := ["math.Float32frombits", "math.Float32bits", "math.Float64bits"], apart := false, narrowed := true }
def FnNarrowedUptoSaid : Prop := fnNarrowedUptoRow.holds Try.pinned (OpenSpec.upto fnNarrowedSpec)

/-- 'laws.FnBfloats', WHERE WHAT IT READS IS OF BULK AT MOST 1048576: true; the input reads as it did. -/
def fnBfloatsUptoRow : OpenClaim := { program := "ytnnefcakfaifmaa", sum := "8502a76c466006c5b04654709e9e5e11dab591a8fbaaee15f408168543143091", func := "loop.example/g01157/laws.FnBfloats", spec := "fnBfloats", inPlace := ["math.Float32frombits", "math.Float64frombits", "math.Float32bits"], apart := false, narrowed := true }
def FnBfloatsUptoSaid : Prop := fnBfloatsUptoRow.holds Try.pinned (OpenSpec.upto fnBfloatsSpec)

/-- 'laws.FnBits', WHERE WHAT IT READS IS OF BULK AT MOST 1048576: true; the input reads as it did. -/
def fnBitsUptoRow : OpenClaim := { program := "ytnnefcakfaifmaa", sum := "8502a76c466006c5b04654709e9e5e11dab591a8fbaaee15f408168543143091", func := "loop.example/g01157/laws.FnBits", spec := "fnBits", inPlace := ["math.Float32frombits", "math.Float32bits", "math.Float64bits", "math.Float64frombits"], apart := false, narrowed := true }
def FnBitsUptoSaid : Prop := fnBitsUptoRow.holds Try.pinned (OpenSpec.upto fnBitsSpec)

/-- 'laws.FnGathered', WHERE WHAT IT READS IS OF BULK AT MOST 1048576: true; the input reads as it did. -/
def fnGatheredUptoRow : OpenClaim := { program := "ytnnefcakfaifmaa", sum := "8502a76c466006c5b04654709e9e5e11dab591a8fbaaee15f408168543143091", func := "loop.example/g01157/laws.FnGathered", spec := "fnGathered", inPlace := ["math.Float32frombits", "math.Float64frombits", "math.Float32bits", "math.Float64bits"], apart := false, narrowed := true }
def FnGatheredUptoSaid : Prop := fnGatheredUptoRow.holds Try.pinned (OpenSpec.upto fnGatheredSpec)

/-- 'laws.FnCodes', WHERE WHAT IT READS IS OF BULK AT MOST 1048576: true; the input reads as it did. -/
def fnCodesUptoRow : OpenClaim := { program := "ytnnefcakfaifmaa", sum := "8502a76c466006c5b04654709e9e5e11dab591a8fbaaee15f408168543143091", func := "loop.example/g01157/laws.FnCodes", spec := "fnCodes", inPlace := ["math.Float64bits", "math.RoundToEven"], unfollowed := true, recurses := true, apart := false, narrowed := true }
def FnCodesUptoSaid : Prop := fnCodesUptoRow.holds Try.pinned (OpenSpec.upto fnCodesSpec)

/-- 'laws.FnSums', WHERE WHAT IT READS IS OF BULK AT MOST 1048576: true; the input reads as it did. -/
def fnSumsUptoRow : OpenClaim := { program := "ytnnefcakfaifmaa", sum := "8502a76c466006c5b04654709e9e5e11dab591a8fbaaee15f408168543143091", func := "loop.example/g01157/laws.FnSums", spec := "fnSums", inPlace := ["math.Float32frombits", "math.Float32bits"], recurses := true, apart := false, narrowed := true }
def FnSumsUptoSaid : Prop := fnSumsUptoRow.holds Try.pinned (OpenSpec.upto fnSumsSpec)

/-- 'laws.FnClipped', WHERE WHAT IT READS IS OF BULK AT MOST 1048576: true; the input reads as it did. -/
def fnClippedUptoRow : OpenClaim := { program := "ytnnefcakfaifmaa", sum := "8502a76c466006c5b04654709e9e5e11dab591a8fbaaee15f408168543143091", func := "loop.example/g01157/laws.FnClipped", spec := "fnClipped", inPlace := ["math.sqrt", "math.Float32bits"], apart := false, narrowed := true }
def FnClippedUptoSaid : Prop := fnClippedUptoRow.holds Try.pinned (OpenSpec.upto fnClippedSpec)

/-- 'laws.FnLosses', WHERE WHAT IT READS IS OF BULK AT MOST 1048576: true; the input reads as it did. -/
def fnLossesUptoRow : OpenClaim := { program := "ytnnefcakfaifmaa", sum := "8502a76c466006c5b04654709e9e5e11dab591a8fbaaee15f408168543143091", func := "loop.example/g01157/laws.FnLosses", spec := "fnLosses", inPlace := ["math.Float64bits", "math.Float64frombits"], apart := false, narrowed := true }
def FnLossesUptoSaid : Prop := fnLossesUptoRow.holds Try.pinned (OpenSpec.upto fnLossesSpec)

/-- 'laws.FnEightBits', WHERE WHAT IT READS IS OF BULK AT MOST 1048576: true; the input reads as it did. -/
def fnEightBitsUptoRow : OpenClaim := { program := "ytnnefcakfaifmaa", sum := "8502a76c466006c5b04654709e9e5e11dab591a8fbaaee15f408168543143091", func := "loop.example/g01157/laws.FnEightBits", spec := "fnEightBits", inPlace := ["math.Float32frombits", "math.Float64bits", "math.Float64frombits", "math.RoundToEven", "math.archFloor", "math.archTrunc"], unfollowed := true, recurses := true, apart := false, narrowed := true }
def FnEightBitsUptoSaid : Prop := fnEightBitsUptoRow.holds Try.pinned (OpenSpec.upto fnEightBitsSpec)

end Rows
end Go.Proofs.Ytnnefcakfaifmaa
