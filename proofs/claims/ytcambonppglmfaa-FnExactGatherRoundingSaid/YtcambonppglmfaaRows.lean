/-
  No cell of these rows narrows 'for every input' (looked for: loops, veiled, ifaces, maps, wideKeys, modest, calm, conditions, laid).
  DERIVED. THE GIVEN ROWS OF THIS SEAT. 12 by the template 'for every input the law returns true; each argument reads behind the call as it read before'; 0 by the template 'total and deterministic' (their statements: YtcambonppglmfaaTotals.lean).
  GIVEN WITH THE SEED: the statements are not yours to turn. If you find one false, say at which input.
  Laid BY PROGRAM, IN A SANDBOX (cutbox-rows.mjs): the forced cells as the released guide's own fill.sh prints them over the translation 8583be1c977d588d… (all of the seat's roots in one cut). By AI agents, Wed Nov 11 2026. No macro, syntax, notation, axiom, sorry.
-/
import Derived.Test.YtcambonppglmfaaChecked
import GoSem.Claim
import GoSem.ClaimJoined
import GoSem.ClaimMapViews
import Derived.JoinedTies
import Derived.KernelRfl
namespace Go.Proofs.Ytcambonppglmfaa
/- THE CELL 'sum', in the pinned program and in every row, IS THE sha256 OF THE DUMP (.gsa) THAT YtcambonppglmfaaProg.lean LOADS. Nothing in Lean hashes anything: it is a label: what it is worth is what the hold of that sum in a sandbox is worth. -/
noncomputable def Try.pinned : Pinned := { name := "ytcambonppglmfaa", sum := "8583be1c977d588dee2d61b2864b9c7c86217543c8a6637569191d7a138260d9", checked := Try.checked }
namespace Rows
def none {H : Type} : Left H := { results := [], args := [] }

/-- 'laws.FnExactSpreadOf': WHATEVER THE INPUT: true; the input reads as it did. -/
def fnExactSpreadOfSpec : ChangeSpec := { name := "fnExactSpreadOf", fn := fun _ => fun
  | [d] => { results := [.lit (.bool true)], args := [d] }
  | _ => none }
def fnExactSpreadOfRow : OpenClaim := { program := "ytcambonppglmfaa", sum := "8583be1c977d588dee2d61b2864b9c7c86217543c8a6637569191d7a138260d9", func := "loop.example/g01157/laws.FnExactSpreadOf", spec := "fnExactSpreadOf", inPlace := ["math.Float64bits", "math.Float64frombits"], unfollowed := true, recurses := true, apart := false }
def FnExactSpreadOfSaid : Prop := fnExactSpreadOfRow.holds Try.pinned (OpenSpec.ofChange fnExactSpreadOfSpec)

/-- ITS FALSE NEIGHBOUR: 'it returns false'. Refute it at one input. -/
def fnExactSpreadOfWrong : ChangeSpec := { name := "fnExactSpreadOf", fn := fun _ => fun
  | [d] => { results := [.lit (.bool false)], args := [d] }
  | _ => none }
def FnExactSpreadOfWrongFalsely : Prop := fnExactSpreadOfRow.holds Try.pinned (OpenSpec.ofChange fnExactSpreadOfWrong)

/-- 'laws.FnExactLossSquares': WHATEVER THE INPUT: true; the input reads as it did. -/
def fnExactLossSquaresSpec : ChangeSpec := { name := "fnExactLossSquares", fn := fun _ => fun
  | [d1, d2] => { results := [.lit (.bool true)], args := [d1, d2] }
  | _ => none }
def fnExactLossSquaresRow : OpenClaim := { program := "ytcambonppglmfaa", sum := "8583be1c977d588dee2d61b2864b9c7c86217543c8a6637569191d7a138260d9", func := "loop.example/g01157/laws.FnExactLossSquares", spec := "fnExactLossSquares", apart := false }
def FnExactLossSquaresSaid : Prop := fnExactLossSquaresRow.holds Try.pinned (OpenSpec.ofChange fnExactLossSquaresSpec)

/-- ITS FALSE NEIGHBOUR: 'it returns false'. Refute it at one input. -/
def fnExactLossSquaresWrong : ChangeSpec := { name := "fnExactLossSquares", fn := fun _ => fun
  | [d1, d2] => { results := [.lit (.bool false)], args := [d1, d2] }
  | _ => none }
def FnExactLossSquaresWrongFalsely : Prop := fnExactLossSquaresRow.holds Try.pinned (OpenSpec.ofChange fnExactLossSquaresWrong)

/-- 'laws.FnExactGatherRounding': WHATEVER THE INPUT: true; the input reads as it did. -/
def fnExactGatherRoundingSpec : ChangeSpec := { name := "fnExactGatherRounding", fn := fun _ => fun
  | [d1, d2] => { results := [.lit (.bool true)], args := [d1, d2] }
  | _ => none }
def fnExactGatherRoundingRow : OpenClaim := { program := "ytcambonppglmfaa", sum := "8583be1c977d588dee2d61b2864b9c7c86217543c8a6637569191d7a138260d9", func := "loop.example/g01157/laws.FnExactGatherRounding", spec := "fnExactGatherRounding", inPlace := ["math.Float32bits", "math.Float32frombits", "math.Float64frombits"], apart := false }
def FnExactGatherRoundingSaid : Prop := fnExactGatherRoundingRow.holds Try.pinned (OpenSpec.ofChange fnExactGatherRoundingSpec)

/-- ITS FALSE NEIGHBOUR: 'it returns false'. Refute it at one input. -/
def fnExactGatherRoundingWrong : ChangeSpec := { name := "fnExactGatherRounding", fn := fun _ => fun
  | [d1, d2] => { results := [.lit (.bool false)], args := [d1, d2] }
  | _ => none }
def FnExactGatherRoundingWrongFalsely : Prop := fnExactGatherRoundingRow.holds Try.pinned (OpenSpec.ofChange fnExactGatherRoundingWrong)

/-- 'laws.FnExactEmptySlots': WHATEVER THE INPUT: true; the input reads as it did. -/
def fnExactEmptySlotsSpec : ChangeSpec := { name := "fnExactEmptySlots", fn := fun _ => fun
  | [d1, d2] => { results := [.lit (.bool true)], args := [d1, d2] }
  | _ => none }
def fnExactEmptySlotsRow : OpenClaim := { program := "ytcambonppglmfaa", sum := "8583be1c977d588dee2d61b2864b9c7c86217543c8a6637569191d7a138260d9", func := "loop.example/g01157/laws.FnExactEmptySlots", spec := "fnExactEmptySlots", apart := false }
def FnExactEmptySlotsSaid : Prop := fnExactEmptySlotsRow.holds Try.pinned (OpenSpec.ofChange fnExactEmptySlotsSpec)

/-- ITS FALSE NEIGHBOUR: 'it returns false'. Refute it at one input. -/
def fnExactEmptySlotsWrong : ChangeSpec := { name := "fnExactEmptySlots", fn := fun _ => fun
  | [d1, d2] => { results := [.lit (.bool false)], args := [d1, d2] }
  | _ => none }
def FnExactEmptySlotsWrongFalsely : Prop := fnExactEmptySlotsRow.holds Try.pinned (OpenSpec.ofChange fnExactEmptySlotsWrong)

/-- 'laws.FnExactNumbersOf': WHATEVER THE INPUT: true; the input reads as it did. -/
def fnExactNumbersOfSpec : ChangeSpec := { name := "fnExactNumbersOf", fn := fun _ => fun
  | [d1, d2] => { results := [.lit (.bool true)], args := [d1, d2] }
  | _ => none }
def fnExactNumbersOfRow : OpenClaim := { program := "ytcambonppglmfaa", sum := "8583be1c977d588dee2d61b2864b9c7c86217543c8a6637569191d7a138260d9", func := "loop.example/g01157/laws.FnExactNumbersOf", spec := "fnExactNumbersOf", inPlace := ["math.Float32bits", "math.Float64bits"], unfollowed := true, recurses := true, apart := false }
def FnExactNumbersOfSaid : Prop := fnExactNumbersOfRow.holds Try.pinned (OpenSpec.ofChange fnExactNumbersOfSpec)

/-- ITS FALSE NEIGHBOUR: 'it returns false'. Refute it at one input. -/
def fnExactNumbersOfWrong : ChangeSpec := { name := "fnExactNumbersOf", fn := fun _ => fun
  | [d1, d2] => { results := [.lit (.bool false)], args := [d1, d2] }
  | _ => none }
def FnExactNumbersOfWrongFalsely : Prop := fnExactNumbersOfRow.holds Try.pinned (OpenSpec.ofChange fnExactNumbersOfWrong)

/-- 'laws.FnExactLossAbsolute': WHATEVER THE INPUT: true; the input reads as it did. -/
def fnExactLossAbsoluteSpec : ChangeSpec := { name := "fnExactLossAbsolute", fn := fun _ => fun
  | [d1, d2] => { results := [.lit (.bool true)], args := [d1, d2] }
  | _ => none }
def fnExactLossAbsoluteRow : OpenClaim := { program := "ytcambonppglmfaa", sum := "8583be1c977d588dee2d61b2864b9c7c86217543c8a6637569191d7a138260d9", func := "loop.example/g01157/laws.FnExactLossAbsolute", spec := "fnExactLossAbsolute", inPlace := ["math.Float32bits", "math.Float32frombits", "math.Float64bits", "math.Float64frombits"], apart := false }
def FnExactLossAbsoluteSaid : Prop := fnExactLossAbsoluteRow.holds Try.pinned (OpenSpec.ofChange fnExactLossAbsoluteSpec)

/-- ITS FALSE NEIGHBOUR: 'it returns false'. Refute it at one input. -/
def fnExactLossAbsoluteWrong : ChangeSpec := { name := "fnExactLossAbsolute", fn := fun _ => fun
  | [d1, d2] => { results := [.lit (.bool false)], args := [d1, d2] }
  | _ => none }
def FnExactLossAbsoluteWrongFalsely : Prop := fnExactLossAbsoluteRow.holds Try.pinned (OpenSpec.ofChange fnExactLossAbsoluteWrong)

/-- 'laws.FnExactLossHuber': WHATEVER THE INPUT: true; the input reads as it did. -/
def fnExactLossHuberSpec : ChangeSpec := { name := "fnExactLossHuber", fn := fun _ => fun
  | [d1, d2, d3] => { results := [.lit (.bool true)], args := [d1, d2, d3] }
  | _ => none }
def fnExactLossHuberRow : OpenClaim := { program := "ytcambonppglmfaa", sum := "8583be1c977d588dee2d61b2864b9c7c86217543c8a6637569191d7a138260d9", func := "loop.example/g01157/laws.FnExactLossHuber", spec := "fnExactLossHuber", inPlace := ["math.Float32bits", "math.Float32frombits", "math.Float64bits", "math.Float64frombits"], apart := false }
def FnExactLossHuberSaid : Prop := fnExactLossHuberRow.holds Try.pinned (OpenSpec.ofChange fnExactLossHuberSpec)

/-- ITS FALSE NEIGHBOUR: 'it returns false'. Refute it at one input. -/
def fnExactLossHuberWrong : ChangeSpec := { name := "fnExactLossHuber", fn := fun _ => fun
  | [d1, d2, d3] => { results := [.lit (.bool false)], args := [d1, d2, d3] }
  | _ => none }
def FnExactLossHuberWrongFalsely : Prop := fnExactLossHuberRow.holds Try.pinned (OpenSpec.ofChange fnExactLossHuberWrong)

/-- 'laws.FnExactClipGradients': WHATEVER THE INPUT: true; the input reads as it did. -/
def fnExactClipGradientsSpec : ChangeSpec := { name := "fnExactClipGradients", fn := fun _ => fun
  | [d1, d2] => { results := [.lit (.bool true)], args := [d1, d2] }
  | _ => none }
def fnExactClipGradientsRow : OpenClaim := { program := "ytcambonppglmfaa", sum := "8583be1c977d588dee2d61b2864b9c7c86217543c8a6637569191d7a138260d9", func := "loop.example/g01157/laws.FnExactClipGradients", spec := "fnExactClipGradients", inPlace := ["math.sqrt"], apart := false }
def FnExactClipGradientsSaid : Prop := fnExactClipGradientsRow.holds Try.pinned (OpenSpec.ofChange fnExactClipGradientsSpec)

/-- ITS FALSE NEIGHBOUR: 'it returns false'. Refute it at one input. -/
def fnExactClipGradientsWrong : ChangeSpec := { name := "fnExactClipGradients", fn := fun _ => fun
  | [d1, d2] => { results := [.lit (.bool false)], args := [d1, d2] }
  | _ => none }
def FnExactClipGradientsWrongFalsely : Prop := fnExactClipGradientsRow.holds Try.pinned (OpenSpec.ofChange fnExactClipGradientsWrong)

/-- 'laws.FnExactCodesOf': WHATEVER THE INPUT: true; the input reads as it did. -/
def fnExactCodesOfSpec : ChangeSpec := { name := "fnExactCodesOf", fn := fun _ => fun
  | [d1, d2] => { results := [.lit (.bool true)], args := [d1, d2] }
  | _ => none }
def fnExactCodesOfRow : OpenClaim := { program := "ytcambonppglmfaa", sum := "8583be1c977d588dee2d61b2864b9c7c86217543c8a6637569191d7a138260d9", func := "loop.example/g01157/laws.FnExactCodesOf", spec := "fnExactCodesOf", inPlace := ["math.Float32bits", "math.RoundToEven", "math.Float64bits"], unfollowed := true, recurses := true, apart := false }
def FnExactCodesOfSaid : Prop := fnExactCodesOfRow.holds Try.pinned (OpenSpec.ofChange fnExactCodesOfSpec)

/-- ITS FALSE NEIGHBOUR: 'it returns false'. Refute it at one input. -/
def fnExactCodesOfWrong : ChangeSpec := { name := "fnExactCodesOf", fn := fun _ => fun
  | [d1, d2] => { results := [.lit (.bool false)], args := [d1, d2] }
  | _ => none }
def FnExactCodesOfWrongFalsely : Prop := fnExactCodesOfRow.holds Try.pinned (OpenSpec.ofChange fnExactCodesOfWrong)

/-- 'laws.FnExactCodesBy': WHATEVER THE INPUT: true; the input reads as it did. -/
def fnExactCodesBySpec : ChangeSpec := { name := "fnExactCodesBy", fn := fun _ => fun
  | [d1, d2, d3] => { results := [.lit (.bool true)], args := [d1, d2, d3] }
  | _ => none }
def fnExactCodesByRow : OpenClaim := { program := "ytcambonppglmfaa", sum := "8583be1c977d588dee2d61b2864b9c7c86217543c8a6637569191d7a138260d9", func := "loop.example/g01157/laws.FnExactCodesBy", spec := "fnExactCodesBy", inPlace := ["math.Float32bits", "math.archFloor", "math.Float64bits", "math.Float64frombits", "math.archTrunc"], unfollowed := true, recurses := true, apart := false }
def FnExactCodesBySaid : Prop := fnExactCodesByRow.holds Try.pinned (OpenSpec.ofChange fnExactCodesBySpec)

/-- ITS FALSE NEIGHBOUR: 'it returns false'. Refute it at one input. -/
def fnExactCodesByWrong : ChangeSpec := { name := "fnExactCodesBy", fn := fun _ => fun
  | [d1, d2, d3] => { results := [.lit (.bool false)], args := [d1, d2, d3] }
  | _ => none }
def FnExactCodesByWrongFalsely : Prop := fnExactCodesByRow.holds Try.pinned (OpenSpec.ofChange fnExactCodesByWrong)

/-- 'laws.FnExactLossEntropy': WHATEVER THE INPUT: true; the input reads as it did. -/
def fnExactLossEntropySpec : ChangeSpec := { name := "fnExactLossEntropy", fn := fun _ => fun
  | [d1, d2] => { results := [.lit (.bool true)], args := [d1, d2] }
  | _ => none }
def fnExactLossEntropyRow : OpenClaim := { program := "ytcambonppglmfaa", sum := "8583be1c977d588dee2d61b2864b9c7c86217543c8a6637569191d7a138260d9", func := "loop.example/g01157/laws.FnExactLossEntropy", spec := "fnExactLossEntropy", inPlace := ["math.Float64frombits", "math.Float64bits"], apart := false }
def FnExactLossEntropySaid : Prop := fnExactLossEntropyRow.holds Try.pinned (OpenSpec.ofChange fnExactLossEntropySpec)

/-- ITS FALSE NEIGHBOUR: 'it returns false'. Refute it at one input. -/
def fnExactLossEntropyWrong : ChangeSpec := { name := "fnExactLossEntropy", fn := fun _ => fun
  | [d1, d2] => { results := [.lit (.bool false)], args := [d1, d2] }
  | _ => none }
def FnExactLossEntropyWrongFalsely : Prop := fnExactLossEntropyRow.holds Try.pinned (OpenSpec.ofChange fnExactLossEntropyWrong)

/-- 'laws.FnExactStepParams': WHATEVER THE INPUT: true; the input reads as it did. -/
def fnExactStepParamsSpec : ChangeSpec := { name := "fnExactStepParams", fn := fun _ => fun
  | [d1, d2, d3, d4, d5] => { results := [.lit (.bool true)], args := [d1, d2, d3, d4, d5] }
  | _ => none }
def fnExactStepParamsRow : OpenClaim := { program := "ytcambonppglmfaa", sum := "8583be1c977d588dee2d61b2864b9c7c86217543c8a6637569191d7a138260d9", func := "loop.example/g01157/laws.FnExactStepParams", spec := "fnExactStepParams", inPlace := ["math.sqrt"], unfollowed := true, recurses := true, apart := false }
def FnExactStepParamsSaid : Prop := fnExactStepParamsRow.holds Try.pinned (OpenSpec.ofChange fnExactStepParamsSpec)

/-- ITS FALSE NEIGHBOUR: 'it returns false'. Refute it at one input. -/
def fnExactStepParamsWrong : ChangeSpec := { name := "fnExactStepParams", fn := fun _ => fun
  | [d1, d2, d3, d4, d5] => { results := [.lit (.bool false)], args := [d1, d2, d3, d4, d5] }
  | _ => none }
def FnExactStepParamsWrongFalsely : Prop := fnExactStepParamsRow.holds Try.pinned (OpenSpec.ofChange fnExactStepParamsWrong)

/- THE SECOND FORM. 'bulk': how many values and letters a reading holds, each counted each time it is reached (what is shared counts as often as it is met; a slice's spare places count too). A statement '..UptoSaid' is the law's where the arguments, and the package variables that the reading takes, are together of bulk at most 1048576: NARROWER than '..Said'. Prove '..Said' where nothing that the law and all that it calls make is longer than what came in: it says more and counts as full. Else prove '..UptoSaid'. A law counts once. -/
mutual
def uptoBulk {H : Type} : DataW H → Nat
  | .lit (.string bytes) => bytes.length + 1
  | .lit _ => 1
  | .nil => 1
  | .ptr d => uptoBulk d + 1
  | .slice elems spare => uptoBulkAll elems + uptoBulkAll spare + 1
  | .agg parts => uptoBulkAll parts + 1
  | .iface _ d => uptoBulk d + 1
  | .map entries => uptoBulkEntries entries + 1
  | .held _ => 1
def uptoBulkAll {H : Type} : List (DataW H) → Nat
  | [] => 0
  | d :: r => uptoBulk d + uptoBulkAll r
def uptoBulkEntries {H : Type} : List (Lit × DataW H) → Nat
  | [] => 0
  | x :: r => uptoBulkEntry x + uptoBulkEntries r
def uptoBulkEntry {H : Type} : Lit × DataW H → Nat
  | (.string bytes, d) => bytes.length + uptoBulk d + 1
  | (_, d) => uptoBulk d + 1
 end
def uptoSmall : (H : Type) → List (DataW H) → Bool := fun _ ds => decide (uptoBulkAll ds ≤ 1048576)
def OpenSpec.upto (s : _root_.Go.ChangeSpec) : _root_.Go.OpenSpec := { _root_.Go.OpenSpec.ofChange s with cond := some uptoSmall }

/-- 'laws.FnExactSpreadOf', WHERE WHAT IT READS IS OF BULK AT MOST 1048576: true; the input reads as it did. -/
def fnExactSpreadOfUptoRow : OpenClaim := { program := "ytcambonppglmfaa", sum := "8583be1c977d588dee2d61b2864b9c7c86217543c8a6637569191d7a138260d9", func := "loop.example/g01157/laws.FnExactSpreadOf", spec := "fnExactSpreadOf", inPlace := ["math.Float64bits", "math.Float64frombits"], unfollowed := true, recurses := true, apart := false, narrowed := true }
def FnExactSpreadOfUptoSaid : Prop := fnExactSpreadOfUptoRow.holds Try.pinned (OpenSpec.upto fnExactSpreadOfSpec)

/-- 'laws.FnExactLossSquares', WHERE WHAT IT READS IS OF BULK AT MOST 1048576: true; the input reads as it did. -/
def fnExactLossSquaresUptoRow : OpenClaim := { program := "ytcambonppglmfaa", sum := "8583be1c977d588dee2d61b2864b9c7c86217543c8a6637569191d7a138260d9", func := "loop.example/g01157/laws.FnExactLossSquares", spec := "fnExactLossSquares", apart := false, narrowed := true }
def FnExactLossSquaresUptoSaid : Prop := fnExactLossSquaresUptoRow.holds Try.pinned (OpenSpec.upto fnExactLossSquaresSpec)

/-- 'laws.FnExactGatherRounding', WHERE WHAT IT READS IS OF BULK AT MOST 1048576: true; the input reads as it did. -/
def fnExactGatherRoundingUptoRow : OpenClaim := { program := "ytcambonppglmfaa", sum := "8583be1c977d588dee2d61b2864b9c7c86217543c8a6637569191d7a138260d9", func := "loop.example/g01157/laws.FnExactGatherRounding", spec := "fnExactGatherRounding", inPlace := ["math.Float32bits", "math.Float32frombits", "math.Float64frombits"], apart := false, narrowed := true }
def FnExactGatherRoundingUptoSaid : Prop := fnExactGatherRoundingUptoRow.holds Try.pinned (OpenSpec.upto fnExactGatherRoundingSpec)

/-- 'laws.FnExactEmptySlots', WHERE WHAT IT READS IS OF BULK AT MOST 1048576: true; the input reads as it did. -/
def fnExactEmptySlotsUptoRow : OpenClaim := { program := "ytcambonppglmfaa", sum := "8583be1c977d588dee2d61b2864b9c7c86217543c8a6637569191d7a138260d9", func := "loop.example/g01157/laws.FnExactEmptySlots", spec := "fnExactEmptySlots", apart := false, narrowed := true }
def FnExactEmptySlotsUptoSaid : Prop := fnExactEmptySlotsUptoRow.holds Try.pinned (OpenSpec.upto fnExactEmptySlotsSpec)

/-- 'laws.FnExactNumbersOf', WHERE WHAT IT READS IS OF BULK AT MOST 1048576: true; the input reads as it did. -/
def fnExactNumbersOfUptoRow : OpenClaim := { program := "ytcambonppglmfaa", sum := "8583be1c977d588dee2d61b2864b9c7c86217543c8a6637569191d7a138260d9", func := "loop.example/g01157/laws.FnExactNumbersOf", spec := "fnExactNumbersOf", inPlace := ["math.Float32bits", "math.Float64bits"], unfollowed := true, recurses := true, apart := false, narrowed := true }
def FnExactNumbersOfUptoSaid : Prop := fnExactNumbersOfUptoRow.holds Try.pinned (OpenSpec.upto fnExactNumbersOfSpec)

/-- 'laws.FnExactLossAbsolute', WHERE WHAT IT READS IS OF BULK AT MOST 1048576: true; the input reads as it did. -/
def fnExactLossAbsoluteUptoRow : OpenClaim := { program := "ytcambonppglmfaa", sum := "8583be1c977d588dee2d61b2864b9c7c86217543c8a6637569191d7a138260d9", func := "loop.example/g01157/laws.FnExactLossAbsolute", spec := "fnExactLossAbsolute", inPlace := ["math.Float32bits", "math.Float32frombits", "math.Float64bits", "math.Float64frombits"], apart := false, narrowed := true }
def FnExactLossAbsoluteUptoSaid : Prop := fnExactLossAbsoluteUptoRow.holds Try.pinned (OpenSpec.upto fnExactLossAbsoluteSpec)

/-- 'laws.FnExactLossHuber', WHERE WHAT IT READS IS OF BULK AT MOST 1048576: true; the input reads as it did. -/
def fnExactLossHuberUptoRow : OpenClaim := { program := "ytcambonppglmfaa", sum := "8583be1c977d588dee2d61b2864b9c7c86217543c8a6637569191d7a138260d9", func := "loop.example/g01157/laws.FnExactLossHuber", spec := "fnExactLossHuber", inPlace := ["math.Float32bits", "math.Float32frombits", "math.Float64bits", "math.Float64frombits"], apart := false, narrowed := true }
def FnExactLossHuberUptoSaid : Prop := fnExactLossHuberUptoRow.holds Try.pinned (OpenSpec.upto fnExactLossHuberSpec)

/-- 'laws.FnExactClipGradients', WHERE WHAT IT READS IS OF BULK AT MOST 1048576: true; the input reads as it did. -/
def fnExactClipGradientsUptoRow : OpenClaim := { program := "ytcambonppglmfaa", sum := "8583be1c977d588dee2d61b2864b9c7c86217543c8a6637569191d7a138260d9", func := "loop.example/g01157/laws.FnExactClipGradients", spec := "fnExactClipGradients", inPlace := ["math.sqrt"], apart := false, narrowed := true }
def FnExactClipGradientsUptoSaid : Prop := fnExactClipGradientsUptoRow.holds Try.pinned (OpenSpec.upto fnExactClipGradientsSpec)

/-- 'laws.FnExactCodesOf', WHERE WHAT IT READS IS OF BULK AT MOST 1048576: true; the input reads as it did. -/
def fnExactCodesOfUptoRow : OpenClaim := { program := "ytcambonppglmfaa", sum := "8583be1c977d588dee2d61b2864b9c7c86217543c8a6637569191d7a138260d9", func := "loop.example/g01157/laws.FnExactCodesOf", spec := "fnExactCodesOf", inPlace := ["math.Float32bits", "math.RoundToEven", "math.Float64bits"], unfollowed := true, recurses := true, apart := false, narrowed := true }
def FnExactCodesOfUptoSaid : Prop := fnExactCodesOfUptoRow.holds Try.pinned (OpenSpec.upto fnExactCodesOfSpec)

/-- 'laws.FnExactCodesBy', WHERE WHAT IT READS IS OF BULK AT MOST 1048576: true; the input reads as it did. -/
def fnExactCodesByUptoRow : OpenClaim := { program := "ytcambonppglmfaa", sum := "8583be1c977d588dee2d61b2864b9c7c86217543c8a6637569191d7a138260d9", func := "loop.example/g01157/laws.FnExactCodesBy", spec := "fnExactCodesBy", inPlace := ["math.Float32bits", "math.archFloor", "math.Float64bits", "math.Float64frombits", "math.archTrunc"], unfollowed := true, recurses := true, apart := false, narrowed := true }
def FnExactCodesByUptoSaid : Prop := fnExactCodesByUptoRow.holds Try.pinned (OpenSpec.upto fnExactCodesBySpec)

/-- 'laws.FnExactLossEntropy', WHERE WHAT IT READS IS OF BULK AT MOST 1048576: true; the input reads as it did. -/
def fnExactLossEntropyUptoRow : OpenClaim := { program := "ytcambonppglmfaa", sum := "8583be1c977d588dee2d61b2864b9c7c86217543c8a6637569191d7a138260d9", func := "loop.example/g01157/laws.FnExactLossEntropy", spec := "fnExactLossEntropy", inPlace := ["math.Float64frombits", "math.Float64bits"], apart := false, narrowed := true }
def FnExactLossEntropyUptoSaid : Prop := fnExactLossEntropyUptoRow.holds Try.pinned (OpenSpec.upto fnExactLossEntropySpec)

/-- 'laws.FnExactStepParams', WHERE WHAT IT READS IS OF BULK AT MOST 1048576: true; the input reads as it did. -/
def fnExactStepParamsUptoRow : OpenClaim := { program := "ytcambonppglmfaa", sum := "8583be1c977d588dee2d61b2864b9c7c86217543c8a6637569191d7a138260d9", func := "loop.example/g01157/laws.FnExactStepParams", spec := "fnExactStepParams", inPlace := ["math.sqrt"], unfollowed := true, recurses := true, apart := false, narrowed := true }
def FnExactStepParamsUptoSaid : Prop := fnExactStepParamsUptoRow.holds Try.pinned (OpenSpec.upto fnExactStepParamsSpec)

end Rows
end Go.Proofs.Ytcambonppglmfaa
