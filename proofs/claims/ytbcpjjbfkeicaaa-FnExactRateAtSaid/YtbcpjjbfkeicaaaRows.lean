/-
  No cell of these rows narrows 'for every input' (looked for: loops, veiled, ifaces, maps, wideKeys, modest, calm, conditions, laid).
  DERIVED. THE GIVEN ROWS OF THIS SEAT. 6 by the template 'for every input the law returns true; each argument reads behind the call as it read before'; 0 by the template 'total and deterministic' (their statements: YtbcpjjbfkeicaaaTotals.lean).
  GIVEN WITH THE SEED: the statements are not yours to turn. If you find one false, say at which input.
  Laid BY PROGRAM, IN A SANDBOX (cutbox-rows.mjs): the forced cells as the released guide's own fill.sh prints them over the translation d169b7ede70c8659… (all of the seat's roots in one cut). By AI agents, Wed Nov 11 2026. No macro, syntax, notation, axiom, sorry.
-/
import Derived.Test.YtbcpjjbfkeicaaaChecked
import GoSem.Claim
import GoSem.ClaimJoined
import GoSem.ClaimMapViews
import Derived.JoinedTies
import Derived.KernelRfl
namespace Go.Proofs.Ytbcpjjbfkeicaaa
/- THE CELL 'sum', in the pinned program and in every row, IS THE sha256 OF THE DUMP (.gsa) THAT YtbcpjjbfkeicaaaProg.lean LOADS. Nothing in Lean hashes anything: it is a label: what it is worth is what the hold of that sum in a sandbox is worth. -/
noncomputable def Try.pinned : Pinned := { name := "ytbcpjjbfkeicaaa", sum := "d169b7ede70c865953eb2c0331b5e742f26e93813b67228d5dfb310b29c80253", checked := Try.checked }
namespace Rows
def none {H : Type} : Left H := { results := [], args := [] }

/-- 'laws.FnExactValidOptimizer': WHATEVER THE INPUT: true; the input reads as it did. -/
def fnExactValidOptimizerSpec : ChangeSpec := { name := "fnExactValidOptimizer", fn := fun _ => fun
  | [d] => { results := [.lit (.bool true)], args := [d] }
  | _ => none }
def fnExactValidOptimizerRow : OpenClaim := { program := "ytbcpjjbfkeicaaa", sum := "d169b7ede70c865953eb2c0331b5e742f26e93813b67228d5dfb310b29c80253", func := "loop.example/g01157/laws.FnExactValidOptimizer", spec := "fnExactValidOptimizer", apart := false }
def FnExactValidOptimizerSaid : Prop := fnExactValidOptimizerRow.holds Try.pinned (OpenSpec.ofChange fnExactValidOptimizerSpec)

/-- ITS FALSE NEIGHBOUR: 'it returns false'. Refute it at one input. -/
def fnExactValidOptimizerWrong : ChangeSpec := { name := "fnExactValidOptimizer", fn := fun _ => fun
  | [d] => { results := [.lit (.bool false)], args := [d] }
  | _ => none }
def FnExactValidOptimizerWrongFalsely : Prop := fnExactValidOptimizerRow.holds Try.pinned (OpenSpec.ofChange fnExactValidOptimizerWrong)

/-- 'laws.FnExactNextSeed': WHATEVER THE INPUT: true; the input reads as it did. -/
def fnExactNextSeedSpec : ChangeSpec := { name := "fnExactNextSeed", fn := fun _ => fun
  | [d] => { results := [.lit (.bool true)], args := [d] }
  | _ => none }
def fnExactNextSeedRow : OpenClaim := { program := "ytbcpjjbfkeicaaa", sum := "d169b7ede70c865953eb2c0331b5e742f26e93813b67228d5dfb310b29c80253", func := "loop.example/g01157/laws.FnExactNextSeed", spec := "fnExactNextSeed", apart := false }
def FnExactNextSeedSaid : Prop := fnExactNextSeedRow.holds Try.pinned (OpenSpec.ofChange fnExactNextSeedSpec)

/-- ITS FALSE NEIGHBOUR: 'it returns false'. Refute it at one input. -/
def fnExactNextSeedWrong : ChangeSpec := { name := "fnExactNextSeed", fn := fun _ => fun
  | [d] => { results := [.lit (.bool false)], args := [d] }
  | _ => none }
def FnExactNextSeedWrongFalsely : Prop := fnExactNextSeedRow.holds Try.pinned (OpenSpec.ofChange fnExactNextSeedWrong)

/-- 'laws.FnExactValidScale': WHATEVER THE INPUT: true; the input reads as it did. -/
def fnExactValidScaleSpec : ChangeSpec := { name := "fnExactValidScale", fn := fun _ => fun
  | [d] => { results := [.lit (.bool true)], args := [d] }
  | _ => none }
def fnExactValidScaleRow : OpenClaim := { program := "ytbcpjjbfkeicaaa", sum := "d169b7ede70c865953eb2c0331b5e742f26e93813b67228d5dfb310b29c80253", func := "loop.example/g01157/laws.FnExactValidScale", spec := "fnExactValidScale", apart := false }
def FnExactValidScaleSaid : Prop := fnExactValidScaleRow.holds Try.pinned (OpenSpec.ofChange fnExactValidScaleSpec)

/-- ITS FALSE NEIGHBOUR: 'it returns false'. Refute it at one input. -/
def fnExactValidScaleWrong : ChangeSpec := { name := "fnExactValidScale", fn := fun _ => fun
  | [d] => { results := [.lit (.bool false)], args := [d] }
  | _ => none }
def FnExactValidScaleWrongFalsely : Prop := fnExactValidScaleRow.holds Try.pinned (OpenSpec.ofChange fnExactValidScaleWrong)

/-- 'laws.FnRates': WHATEVER THE INPUT: true; the input reads as it did. -/
def fnRatesSpec : ChangeSpec := { name := "fnRates", fn := fun _ => fun
  | [d1, d2] => { results := [.lit (.bool true)], args := [d1, d2] }
  | _ => none }
def fnRatesRow : OpenClaim := { program := "ytbcpjjbfkeicaaa", sum := "d169b7ede70c865953eb2c0331b5e742f26e93813b67228d5dfb310b29c80253", func := "loop.example/g01157/laws.FnRates", spec := "fnRates", apart := false }
def FnRatesSaid : Prop := fnRatesRow.holds Try.pinned (OpenSpec.ofChange fnRatesSpec)

/-- ITS FALSE NEIGHBOUR: 'it returns false'. Refute it at one input. -/
def fnRatesWrong : ChangeSpec := { name := "fnRates", fn := fun _ => fun
  | [d1, d2] => { results := [.lit (.bool false)], args := [d1, d2] }
  | _ => none }
def FnRatesWrongFalsely : Prop := fnRatesRow.holds Try.pinned (OpenSpec.ofChange fnRatesWrong)

/-- 'laws.FnScales': WHATEVER THE INPUT: true; the input reads as it did. -/
def fnScalesSpec : ChangeSpec := { name := "fnScales", fn := fun _ => fun
  | [d1, d2] => { results := [.lit (.bool true)], args := [d1, d2] }
  | _ => none }
def fnScalesRow : OpenClaim := { program := "ytbcpjjbfkeicaaa", sum := "d169b7ede70c865953eb2c0331b5e742f26e93813b67228d5dfb310b29c80253", func := "loop.example/g01157/laws.FnScales", spec := "fnScales", apart := false }
def FnScalesSaid : Prop := fnScalesRow.holds Try.pinned (OpenSpec.ofChange fnScalesSpec)

/-- ITS FALSE NEIGHBOUR: 'it returns false'. Refute it at one input. -/
def fnScalesWrong : ChangeSpec := { name := "fnScales", fn := fun _ => fun
  | [d1, d2] => { results := [.lit (.bool false)], args := [d1, d2] }
  | _ => none }
def FnScalesWrongFalsely : Prop := fnScalesRow.holds Try.pinned (OpenSpec.ofChange fnScalesWrong)

/-- 'laws.FnExactRateAt': WHATEVER THE INPUT: true; the input reads as it did. -/
def fnExactRateAtSpec : ChangeSpec := { name := "fnExactRateAt", fn := fun _ => fun
  | [d1, d2, d3, d4] => { results := [.lit (.bool true)], args := [d1, d2, d3, d4] }
  | _ => none }
def fnExactRateAtRow : OpenClaim := { program := "ytbcpjjbfkeicaaa", sum := "d169b7ede70c865953eb2c0331b5e742f26e93813b67228d5dfb310b29c80253", func := "loop.example/g01157/laws.FnExactRateAt", spec := "fnExactRateAt", apart := false }
def FnExactRateAtSaid : Prop := fnExactRateAtRow.holds Try.pinned (OpenSpec.ofChange fnExactRateAtSpec)

/-- ITS FALSE NEIGHBOUR: 'it returns false'. Refute it at one input. -/
def fnExactRateAtWrong : ChangeSpec := { name := "fnExactRateAt", fn := fun _ => fun
  | [d1, d2, d3, d4] => { results := [.lit (.bool false)], args := [d1, d2, d3, d4] }
  | _ => none }
def FnExactRateAtWrongFalsely : Prop := fnExactRateAtRow.holds Try.pinned (OpenSpec.ofChange fnExactRateAtWrong)

/- THE SECOND FORM. 'bulk': how many values and letters a reading holds, each counted each time it is reached (what is shared counts as often as it is met; a slice's spare places count too). A statement '..UptoSaid' is the law's where the arguments, and the package variables that the reading takes, are together of bulk at most 1048576: NARROWER than '..Said'. Prove '..Said' where nothing that the law and all that it calls make is longer than what came in: it says more and counts as full. Else prove '..UptoSaid'. A law counts once. -/
mutual
def uptoBulk {H : Type} : DataW H → Nat
  | .lit (.string bytes) => bytes.length + 1
  | .lit _ => 1
  | .nil => 1
  | .ptr d => uptoBulk d + 1
  | .slice elems spare => uptoBulkAll elems + uptoBulkAll spare + 1
  | .agg parts => uptoBulkAll parts + 1
  | .iface _ d => uptoBulk d + 1
  | .map entries => uptoBulkEntries entries + 1
  | .held _ => 1
def uptoBulkAll {H : Type} : List (DataW H) → Nat
  | [] => 0
  | d :: r => uptoBulk d + uptoBulkAll r
def uptoBulkEntries {H : Type} : List (Lit × DataW H) → Nat
  | [] => 0
  | x :: r => uptoBulkEntry x + uptoBulkEntries r
def uptoBulkEntry {H : Type} : Lit × DataW H → Nat
  | (.string bytes, d) => bytes.length + uptoBulk d + 1
  | (_, d) => uptoBulk d + 1
 end
def uptoSmall : (H : Type) → List (DataW H) → Bool := fun _ ds => decide (uptoBulkAll ds ≤ 1048576)
def OpenSpec.upto (s : _root_.Go.ChangeSpec) : _root_.Go.OpenSpec := { _root_.Go.OpenSpec.ofChange s with cond := some uptoSmall }

/-- 'laws.FnExactValidOptimizer', WHERE WHAT IT READS IS OF BULK AT MOST 1048576: true; the input reads as it did. -/
def fnExactValidOptimizerUptoRow : OpenClaim := { program := "ytbcpjjbfkeicaaa", sum := "d169b7ede70c865953eb2c0331b5e742f26e93813b67228d5dfb310b29c80253", func := "loop.example/g01157/laws.FnExactValidOptimizer", spec := "fnExactValidOptimizer", apart := false, narrowed := true }
def FnExactValidOptimizerUptoSaid : Prop := fnExactValidOptimizerUptoRow.holds Try.pinned (OpenSpec.upto fnExactValidOptimizerSpec)

/-- 'laws.FnExactNextSeed', WHERE WHAT IT READS IS OF BULK AT MOST 1048576: true; the input reads as it did. -/
def fnExactNextSeedUptoRow : OpenClaim := { program := "ytbcpjjbfkeicaaa", sum := "d169b7ede70c865953eb2c0331b5e742f26e93813b67228d5dfb310b29c80253", func := "loop.example/g01157/laws.FnExactNextSeed", spec := "fnExactNextSeed", apart := false, narrowed := true }
def FnExactNextSeedUptoSaid : Prop := fnExactNextSeedUptoRow.holds Try.pinned (OpenSpec.upto fnExactNextSeedSpec)

/-- 'laws.FnExactValidScale', WHERE WHAT IT READS IS OF BULK AT MOST 1048576: true; the input reads as it did. -/
def fnExactValidScaleUptoRow : OpenClaim := { program := "ytbcpjjbfkeicaaa", sum := "d169b7ede70c865953eb2c0331b5e742f26e93813b67228d5dfb310b29c80253", func := "loop.example/g01157/laws.FnExactValidScale", spec := "fnExactValidScale", apart := false, narrowed := true }
def FnExactValidScaleUptoSaid : Prop := fnExactValidScaleUptoRow.holds Try.pinned (OpenSpec.upto fnExactValidScaleSpec)

/-- 'laws.FnRates', WHERE WHAT IT READS IS OF BULK AT MOST 1048576: true; the input reads as it did. -/
def fnRatesUptoRow : OpenClaim := { program := "ytbcpjjbfkeicaaa", sum := "d169b7ede70c865953eb2c0331b5e742f26e93813b67228d5dfb310b29c80253", func := "loop.example/g01157/laws.FnRates", spec := "fnRates", apart := false, narrowed := true }
def FnRatesUptoSaid : Prop := fnRatesUptoRow.holds Try.pinned (OpenSpec.upto fnRatesSpec)

/-- 'laws.FnScales', WHERE WHAT IT READS IS OF BULK AT MOST 1048576: true; the input reads as it did. -/
def fnScalesUptoRow : OpenClaim := { program := "ytbcpjjbfkeicaaa", sum := "d169b7ede70c865953eb2c0331b5e742f26e93813b67228d5dfb310b29c80253", func := "loop.example/g01157/laws.FnScales", spec := "fnScales", apart := false, narrowed := true }
def FnScalesUptoSaid : Prop := fnScalesUptoRow.holds Try.pinned (OpenSpec.upto fnScalesSpec)

/-- 'laws.FnExactRateAt', WHERE WHAT IT READS IS OF BULK AT MOST 1048576: true; the input reads as it did. -/
def fnExactRateAtUptoRow : OpenClaim := { program := "ytbcpjjbfkeicaaa", sum := "d169b7ede70c865953eb2c0331b5e742f26e93813b67228d5dfb310b29c80253", func := "loop.example/g01157/laws.FnExactRateAt", spec := "fnExactRateAt", apart := false, narrowed := true }
def FnExactRateAtUptoSaid : Prop := fnExactRateAtUptoRow.holds Try.pinned (OpenSpec.upto fnExactRateAtSpec)

end Rows
end Go.Proofs.Ytbcpjjbfkeicaaa
