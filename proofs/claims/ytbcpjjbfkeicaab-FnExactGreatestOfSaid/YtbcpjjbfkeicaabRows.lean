/-
  No cell of these rows narrows 'for every input' (looked for: loops, veiled, ifaces, maps, wideKeys, modest, calm, conditions, laid).
  DERIVED. THE GIVEN ROWS OF THIS SEAT. 6 by the template 'for every input the law returns true; each argument reads behind the call as it read before'; 0 by the template 'total and deterministic' (their statements: YtbcpjjbfkeicaabTotals.lean).
  GIVEN WITH THE SEED: the statements are not yours to turn. If you find one false, say at which input.
  Laid BY PROGRAM, IN A SANDBOX (cutbox-rows.mjs): the forced cells as the released guide's own fill.sh prints them over the translation 983b6ff18dff62b7… (all of the seat's roots in one cut). By AI agents, Wed Nov 11 2026. No macro, syntax, notation, axiom, sorry.
-/
import Derived.Test.YtbcpjjbfkeicaabChecked
import GoSem.Claim
import GoSem.ClaimJoined
import GoSem.ClaimMapViews
import Derived.JoinedTies
import Derived.KernelRfl
namespace Go.Proofs.Ytbcpjjbfkeicaab
/- THE CELL 'sum', in the pinned program and in every row, IS THE sha256 OF THE DUMP (.gsa) THAT YtbcpjjbfkeicaabProg.lean LOADS. Nothing in Lean hashes anything: it is a label: what it is worth is what the hold of that sum in a sandbox is worth. -/
noncomputable def Try.pinned : Pinned := { name := "ytbcpjjbfkeicaab", sum := "983b6ff18dff62b7aff5e55e8dfe9ec6429bceab505135cd45b1ae29037c9704", checked := Try.checked }
namespace Rows
def none {H : Type} : Left H := { results := [], args := [] }

/-- 'laws.FnExactPowerOf': WHATEVER THE INPUT: true; the input reads as it did. -/
def fnExactPowerOfSpec : ChangeSpec := { name := "fnExactPowerOf", fn := fun _ => fun
  | [d1, d2] => { results := [.lit (.bool true)], args := [d1, d2] }
  | _ => none }
def fnExactPowerOfRow : OpenClaim := { program := "ytbcpjjbfkeicaab", sum := "983b6ff18dff62b7aff5e55e8dfe9ec6429bceab505135cd45b1ae29037c9704", func := "loop.example/g01157/laws.FnExactPowerOf", spec := "fnExactPowerOf", apart := false }
def FnExactPowerOfSaid : Prop := fnExactPowerOfRow.holds Try.pinned (OpenSpec.ofChange fnExactPowerOfSpec)

/-- ITS FALSE NEIGHBOUR: 'it returns false'. Refute it at one input. -/
def fnExactPowerOfWrong : ChangeSpec := { name := "fnExactPowerOf", fn := fun _ => fun
  | [d1, d2] => { results := [.lit (.bool false)], args := [d1, d2] }
  | _ => none }
def FnExactPowerOfWrongFalsely : Prop := fnExactPowerOfRow.holds Try.pinned (OpenSpec.ofChange fnExactPowerOfWrong)

/-- 'laws.FnEightBits': WHATEVER THE INPUT: true; the input reads as it did. -/
def fnEightBitsSpec : ChangeSpec := { name := "fnEightBits", fn := fun _ => fun
  | [d1, d2] => { results := [.lit (.bool true)], args := [d1, d2] }
  | _ => none }
def fnEightBitsRow : OpenClaim := { program := "ytbcpjjbfkeicaab", sum := "983b6ff18dff62b7aff5e55e8dfe9ec6429bceab505135cd45b1ae29037c9704", func := "loop.example/g01157/laws.FnEightBits", spec := "fnEightBits", inPlace := ["math.Float32frombits", "math.Float64bits", "math.Float64frombits", "math.RoundToEven", "math.archFloor", "math.archTrunc"], unfollowed := true, recurses := true, apart := false }
def FnEightBitsSaid : Prop := fnEightBitsRow.holds Try.pinned (OpenSpec.ofChange fnEightBitsSpec)

/-- ITS FALSE NEIGHBOUR: 'it returns false'. Refute it at one input. -/
def fnEightBitsWrong : ChangeSpec := { name := "fnEightBits", fn := fun _ => fun
  | [d1, d2] => { results := [.lit (.bool false)], args := [d1, d2] }
  | _ => none }
def FnEightBitsWrongFalsely : Prop := fnEightBitsRow.holds Try.pinned (OpenSpec.ofChange fnEightBitsWrong)

/-- 'laws.FnExactBestStep': WHATEVER THE INPUT: true; the input reads as it did. -/
def fnExactBestStepSpec : ChangeSpec := { name := "fnExactBestStep", fn := fun _ => fun
  | [d] => { results := [.lit (.bool true)], args := [d] }
  | _ => none }
def fnExactBestStepRow : OpenClaim := { program := "ytbcpjjbfkeicaab", sum := "983b6ff18dff62b7aff5e55e8dfe9ec6429bceab505135cd45b1ae29037c9704", func := "loop.example/g01157/laws.FnExactBestStep", spec := "fnExactBestStep", apart := false }
def FnExactBestStepSaid : Prop := fnExactBestStepRow.holds Try.pinned (OpenSpec.ofChange fnExactBestStepSpec)

/-- ITS FALSE NEIGHBOUR: 'it returns false'. Refute it at one input. -/
def fnExactBestStepWrong : ChangeSpec := { name := "fnExactBestStep", fn := fun _ => fun
  | [d] => { results := [.lit (.bool false)], args := [d] }
  | _ => none }
def FnExactBestStepWrongFalsely : Prop := fnExactBestStepRow.holds Try.pinned (OpenSpec.ofChange fnExactBestStepWrong)

/-- 'laws.FnBatches': WHATEVER THE INPUT: true; the input reads as it did. -/
def fnBatchesSpec : ChangeSpec := { name := "fnBatches", fn := fun _ => fun
  | [d1, d2] => { results := [.lit (.bool true)], args := [d1, d2] }
  | _ => none }
def fnBatchesRow : OpenClaim := { program := "ytbcpjjbfkeicaab", sum := "983b6ff18dff62b7aff5e55e8dfe9ec6429bceab505135cd45b1ae29037c9704", func := "loop.example/g01157/laws.FnBatches", spec := "fnBatches", apart := false }
def FnBatchesSaid : Prop := fnBatchesRow.holds Try.pinned (OpenSpec.ofChange fnBatchesSpec)

/-- ITS FALSE NEIGHBOUR: 'it returns false'. Refute it at one input. -/
def fnBatchesWrong : ChangeSpec := { name := "fnBatches", fn := fun _ => fun
  | [d1, d2] => { results := [.lit (.bool false)], args := [d1, d2] }
  | _ => none }
def FnBatchesWrongFalsely : Prop := fnBatchesRow.holds Try.pinned (OpenSpec.ofChange fnBatchesWrong)

/-- 'laws.FnExactGreatestOf': WHATEVER THE INPUT: true; the input reads as it did. -/
def fnExactGreatestOfSpec : ChangeSpec := { name := "fnExactGreatestOf", fn := fun _ => fun
  | [d] => { results := [.lit (.bool true)], args := [d] }
  | _ => none }
def fnExactGreatestOfRow : OpenClaim := { program := "ytbcpjjbfkeicaab", sum := "983b6ff18dff62b7aff5e55e8dfe9ec6429bceab505135cd45b1ae29037c9704", func := "loop.example/g01157/laws.FnExactGreatestOf", spec := "fnExactGreatestOf", apart := false }
def FnExactGreatestOfSaid : Prop := fnExactGreatestOfRow.holds Try.pinned (OpenSpec.ofChange fnExactGreatestOfSpec)

/-- ITS FALSE NEIGHBOUR: 'it returns false'. Refute it at one input. -/
def fnExactGreatestOfWrong : ChangeSpec := { name := "fnExactGreatestOf", fn := fun _ => fun
  | [d] => { results := [.lit (.bool false)], args := [d] }
  | _ => none }
def FnExactGreatestOfWrongFalsely : Prop := fnExactGreatestOfRow.holds Try.pinned (OpenSpec.ofChange fnExactGreatestOfWrong)

/-- 'laws.FnExactDecayParams': WHATEVER THE INPUT: true; the input reads as it did. -/
def fnExactDecayParamsSpec : ChangeSpec := { name := "fnExactDecayParams", fn := fun _ => fun
  | [d1, d2] => { results := [.lit (.bool true)], args := [d1, d2] }
  | _ => none }
def fnExactDecayParamsRow : OpenClaim := { program := "ytbcpjjbfkeicaab", sum := "983b6ff18dff62b7aff5e55e8dfe9ec6429bceab505135cd45b1ae29037c9704", func := "loop.example/g01157/laws.FnExactDecayParams", spec := "fnExactDecayParams", apart := false }
def FnExactDecayParamsSaid : Prop := fnExactDecayParamsRow.holds Try.pinned (OpenSpec.ofChange fnExactDecayParamsSpec)

/-- ITS FALSE NEIGHBOUR: 'it returns false'. Refute it at one input. -/
def fnExactDecayParamsWrong : ChangeSpec := { name := "fnExactDecayParams", fn := fun _ => fun
  | [d1, d2] => { results := [.lit (.bool false)], args := [d1, d2] }
  | _ => none }
def FnExactDecayParamsWrongFalsely : Prop := fnExactDecayParamsRow.holds Try.pinned (OpenSpec.ofChange fnExactDecayParamsWrong)

/- THE SECOND FORM. 'bulk': how many values and letters a reading holds, each counted each time it is reached (what is shared counts as often as it is met; a slice's spare places count too). A statement '..UptoSaid' is the law's where the arguments, and the package variables that the reading takes, are together of bulk at most 1048576: NARROWER than '..Said'. Prove '..Said' where nothing that the law and all that it calls make is longer than what came in: it says more and counts as full. Else prove '..UptoSaid'. A law counts once. -/
mutual
def uptoBulk {H : Type} : DataW H → Nat
  | .lit (.string bytes) => bytes.length + 1
  | .lit _ => 1
  | .nil => 1
  | .ptr d => uptoBulk d + 1
  | .slice elems spare => uptoBulkAll elems + uptoBulkAll spare + 1
  | .agg parts => uptoBulkAll parts + 1
  | .iface _ d => uptoBulk d + 1
  | .map entries => uptoBulkEntries entries + 1
  | .held _ => 1
def uptoBulkAll {H : Type} : List (DataW H) → Nat
  | [] => 0
  | d :: r => uptoBulk d + uptoBulkAll r
def uptoBulkEntries {H : Type} : List (Lit × DataW H) → Nat
  | [] => 0
  | x :: r => uptoBulkEntry x + uptoBulkEntries r
def uptoBulkEntry {H : Type} : Lit × DataW H → Nat
  | (.string bytes, d) => bytes.length + uptoBulk d + 1
  | (_, d) => uptoBulk d + 1
 end
def uptoSmall : (H : Type) → List (DataW H) → Bool := fun _ ds => decide (uptoBulkAll ds ≤ 1048576)
def OpenSpec.upto (s : _root_.Go.ChangeSpec) : _root_.Go.OpenSpec := { _root_.Go.OpenSpec.ofChange s with cond := some uptoSmall }

/-- 'laws.FnExactPowerOf', WHERE WHAT IT READS IS OF BULK AT MOST 1048576: true; the input reads as it did. -/
def fnExactPowerOfUptoRow : OpenClaim := { program := "ytbcpjjbfkeicaab", sum := "983b6ff18dff62b7aff5e55e8dfe9ec6429bceab505135cd45b1ae29037c9704", func := "loop.example/g01157/laws.FnExactPowerOf", spec := "fnExactPowerOf", apart := false, narrowed := true }
def FnExactPowerOfUptoSaid : Prop := fnExactPowerOfUptoRow.holds Try.pinned (OpenSpec.upto fnExactPowerOfSpec)

/-- 'laws.FnEightBits', WHERE WHAT IT READS IS OF BULK AT MOST 1048576: true; the input reads as it did. -/
def fnEightBitsUptoRow : OpenClaim := { program := "ytbcpjjbfkeicaab", sum := "983b6ff18dff62b7aff5e55e8dfe9ec6429bceab505135cd45b1ae29037c9704", func := "loop.example/g01157/laws.FnEightBits", spec := "fnEightBits", inPlace := ["math.Float32frombits", "math.Float64bits", "math.Float64frombits", "math.RoundToEven", "math.archFloor", "math.archTrunc"], unfollowed := true, recurses := true, apart := false, narrowed := true }
def FnEightBitsUptoSaid : Prop := fnEightBitsUptoRow.holds Try.pinned (OpenSpec.upto fnEightBitsSpec)

/-- 'laws.FnExactBestStep', WHERE WHAT IT READS IS OF BULK AT MOST 1048576: true; the input reads as it did. -/
def fnExactBestStepUptoRow : OpenClaim := { program := "ytbcpjjbfkeicaab", sum := "983b6ff18dff62b7aff5e55e8dfe9ec6429bceab505135cd45b1ae29037c9704", func := "loop.example/g01157/laws.FnExactBestStep", spec := "fnExactBestStep", apart := false, narrowed := true }
def FnExactBestStepUptoSaid : Prop := fnExactBestStepUptoRow.holds Try.pinned (OpenSpec.upto fnExactBestStepSpec)

/-- 'laws.FnBatches', WHERE WHAT IT READS IS OF BULK AT MOST 1048576: true; the input reads as it did. -/
def fnBatchesUptoRow : OpenClaim := { program := "ytbcpjjbfkeicaab", sum := "983b6ff18dff62b7aff5e55e8dfe9ec6429bceab505135cd45b1ae29037c9704", func := "loop.example/g01157/laws.FnBatches", spec := "fnBatches", apart := false, narrowed := true }
def FnBatchesUptoSaid : Prop := fnBatchesUptoRow.holds Try.pinned (OpenSpec.upto fnBatchesSpec)

/-- 'laws.FnExactGreatestOf', WHERE WHAT IT READS IS OF BULK AT MOST 1048576: true; the input reads as it did. -/
def fnExactGreatestOfUptoRow : OpenClaim := { program := "ytbcpjjbfkeicaab", sum := "983b6ff18dff62b7aff5e55e8dfe9ec6429bceab505135cd45b1ae29037c9704", func := "loop.example/g01157/laws.FnExactGreatestOf", spec := "fnExactGreatestOf", apart := false, narrowed := true }
def FnExactGreatestOfUptoSaid : Prop := fnExactGreatestOfUptoRow.holds Try.pinned (OpenSpec.upto fnExactGreatestOfSpec)

/-- 'laws.FnExactDecayParams', WHERE WHAT IT READS IS OF BULK AT MOST 1048576: true; the input reads as it did. -/
def fnExactDecayParamsUptoRow : OpenClaim := { program := "ytbcpjjbfkeicaab", sum := "983b6ff18dff62b7aff5e55e8dfe9ec6429bceab505135cd45b1ae29037c9704", func := "loop.example/g01157/laws.FnExactDecayParams", spec := "fnExactDecayParams", apart := false, narrowed := true }
def FnExactDecayParamsUptoSaid : Prop := fnExactDecayParamsUptoRow.holds Try.pinned (OpenSpec.upto fnExactDecayParamsSpec)

end Rows
end Go.Proofs.Ytbcpjjbfkeicaab
