/-
  No cell of these rows narrows 'for every input' (looked for: loops, veiled, ifaces, maps, wideKeys, modest, calm, conditions, laid).
  DERIVED. THE GIVEN ROWS OF THIS SEAT. 3 by the template 'for every input the law returns true; each argument reads behind the call as it read before'; 0 by the template 'total and deterministic' (their statements: YtfdgngnnncmfiaaTotals.lean).
  GIVEN WITH THE SEED: the statements are not yours to turn. If you find one false, say at which input.
  Laid BY PROGRAM, IN A SANDBOX (cutbox-rows.mjs): the forced cells as the released guide's own fill.sh prints them over the translation 5fca49ef39b2b678… (all of the seat's roots in one cut). By AI agents, Wed Nov 11 2026. No macro, syntax, notation, axiom, sorry.
-/
import Derived.Test.YtfdgngnnncmfiaaChecked
import GoSem.Claim
import GoSem.ClaimJoined
import GoSem.ClaimMapViews
import Derived.JoinedTies
import Derived.KernelRfl
namespace Go.Proofs.Ytfdgngnnncmfiaa
/- THE CELL 'sum', in the pinned program and in every row, IS THE sha256 OF THE DUMP (.gsa) THAT YtfdgngnnncmfiaaProg.lean LOADS. Nothing in Lean hashes anything: it is a label: what it is worth is what the hold of that sum in a sandbox is worth. -/
noncomputable def Try.pinned : Pinned := { name := "ytfdgngnnncmfiaa", sum := "5fca49ef39b2b67837b8109c9993ba4bd0bc4b78b2a6c5608975e0a395bd43c9", checked := Try.checked }
namespace Rows
def none {H : Type} : Left H := { results := [], args := [] }

/-- 'laws.FnExactModelTape': WHATEVER THE INPUT: true; the input reads as it did. -/
def fnExactModelTapeSpec : ChangeSpec := { name := "fnExactModelTape", fn := fun _ => fun
  | [d1, d2, d3] => { results := [.lit (.bool true)], args := [d1, d2, d3] }
  | _ => none }
def fnExactModelTapeRow : OpenClaim := { program := "ytfdgngnnncmfiaa", sum := "5fca49ef39b2b67837b8109c9993ba4bd0bc4b78b2a6c5608975e0a395bd43c9", func := "loop.example/g01157/laws.FnExactModelTape", spec := "fnExactModelTape", unfollowed := true, recurses := true, apart := false }
def FnExactModelTapeSaid : Prop := fnExactModelTapeRow.holds Try.pinned (OpenSpec.ofChange fnExactModelTapeSpec)

/-- ITS FALSE NEIGHBOUR: 'it returns false'. Refute it at one input. -/
def fnExactModelTapeWrong : ChangeSpec := { name := "fnExactModelTape", fn := fun _ => fun
  | [d1, d2, d3] => { results := [.lit (.bool false)], args := [d1, d2, d3] }
  | _ => none }
def FnExactModelTapeWrongFalsely : Prop := fnExactModelTapeRow.holds Try.pinned (OpenSpec.ofChange fnExactModelTapeWrong)

/-- 'laws.FnExactModelLoss': WHATEVER THE INPUT: true; the input reads as it did. -/
def fnExactModelLossSpec : ChangeSpec := { name := "fnExactModelLoss", fn := fun _ => fun
  | [d1, d2, d3] => { results := [.lit (.bool true)], args := [d1, d2, d3] }
  | _ => none }
def fnExactModelLossRow : OpenClaim := { program := "ytfdgngnnncmfiaa", sum := "5fca49ef39b2b67837b8109c9993ba4bd0bc4b78b2a6c5608975e0a395bd43c9", func := "loop.example/g01157/laws.FnExactModelLoss", spec := "fnExactModelLoss", unfollowed := true, recurses := true, apart := false }
def FnExactModelLossSaid : Prop := fnExactModelLossRow.holds Try.pinned (OpenSpec.ofChange fnExactModelLossSpec)

/-- ITS FALSE NEIGHBOUR: 'it returns false'. Refute it at one input. -/
def fnExactModelLossWrong : ChangeSpec := { name := "fnExactModelLoss", fn := fun _ => fun
  | [d1, d2, d3] => { results := [.lit (.bool false)], args := [d1, d2, d3] }
  | _ => none }
def FnExactModelLossWrongFalsely : Prop := fnExactModelLossRow.holds Try.pinned (OpenSpec.ofChange fnExactModelLossWrong)

/-- 'laws.FnExactModelGradients': WHATEVER THE INPUT: true; the input reads as it did. -/
def fnExactModelGradientsSpec : ChangeSpec := { name := "fnExactModelGradients", fn := fun _ => fun
  | [d1, d2, d3] => { results := [.lit (.bool true)], args := [d1, d2, d3] }
  | _ => none }
def fnExactModelGradientsRow : OpenClaim := { program := "ytfdgngnnncmfiaa", sum := "5fca49ef39b2b67837b8109c9993ba4bd0bc4b78b2a6c5608975e0a395bd43c9", func := "loop.example/g01157/laws.FnExactModelGradients", spec := "fnExactModelGradients", unfollowed := true, recurses := true, apart := false }
def FnExactModelGradientsSaid : Prop := fnExactModelGradientsRow.holds Try.pinned (OpenSpec.ofChange fnExactModelGradientsSpec)

/-- ITS FALSE NEIGHBOUR: 'it returns false'. Refute it at one input. -/
def fnExactModelGradientsWrong : ChangeSpec := { name := "fnExactModelGradients", fn := fun _ => fun
  | [d1, d2, d3] => { results := [.lit (.bool false)], args := [d1, d2, d3] }
  | _ => none }
def FnExactModelGradientsWrongFalsely : Prop := fnExactModelGradientsRow.holds Try.pinned (OpenSpec.ofChange fnExactModelGradientsWrong)

/- THE SECOND FORM. 'bulk': how many values and letters a reading holds, each counted each time it is reached (what is shared counts as often as it is met; a slice's spare places count too). A statement '..UptoSaid' is the law's where the arguments, and the package variables that the reading takes, are together of bulk at most 1048576: NARROWER than '..Said'. Prove '..Said' where nothing that the law and all that it calls make is longer than what came in: it says more and counts as full. Else prove '..UptoSaid'. A law counts once. -/
mutual
def uptoBulk {H : Type} : DataW H → Nat
  | .lit (.string bytes) => bytes.length + 1
  | .lit _ => 1
  | .nil => 1
  | .ptr d => uptoBulk d + 1
  | .slice elems spare => uptoBulkAll elems + uptoBulkAll spare + 1
  | .agg parts => uptoBulkAll parts + 1
  | .iface _ d => uptoBulk d + 1
  | .map entries => uptoBulkEntries entries + 1
  | .held _ => 1
def uptoBulkAll {H : Type} : List (DataW H) → Nat
  | [] => 0
  | d :: r => uptoBulk d + uptoBulkAll r
def uptoBulkEntries {H : Type} : List (Lit × DataW H) → Nat
  | [] => 0
  | x :: r => uptoBulkEntry x + uptoBulkEntries r
def uptoBulkEntry {H : Type} : Lit × DataW H → Nat
  | (.string bytes, d) => bytes.length + uptoBulk d + 1
  | (_, d) => uptoBulk d + 1
 end
def uptoSmall : (H : Type) → List (DataW H) → Bool := fun _ ds => decide (uptoBulkAll ds ≤ 1048576)
def OpenSpec.upto (s : _root_.Go.ChangeSpec) : _root_.Go.OpenSpec := { _root_.Go.OpenSpec.ofChange s with cond := some uptoSmall }

/-- 'laws.FnExactModelTape', WHERE WHAT IT READS IS OF BULK AT MOST 1048576: true; the input reads as it did. -/
def fnExactModelTapeUptoRow : OpenClaim := { program := "ytfdgngnnncmfiaa", sum := "5fca49ef39b2b67837b8109c9993ba4bd0bc4b78b2a6c5608975e0a395bd43c9", func := "loop.example/g01157/laws.FnExactModelTape", spec := "fnExactModelTape", unfollowed := true, recurses := true, apart := false, narrowed := true }
def FnExactModelTapeUptoSaid : Prop := fnExactModelTapeUptoRow.holds Try.pinned (OpenSpec.upto fnExactModelTapeSpec)

/-- 'laws.FnExactModelLoss', WHERE WHAT IT READS IS OF BULK AT MOST 1048576: true; the input reads as it did. -/
def fnExactModelLossUptoRow : OpenClaim := { program := "ytfdgngnnncmfiaa", sum := "5fca49ef39b2b67837b8109c9993ba4bd0bc4b78b2a6c5608975e0a395bd43c9", func := "loop.example/g01157/laws.FnExactModelLoss", spec := "fnExactModelLoss", unfollowed := true, recurses := true, apart := false, narrowed := true }
def FnExactModelLossUptoSaid : Prop := fnExactModelLossUptoRow.holds Try.pinned (OpenSpec.upto fnExactModelLossSpec)

/-- 'laws.FnExactModelGradients', WHERE WHAT IT READS IS OF BULK AT MOST 1048576: true; the input reads as it did. -/
def fnExactModelGradientsUptoRow : OpenClaim := { program := "ytfdgngnnncmfiaa", sum := "5fca49ef39b2b67837b8109c9993ba4bd0bc4b78b2a6c5608975e0a395bd43c9", func := "loop.example/g01157/laws.FnExactModelGradients", spec := "fnExactModelGradients", unfollowed := true, recurses := true, apart := false, narrowed := true }
def FnExactModelGradientsUptoSaid : Prop := fnExactModelGradientsUptoRow.holds Try.pinned (OpenSpec.upto fnExactModelGradientsSpec)

end Rows
end Go.Proofs.Ytfdgngnnncmfiaa
