/-
  No cell of these rows narrows 'for every input' (looked for: loops, veiled, ifaces, maps, wideKeys, modest, calm, conditions, laid).
  DERIVED. THE GIVEN ROWS OF THIS SEAT. 3 by the template 'for every input the law returns true; each argument reads behind the call as it read before'; 0 by the template 'total and deterministic' (their statements: YtpadlmidojpbeaaGreatTotals.lean).
  GIVEN WITH THE SEED: the statements are not yours to turn. If you find one false, say at which input.
  Laid BY PROGRAM, IN A SANDBOX (cutbox-rows.mjs): the forced cells as the released guide's own fill.sh prints them over the translation 2301e7f8d5bea2fb… (all of the seat's roots in one cut). By AI agents, Wed Nov 11 2026. No macro, syntax, notation, axiom, sorry.
-/
import Derived.Test.YtpadlmidojpbeaaGreatChecked
import GoSem.Claim
import GoSem.ClaimJoined
import GoSem.ClaimMapViews
import Derived.JoinedTies
import Derived.KernelRfl
namespace Go.Proofs.YtpadlmidojpbeaaGreat
/- THE CELL 'sum', in the pinned program and in every row, IS THE sha256 OF THE DUMP (.gsa) THAT YtpadlmidojpbeaaGreatProg.lean LOADS. Nothing in Lean hashes anything: it is a label: what it is worth is what the hold of that sum in a sandbox is worth. -/
noncomputable def Tryz.pinned : Pinned := { name := "ytpadlmidojpbeaagreat", sum := "2301e7f8d5bea2fba36925570b0978e2182e3132963aa756da32ba1aa57b70f1", checked := Tryz.checked }
namespace Rows
def none {H : Type} : Left H := { results := [], args := [] }

/-- 'laws.FnExactScaledGradients': WHATEVER THE INPUT: true; the input reads as it did. -/
def fnExactScaledGradientsSpec : ChangeSpec := { name := "fnExactScaledGradients", fn := fun _ => fun
  | [d1, d2, d3, d4] => { results := [.lit (.bool true)], args := [d1, d2, d3, d4] }
  | _ => none }
def fnExactScaledGradientsRow : OpenClaim := { program := "ytpadlmidojpbeaagreat", sum := "2301e7f8d5bea2fba36925570b0978e2182e3132963aa756da32ba1aa57b70f1", func := "loop.example/g01157/laws.FnExactScaledGradients", spec := "fnExactScaledGradients", inPlace := ["math.Float32bits", "math.Float32frombits", "math.Float64frombits"], unfollowed := true, recurses := true, apart := false }
def FnExactScaledGradientsSaid : Prop := fnExactScaledGradientsRow.holds Tryz.pinned (OpenSpec.ofChange fnExactScaledGradientsSpec)

/-- ITS FALSE NEIGHBOUR: 'it returns false'. Refute it at one input. -/
def fnExactScaledGradientsWrong : ChangeSpec := { name := "fnExactScaledGradients", fn := fun _ => fun
  | [d1, d2, d3, d4] => { results := [.lit (.bool false)], args := [d1, d2, d3, d4] }
  | _ => none }
def FnExactScaledGradientsWrongFalsely : Prop := fnExactScaledGradientsRow.holds Tryz.pinned (OpenSpec.ofChange fnExactScaledGradientsWrong)

/-- 'laws.FnExactMixedStep': WHATEVER THE INPUT: true; the input reads as it did. -/
def fnExactMixedStepSpec : ChangeSpec := { name := "fnExactMixedStep", fn := fun _ => fun
  | [d1, d2, d3, d4, d5] => { results := [.lit (.bool true)], args := [d1, d2, d3, d4, d5] }
  | _ => none }
def fnExactMixedStepRow : OpenClaim := { program := "ytpadlmidojpbeaagreat", sum := "2301e7f8d5bea2fba36925570b0978e2182e3132963aa756da32ba1aa57b70f1", func := "loop.example/g01157/laws.FnExactMixedStep", spec := "fnExactMixedStep", inPlace := ["math.Float32bits", "math.Float32frombits", "math.Float64frombits"], unfollowed := true, recurses := true, apart := false }
def FnExactMixedStepSaid : Prop := fnExactMixedStepRow.holds Tryz.pinned (OpenSpec.ofChange fnExactMixedStepSpec)

/-- ITS FALSE NEIGHBOUR: 'it returns false'. Refute it at one input. -/
def fnExactMixedStepWrong : ChangeSpec := { name := "fnExactMixedStep", fn := fun _ => fun
  | [d1, d2, d3, d4, d5] => { results := [.lit (.bool false)], args := [d1, d2, d3, d4, d5] }
  | _ => none }
def FnExactMixedStepWrongFalsely : Prop := fnExactMixedStepRow.holds Tryz.pinned (OpenSpec.ofChange fnExactMixedStepWrong)

/-- 'laws.FnExactMixedSteps': WHATEVER THE INPUT: true; the input reads as it did. -/
def fnExactMixedStepsSpec : ChangeSpec := { name := "fnExactMixedSteps", fn := fun _ => fun
  | [d1, d2, d3, d4, d5, d6] => { results := [.lit (.bool true)], args := [d1, d2, d3, d4, d5, d6] }
  | _ => none }
def fnExactMixedStepsRow : OpenClaim := { program := "ytpadlmidojpbeaagreat", sum := "2301e7f8d5bea2fba36925570b0978e2182e3132963aa756da32ba1aa57b70f1", func := "loop.example/g01157/laws.FnExactMixedSteps", spec := "fnExactMixedSteps", inPlace := ["math.Float32bits", "math.Float32frombits", "math.Float64frombits"], unfollowed := true, recurses := true, apart := false }
def FnExactMixedStepsSaid : Prop := fnExactMixedStepsRow.holds Tryz.pinned (OpenSpec.ofChange fnExactMixedStepsSpec)

/-- ITS FALSE NEIGHBOUR: 'it returns false'. Refute it at one input. -/
def fnExactMixedStepsWrong : ChangeSpec := { name := "fnExactMixedSteps", fn := fun _ => fun
  | [d1, d2, d3, d4, d5, d6] => { results := [.lit (.bool false)], args := [d1, d2, d3, d4, d5, d6] }
  | _ => none }
def FnExactMixedStepsWrongFalsely : Prop := fnExactMixedStepsRow.holds Tryz.pinned (OpenSpec.ofChange fnExactMixedStepsWrong)

/- THE SECOND FORM. 'bulk': how many values and letters a reading holds, each counted each time it is reached (what is shared counts as often as it is met; a slice's spare places count too). A statement '..UptoSaid' is the law's where the arguments, and the package variables that the reading takes, are together of bulk at most 1048576: NARROWER than '..Said'. Prove '..Said' where nothing that the law and all that it calls make is longer than what came in: it says more and counts as full. Else prove '..UptoSaid'. A law counts once. -/
mutual
def uptoBulk {H : Type} : DataW H → Nat
  | .lit (.string bytes) => bytes.length + 1
  | .lit _ => 1
  | .nil => 1
  | .ptr d => uptoBulk d + 1
  | .slice elems spare => uptoBulkAll elems + uptoBulkAll spare + 1
  | .agg parts => uptoBulkAll parts + 1
  | .iface _ d => uptoBulk d + 1
  | .map entries => uptoBulkEntries entries + 1
  | .held _ => 1
def uptoBulkAll {H : Type} : List (DataW H) → Nat
  | [] => 0
  | d :: r => uptoBulk d + uptoBulkAll r
def uptoBulkEntries {H : Type} : List (Lit × DataW H) → Nat
  | [] => 0
  | x :: r => uptoBulkEntry x + uptoBulkEntries r
def uptoBulkEntry {H : Type} : Lit × DataW H → Nat
  | (.string bytes, d) => bytes.length + uptoBulk d + 1
  | (_, d) => uptoBulk d + 1
 end
def uptoSmall : (H : Type) → List (DataW H) → Bool := fun _ ds => decide (uptoBulkAll ds ≤ 1048576)
def OpenSpec.upto (s : _root_.Go.ChangeSpec) : _root_.Go.OpenSpec := { _root_.Go.OpenSpec.ofChange s with cond := some uptoSmall }

/-- 'laws.FnExactScaledGradients', WHERE WHAT IT READS IS OF BULK AT MOST 1048576: true; the input reads as it did. -/
def fnExactScaledGradientsUptoRow : OpenClaim := { program := "ytpadlmidojpbeaagreat", sum := "2301e7f8d5bea2fba36925570b0978e2182e3132963aa756da32ba1aa57b70f1", func := "loop.example/g01157/laws.FnExactScaledGradients", spec := "fnExactScaledGradients", inPlace := ["math.Float32bits", "math.Float32frombits", "math.Float64frombits"], unfollowed := true, recurses := true, apart := false, narrowed := true }
def FnExactScaledGradientsUptoSaid : Prop := fnExactScaledGradientsUptoRow.holds Tryz.pinned (OpenSpec.upto fnExactScaledGradientsSpec)

/-- 'laws.FnExactMixedStep', WHERE WHAT IT READS IS OF BULK AT MOST 1048576: true; the input reads as it did. -/
def fnExactMixedStepUptoRow : OpenClaim := { program := "ytpadlmidojpbeaagreat", sum := "2301e7f8d5bea2fba36925570b0978e2182e3132963aa756da32ba1aa57b70f1", func := "loop.example/g01157/laws.FnExactMixedStep", spec := "fnExactMixedStep", inPlace := ["math.Float32bits", "math.Float32frombits", "math.Float64frombits"], unfollowed := true, recurses := true, apart := false, narrowed := true }
def FnExactMixedStepUptoSaid : Prop := fnExactMixedStepUptoRow.holds Tryz.pinned (OpenSpec.upto fnExactMixedStepSpec)

/-- 'laws.FnExactMixedSteps', WHERE WHAT IT READS IS OF BULK AT MOST 1048576: true; the input reads as it did. -/
def fnExactMixedStepsUptoRow : OpenClaim := { program := "ytpadlmidojpbeaagreat", sum := "2301e7f8d5bea2fba36925570b0978e2182e3132963aa756da32ba1aa57b70f1", func := "loop.example/g01157/laws.FnExactMixedSteps", spec := "fnExactMixedSteps", inPlace := ["math.Float32bits", "math.Float32frombits", "math.Float64frombits"], unfollowed := true, recurses := true, apart := false, narrowed := true }
def FnExactMixedStepsUptoSaid : Prop := fnExactMixedStepsUptoRow.holds Tryz.pinned (OpenSpec.upto fnExactMixedStepsSpec)

end Rows
end Go.Proofs.YtpadlmidojpbeaaGreat
