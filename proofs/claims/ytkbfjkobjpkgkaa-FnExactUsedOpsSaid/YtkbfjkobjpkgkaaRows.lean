/-
  No cell of these rows narrows 'for every input' (looked for: loops, veiled, ifaces, maps, wideKeys, modest, calm, conditions, laid).
  DERIVED. THE GIVEN ROWS OF THIS SEAT. 12 by the template 'for every input the law returns true; each argument reads behind the call as it read before'; 0 by the template 'total and deterministic' (their statements: YtkbfjkobjpkgkaaTotals.lean).
  GIVEN WITH THE SEED: the statements are not yours to turn. If you find one false, say at which input.
  Laid BY PROGRAM, IN A SANDBOX (cutbox-rows.mjs): the forced cells as the released guide's own fill.sh prints them over the translation 71548d6f68ac9f24… (all of the seat's roots in one cut). By AI agents, Wed Nov 11 2026. No macro, syntax, notation, axiom, sorry.
-/
import Derived.Test.YtkbfjkobjpkgkaaChecked
import GoSem.Claim
import GoSem.ClaimJoined
import GoSem.ClaimMapViews
import Derived.JoinedTies
import Derived.KernelRfl
namespace Go.Proofs.Ytkbfjkobjpkgkaa
/- THE CELL 'sum', in the pinned program and in every row, IS THE sha256 OF THE DUMP (.gsa) THAT YtkbfjkobjpkgkaaProg.lean LOADS. Nothing in Lean hashes anything: it is a label: what it is worth is what the hold of that sum in a sandbox is worth. -/
noncomputable def Try.pinned : Pinned := { name := "ytkbfjkobjpkgkaa", sum := "71548d6f68ac9f247bb620b7d48d3815886e71c3d756316fbfa26f149a41f13f", checked := Try.checked }
namespace Rows
def none {H : Type} : Left H := { results := [], args := [] }

/-- 'laws.FnScaledBack': WHATEVER THE INPUT: true; the input reads as it did. -/
def fnScaledBackSpec : ChangeSpec := { name := "fnScaledBack", fn := fun _ => fun
  | [d1, d2] => { results := [.lit (.bool true)], args := [d1, d2] }
  | _ => none }
def fnScaledBackRow : OpenClaim := { program := "ytkbfjkobjpkgkaa", sum := "71548d6f68ac9f247bb620b7d48d3815886e71c3d756316fbfa26f149a41f13f", func := "loop.example/g01157/laws.FnScaledBack", spec := "fnScaledBack", inPlace := ["math.Float64frombits", "math.Float32bits", "math.Float32frombits", "math.Float64bits"], unfollowed := true, recurses := true, apart := false }
def FnScaledBackSaid : Prop := fnScaledBackRow.holds Try.pinned (OpenSpec.ofChange fnScaledBackSpec)

/-- ITS FALSE NEIGHBOUR: 'it returns false'. Refute it at one input. -/
def fnScaledBackWrong : ChangeSpec := { name := "fnScaledBack", fn := fun _ => fun
  | [d1, d2] => { results := [.lit (.bool false)], args := [d1, d2] }
  | _ => none }
def FnScaledBackWrongFalsely : Prop := fnScaledBackRow.holds Try.pinned (OpenSpec.ofChange fnScaledBackWrong)

/-- 'laws.FnSlopes': WHATEVER THE INPUT: true; the input reads as it did. -/
def fnSlopesSpec : ChangeSpec := { name := "fnSlopes", fn := fun _ => fun
  | [d1, d2] => { results := [.lit (.bool true)], args := [d1, d2] }
  | _ => none }
def fnSlopesRow : OpenClaim := { program := "ytkbfjkobjpkgkaa", sum := "71548d6f68ac9f247bb620b7d48d3815886e71c3d756316fbfa26f149a41f13f", func := "loop.example/g01157/laws.FnSlopes", spec := "fnSlopes", inPlace := ["math.Float64bits"], unfollowed := true, recurses := true, apart := false }
def FnSlopesSaid : Prop := fnSlopesRow.holds Try.pinned (OpenSpec.ofChange fnSlopesSpec)

/-- ITS FALSE NEIGHBOUR: 'it returns false'. Refute it at one input. -/
def fnSlopesWrong : ChangeSpec := { name := "fnSlopes", fn := fun _ => fun
  | [d1, d2] => { results := [.lit (.bool false)], args := [d1, d2] }
  | _ => none }
def FnSlopesWrongFalsely : Prop := fnSlopesRow.holds Try.pinned (OpenSpec.ofChange fnSlopesWrong)

/-- 'laws.FnExactProducts': WHATEVER THE INPUT: true; the input reads as it did. -/
def fnExactProductsSpec : ChangeSpec := { name := "fnExactProducts", fn := fun _ => fun
  | [d1, d2] => { results := [.lit (.bool true)], args := [d1, d2] }
  | _ => none }
def fnExactProductsRow : OpenClaim := { program := "ytkbfjkobjpkgkaa", sum := "71548d6f68ac9f247bb620b7d48d3815886e71c3d756316fbfa26f149a41f13f", func := "loop.example/g01157/laws.FnExactProducts", spec := "fnExactProducts", inPlace := ["math.Float64bits", "math.Float64frombits"], unfollowed := true, recurses := true, apart := false }
def FnExactProductsSaid : Prop := fnExactProductsRow.holds Try.pinned (OpenSpec.ofChange fnExactProductsSpec)

/-- ITS FALSE NEIGHBOUR: 'it returns false'. Refute it at one input. -/
def fnExactProductsWrong : ChangeSpec := { name := "fnExactProducts", fn := fun _ => fun
  | [d1, d2] => { results := [.lit (.bool false)], args := [d1, d2] }
  | _ => none }
def FnExactProductsWrongFalsely : Prop := fnExactProductsRow.holds Try.pinned (OpenSpec.ofChange fnExactProductsWrong)

/-- 'laws.FnParts': WHATEVER THE INPUT: true; the input reads as it did. -/
def fnPartsSpec : ChangeSpec := { name := "fnParts", fn := fun _ => fun
  | [d1, d2] => { results := [.lit (.bool true)], args := [d1, d2] }
  | _ => none }
def fnPartsRow : OpenClaim := { program := "ytkbfjkobjpkgkaa", sum := "71548d6f68ac9f247bb620b7d48d3815886e71c3d756316fbfa26f149a41f13f", func := "loop.example/g01157/laws.FnParts", spec := "fnParts", inPlace := ["math.Float32frombits", "math.Float64bits"], unfollowed := true, recurses := true, apart := false }
def FnPartsSaid : Prop := fnPartsRow.holds Try.pinned (OpenSpec.ofChange fnPartsSpec)

/-- ITS FALSE NEIGHBOUR: 'it returns false'. Refute it at one input. -/
def fnPartsWrong : ChangeSpec := { name := "fnParts", fn := fun _ => fun
  | [d1, d2] => { results := [.lit (.bool false)], args := [d1, d2] }
  | _ => none }
def FnPartsWrongFalsely : Prop := fnPartsRow.holds Try.pinned (OpenSpec.ofChange fnPartsWrong)

/-- 'laws.FnTensorSums': WHATEVER THE INPUT: true; the input reads as it did. -/
def fnTensorSumsSpec : ChangeSpec := { name := "fnTensorSums", fn := fun _ => fun
  | [d1, d2] => { results := [.lit (.bool true)], args := [d1, d2] }
  | _ => none }
def fnTensorSumsRow : OpenClaim := { program := "ytkbfjkobjpkgkaa", sum := "71548d6f68ac9f247bb620b7d48d3815886e71c3d756316fbfa26f149a41f13f", func := "loop.example/g01157/laws.FnTensorSums", spec := "fnTensorSums", inPlace := ["math.Float32frombits", "math.Float64bits"], unfollowed := true, recurses := true, apart := false }
def FnTensorSumsSaid : Prop := fnTensorSumsRow.holds Try.pinned (OpenSpec.ofChange fnTensorSumsSpec)

/-- ITS FALSE NEIGHBOUR: 'it returns false'. Refute it at one input. -/
def fnTensorSumsWrong : ChangeSpec := { name := "fnTensorSums", fn := fun _ => fun
  | [d1, d2] => { results := [.lit (.bool false)], args := [d1, d2] }
  | _ => none }
def FnTensorSumsWrongFalsely : Prop := fnTensorSumsRow.holds Try.pinned (OpenSpec.ofChange fnTensorSumsWrong)

/-- 'laws.FnRounded': WHATEVER THE INPUT: true; the input reads as it did. -/
def fnRoundedSpec : ChangeSpec := { name := "fnRounded", fn := fun _ => fun
  | [d1, d2] => { results := [.lit (.bool true)], args := [d1, d2] }
  | _ => none }
def fnRoundedRow : OpenClaim := { program := "ytkbfjkobjpkgkaa", sum := "71548d6f68ac9f247bb620b7d48d3815886e71c3d756316fbfa26f149a41f13f", func := "loop.example/g01157/laws.FnRounded", spec := "fnRounded", inPlace := ["math.Float32frombits", "math.Float64frombits", "math.Float32bits"], unfollowed := true, recurses := true, apart := false }
def FnRoundedSaid : Prop := fnRoundedRow.holds Try.pinned (OpenSpec.ofChange fnRoundedSpec)

/-- ITS FALSE NEIGHBOUR: 'it returns false'. Refute it at one input. -/
def fnRoundedWrong : ChangeSpec := { name := "fnRounded", fn := fun _ => fun
  | [d1, d2] => { results := [.lit (.bool false)], args := [d1, d2] }
  | _ => none }
def FnRoundedWrongFalsely : Prop := fnRoundedRow.holds Try.pinned (OpenSpec.ofChange fnRoundedWrong)

/-- 'laws.FnForms': WHATEVER THE INPUT: true; the input reads as it did. -/
def fnFormsSpec : ChangeSpec := { name := "fnForms", fn := fun _ => fun
  | [d1, d2] => { results := [.lit (.bool true)], args := [d1, d2] }
  | _ => none }
def fnFormsRow : OpenClaim := { program := "ytkbfjkobjpkgkaa", sum := "71548d6f68ac9f247bb620b7d48d3815886e71c3d756316fbfa26f149a41f13f", func := "loop.example/g01157/laws.FnForms", spec := "fnForms", inPlace := ["math.Float32frombits", "math.Float32bits", "math.sqrt", "math.Float64frombits"], unfollowed := true, recurses := true, apart := false }
def FnFormsSaid : Prop := fnFormsRow.holds Try.pinned (OpenSpec.ofChange fnFormsSpec)

/-- ITS FALSE NEIGHBOUR: 'it returns false'. Refute it at one input. -/
def fnFormsWrong : ChangeSpec := { name := "fnForms", fn := fun _ => fun
  | [d1, d2] => { results := [.lit (.bool false)], args := [d1, d2] }
  | _ => none }
def FnFormsWrongFalsely : Prop := fnFormsRow.holds Try.pinned (OpenSpec.ofChange fnFormsWrong)

/-- 'laws.FnExactShapesOf': WHATEVER THE INPUT: true; the input reads as it did. -/
def fnExactShapesOfSpec : ChangeSpec := { name := "fnExactShapesOf", fn := fun _ => fun
  | [d] => { results := [.lit (.bool true)], args := [d] }
  | _ => none }
def fnExactShapesOfRow : OpenClaim := { program := "ytkbfjkobjpkgkaa", sum := "71548d6f68ac9f247bb620b7d48d3815886e71c3d756316fbfa26f149a41f13f", func := "loop.example/g01157/laws.FnExactShapesOf", spec := "fnExactShapesOf", inPlace := ["math.Float32bits", "math.Float64bits"], apart := false }
def FnExactShapesOfSaid : Prop := fnExactShapesOfRow.holds Try.pinned (OpenSpec.ofChange fnExactShapesOfSpec)

/-- ITS FALSE NEIGHBOUR: 'it returns false'. Refute it at one input. -/
def fnExactShapesOfWrong : ChangeSpec := { name := "fnExactShapesOf", fn := fun _ => fun
  | [d] => { results := [.lit (.bool false)], args := [d] }
  | _ => none }
def FnExactShapesOfWrongFalsely : Prop := fnExactShapesOfRow.holds Try.pinned (OpenSpec.ofChange fnExactShapesOfWrong)

/-- 'laws.FnExactUsedOps': WHATEVER THE INPUT: true; the input reads as it did. -/
def fnExactUsedOpsSpec : ChangeSpec := { name := "fnExactUsedOps", fn := fun _ => fun
  | [d] => { results := [.lit (.bool true)], args := [d] }
  | _ => none }
def fnExactUsedOpsRow : OpenClaim := { program := "ytkbfjkobjpkgkaa", sum := "71548d6f68ac9f247bb620b7d48d3815886e71c3d756316fbfa26f149a41f13f", func := "loop.example/g01157/laws.FnExactUsedOps", spec := "fnExactUsedOps", inPlace := ["math.Float32bits", "math.Float64bits"], apart := false }
def FnExactUsedOpsSaid : Prop := fnExactUsedOpsRow.holds Try.pinned (OpenSpec.ofChange fnExactUsedOpsSpec)

/-- ITS FALSE NEIGHBOUR: 'it returns false'. Refute it at one input. -/
def fnExactUsedOpsWrong : ChangeSpec := { name := "fnExactUsedOps", fn := fun _ => fun
  | [d] => { results := [.lit (.bool false)], args := [d] }
  | _ => none }
def FnExactUsedOpsWrongFalsely : Prop := fnExactUsedOpsRow.holds Try.pinned (OpenSpec.ofChange fnExactUsedOpsWrong)

/-- 'laws.FnExactReplaceInput': WHATEVER THE INPUT: true; the input reads as it did. -/
def fnExactReplaceInputSpec : ChangeSpec := { name := "fnExactReplaceInput", fn := fun _ => fun
  | [d1, d2, d3] => { results := [.lit (.bool true)], args := [d1, d2, d3] }
  | _ => none }
def fnExactReplaceInputRow : OpenClaim := { program := "ytkbfjkobjpkgkaa", sum := "71548d6f68ac9f247bb620b7d48d3815886e71c3d756316fbfa26f149a41f13f", func := "loop.example/g01157/laws.FnExactReplaceInput", spec := "fnExactReplaceInput", inPlace := ["math.Float32bits", "math.Float64bits"], apart := false }
def FnExactReplaceInputSaid : Prop := fnExactReplaceInputRow.holds Try.pinned (OpenSpec.ofChange fnExactReplaceInputSpec)

/-- ITS FALSE NEIGHBOUR: 'it returns false'. Refute it at one input. -/
def fnExactReplaceInputWrong : ChangeSpec := { name := "fnExactReplaceInput", fn := fun _ => fun
  | [d1, d2, d3] => { results := [.lit (.bool false)], args := [d1, d2, d3] }
  | _ => none }
def FnExactReplaceInputWrongFalsely : Prop := fnExactReplaceInputRow.holds Try.pinned (OpenSpec.ofChange fnExactReplaceInputWrong)

/-- 'laws.FnTapes': WHATEVER THE INPUT: true; the input reads as it did. -/
def fnTapesSpec : ChangeSpec := { name := "fnTapes", fn := fun _ => fun
  | [d1, d2] => { results := [.lit (.bool true)], args := [d1, d2] }
  | _ => none }
def fnTapesRow : OpenClaim := { program := "ytkbfjkobjpkgkaa", sum := "71548d6f68ac9f247bb620b7d48d3815886e71c3d756316fbfa26f149a41f13f", func := "loop.example/g01157/laws.FnTapes", spec := "fnTapes", inPlace := ["math.Float32frombits", "math.Float32bits", "math.Float64bits"], unfollowed := true, recurses := true, apart := false }
def FnTapesSaid : Prop := fnTapesRow.holds Try.pinned (OpenSpec.ofChange fnTapesSpec)

/-- ITS FALSE NEIGHBOUR: 'it returns false'. Refute it at one input. -/
def fnTapesWrong : ChangeSpec := { name := "fnTapes", fn := fun _ => fun
  | [d1, d2] => { results := [.lit (.bool false)], args := [d1, d2] }
  | _ => none }
def FnTapesWrongFalsely : Prop := fnTapesRow.holds Try.pinned (OpenSpec.ofChange fnTapesWrong)

/-- 'laws.FnUsed': WHATEVER THE INPUT: true; the input reads as it did. -/
def fnUsedSpec : ChangeSpec := { name := "fnUsed", fn := fun _ => fun
  | [d1, d2] => { results := [.lit (.bool true)], args := [d1, d2] }
  | _ => none }
def fnUsedRow : OpenClaim := { program := "ytkbfjkobjpkgkaa", sum := "71548d6f68ac9f247bb620b7d48d3815886e71c3d756316fbfa26f149a41f13f", func := "loop.example/g01157/laws.FnUsed", spec := "fnUsed", inPlace := ["math.Float32frombits", "math.Float32bits", "math.Float64bits"], unfollowed := true, recurses := true, apart := false }
def FnUsedSaid : Prop := fnUsedRow.holds Try.pinned (OpenSpec.ofChange fnUsedSpec)

/-- ITS FALSE NEIGHBOUR: 'it returns false'. Refute it at one input. -/
def fnUsedWrong : ChangeSpec := { name := "fnUsed", fn := fun _ => fun
  | [d1, d2] => { results := [.lit (.bool false)], args := [d1, d2] }
  | _ => none }
def FnUsedWrongFalsely : Prop := fnUsedRow.holds Try.pinned (OpenSpec.ofChange fnUsedWrong)

/- THE SECOND FORM. 'bulk': how many values and letters a reading holds, each counted each time it is reached (what is shared counts as often as it is met; a slice's spare places count too). A statement '..UptoSaid' is the law's where the arguments, and the package variables that the reading takes, are together of bulk at most 1048576: NARROWER than '..Said'. Prove '..Said' where nothing that the law and all that it calls make is longer than what came in: it says more and counts as full. Else prove '..UptoSaid'. A law counts once. -/
mutual
def uptoBulk {H : Type} : DataW H → Nat
  | .lit (.string bytes) => bytes.length + 1
  | .lit _ => 1
  | .nil => 1
  | .ptr d => uptoBulk d + 1
  | .slice elems spare => uptoBulkAll elems + uptoBulkAll spare + 1
  | .agg parts => uptoBulkAll parts + 1
  | .iface _ d => uptoBulk d + 1
  | .map entries => uptoBulkEntries entries + 1
  | .held _ => 1
def uptoBulkAll {H : Type} : List (DataW H) → Nat
  | [] => 0
  | d :: r => uptoBulk d + uptoBulkAll r
def uptoBulkEntries {H : Type} : List (Lit × DataW H) → Nat
  | [] => 0
  | x :: r => uptoBulkEntry x + uptoBulkEntries r
def uptoBulkEntry {H : Type} : Lit × DataW H → Nat
  | (.string bytes, d) => bytes.length + uptoBulk d + 1
  | (_, d) => uptoBulk d + 1
 end
def uptoSmall : (H : Type) → List (DataW H) → Bool := fun _ ds => decide (uptoBulkAll ds ≤ 1048576)
def OpenSpec.upto (s : _root_.Go.ChangeSpec) : _root_.Go.OpenSpec := { _root_.Go.OpenSpec.ofChange s with cond := some uptoSmall }

/-- 'laws.FnScaledBack', WHERE WHAT IT READS IS OF BULK AT MOST 1048576: true; the input reads as it did. -/
def fnScaledBackUptoRow : OpenClaim := { program := "ytkbfjkobjpkgkaa", sum := "71548d6f68ac9f247bb620b7d48d3815886e71c3d756316fbfa26f149a41f13f", func := "loop.example/g01157/laws.FnScaledBack", spec := "fnScaledBack", inPlace := ["math.Float64frombits", "math.Float32bits", "math.Float32frombits", "math.Float64bits"], unfollowed := true, recurses := true, apart := false, narrowed := true }
def FnScaledBackUptoSaid : Prop := fnScaledBackUptoRow.holds Try.pinned (OpenSpec.upto fnScaledBackSpec)

/-- 'laws.FnSlopes', WHERE WHAT IT READS IS OF BULK AT MOST 1048576: true; the input reads as it did. -/
def fnSlopesUptoRow : OpenClaim := { program := "ytkbfjkobjpkgkaa", sum := "71548d6f68ac9f247bb620b7d48d3815886e71c3d756316fbfa26f149a41f13f", func := "loop.example/g01157/laws.FnSlopes", spec := "fnSlopes", inPlace := ["math.Float64bits"], unfollowed := true, recurses := true, apart := false, narrowed := true }
def FnSlopesUptoSaid : Prop := fnSlopesUptoRow.holds Try.pinned (OpenSpec.upto fnSlopesSpec)

/-- 'laws.FnExactProducts', WHERE WHAT IT READS IS OF BULK AT MOST 1048576: true; the input reads as it did. -/
def fnExactProductsUptoRow : OpenClaim := { program := "ytkbfjkobjpkgkaa", sum := "71548d6f68ac9f247bb620b7d48d3815886e71c3d756316fbfa26f149a41f13f", func := "loop.example/g01157/laws.FnExactProducts", spec := "fnExactProducts", inPlace := ["math.Float64bits", "math.Float64frombits"], unfollowed := true, recurses := true, apart := false, narrowed := true }
def FnExactProductsUptoSaid : Prop := fnExactProductsUptoRow.holds Try.pinned (OpenSpec.upto fnExactProductsSpec)

/-- 'laws.FnParts', WHERE WHAT IT READS IS OF BULK AT MOST 1048576: true; the input reads as it did. -/
def fnPartsUptoRow : OpenClaim := { program := "ytkbfjkobjpkgkaa", sum := "71548d6f68ac9f247bb620b7d48d3815886e71c3d756316fbfa26f149a41f13f", func := "loop.example/g01157/laws.FnParts", spec := "fnParts", inPlace := ["math.Float32frombits", "math.Float64bits"], unfollowed := true, recurses := true, apart := false, narrowed := true }
def FnPartsUptoSaid : Prop := fnPartsUptoRow.holds Try.pinned (OpenSpec.upto fnPartsSpec)

/-- 'laws.FnTensorSums', WHERE WHAT IT READS IS OF BULK AT MOST 1048576: true; the input reads as it did. -/
def fnTensorSumsUptoRow : OpenClaim := { program := "ytkbfjkobjpkgkaa", sum := "71548d6f68ac9f247bb620b7d48d3815886e71c3d756316fbfa26f149a41f13f", func := "loop.example/g01157/laws.FnTensorSums", spec := "fnTensorSums", inPlace := ["math.Float32frombits", "math.Float64bits"], unfollowed := true, recurses := true, apart := false, narrowed := true }
def FnTensorSumsUptoSaid : Prop := fnTensorSumsUptoRow.holds Try.pinned (OpenSpec.upto fnTensorSumsSpec)

/-- 'laws.FnRounded', WHERE WHAT IT READS IS OF BULK AT MOST 1048576: true; the input reads as it did. -/
def fnRoundedUptoRow : OpenClaim := { program := "ytkbfjkobjpkgkaa", sum := "71548d6f68ac9f247bb620b7d48d3815886e71c3d756316fbfa26f149a41f13f", func := "loop.example/g01157/laws.FnRounded", spec := "fnRounded", inPlace := ["math.Float32frombits", "math.Float64frombits", "math.Float32bits"], unfollowed := true, recurses := true, apart := false, narrowed := true }
def FnRoundedUptoSaid : Prop := fnRoundedUptoRow.holds Try.pinned (OpenSpec.upto fnRoundedSpec)

/-- 'laws.FnForms', WHERE WHAT IT READS IS OF BULK AT MOST 1048576: true; the input reads as it did. -/
def fnFormsUptoRow : OpenClaim := { program := "ytkbfjkobjpkgkaa", sum := "71548d6f68ac9f247bb620b7d48d3815886e71c3d756316fbfa26f149a41f13f", func := "loop.example/g01157/laws.FnForms", spec := "fnForms", inPlace := ["math.Float32frombits", "math.Float32bits", "math.sqrt", "math.Float64frombits"], unfollowed := true, recurses := true, apart := false, narrowed := true }
def FnFormsUptoSaid : Prop := fnFormsUptoRow.holds Try.pinned (OpenSpec.upto fnFormsSpec)

/-- 'laws.FnExactShapesOf', WHERE WHAT IT READS IS OF BULK AT MOST 1048576: true; the input reads as it did. -/
def fnExactShapesOfUptoRow : OpenClaim := { program := "ytkbfjkobjpkgkaa", sum := "71548d6f68ac9f247bb620b7d48d3815886e71c3d756316fbfa26f149a41f13f", func := "loop.example/g01157/laws.FnExactShapesOf", spec := "fnExactShapesOf", inPlace := ["math.Float32bits", "math.Float64bits"], apart := false, narrowed := true }
def FnExactShapesOfUptoSaid : Prop := fnExactShapesOfUptoRow.holds Try.pinned (OpenSpec.upto fnExactShapesOfSpec)

/-- 'laws.FnExactUsedOps', WHERE WHAT IT READS IS OF BULK AT MOST 1048576: true; the input reads as it did. -/
def fnExactUsedOpsUptoRow : OpenClaim := { program := "ytkbfjkobjpkgkaa", sum := "71548d6f68ac9f247bb620b7d48d3815886e71c3d756316fbfa26f149a41f13f", func := "loop.example/g01157/laws.FnExactUsedOps", spec := "fnExactUsedOps", inPlace := ["math.Float32bits", "math.Float64bits"], apart := false, narrowed := true }
def FnExactUsedOpsUptoSaid : Prop := fnExactUsedOpsUptoRow.holds Try.pinned (OpenSpec.upto fnExactUsedOpsSpec)

/-- 'laws.FnExactReplaceInput', WHERE WHAT IT READS IS OF BULK AT MOST 1048576: true; the input reads as it did. -/
def fnExactReplaceInputUptoRow : OpenClaim := { program := "ytkbfjkobjpkgkaa", sum := "71548d6f68ac9f247bb620b7d48d3815886e71c3d756316fbfa26f149a41f13f", func := "loop.example/g01157/laws.FnExactReplaceInput", spec := "fnExactReplaceInput", inPlace := ["math.Float32bits", "math.Float64bits"], apart := false, narrowed := true }
def FnExactReplaceInputUptoSaid : Prop := fnExactReplaceInputUptoRow.holds Try.pinned (OpenSpec.upto fnExactReplaceInputSpec)

/-- 'laws.FnTapes', WHERE WHAT IT READS IS OF BULK AT MOST 1048576: true; the input reads as it did. -/
def fnTapesUptoRow : OpenClaim := { program := "ytkbfjkobjpkgkaa", sum := "71548d6f68ac9f247bb620b7d48d3815886e71c3d756316fbfa26f149a41f13f", func := "loop.example/g01157/laws.FnTapes", spec := "fnTapes", inPlace := ["math.Float32frombits", "math.Float32bits", "math.Float64bits"], unfollowed := true, recurses := true, apart := false, narrowed := true }
def FnTapesUptoSaid : Prop := fnTapesUptoRow.holds Try.pinned (OpenSpec.upto fnTapesSpec)

/-- 'laws.FnUsed', WHERE WHAT IT READS IS OF BULK AT MOST 1048576: true; the input reads as it did. -/
def fnUsedUptoRow : OpenClaim := { program := "ytkbfjkobjpkgkaa", sum := "71548d6f68ac9f247bb620b7d48d3815886e71c3d756316fbfa26f149a41f13f", func := "loop.example/g01157/laws.FnUsed", spec := "fnUsed", inPlace := ["math.Float32frombits", "math.Float32bits", "math.Float64bits"], unfollowed := true, recurses := true, apart := false, narrowed := true }
def FnUsedUptoSaid : Prop := fnUsedUptoRow.holds Try.pinned (OpenSpec.upto fnUsedSpec)

end Rows
end Go.Proofs.Ytkbfjkobjpkgkaa
