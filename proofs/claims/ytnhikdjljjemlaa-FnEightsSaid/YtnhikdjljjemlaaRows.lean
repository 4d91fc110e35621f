/-
  No cell of these rows narrows 'for every input' (looked for: loops, veiled, ifaces, maps, wideKeys, modest, calm, conditions, laid).
  DERIVED. THE GIVEN ROWS OF THIS SEAT. 4 by the template 'for every input the law returns true; each argument reads behind the call as it read before'; 0 by the template 'total and deterministic' (their statements: YtnhikdjljjemlaaTotals.lean).
  GIVEN WITH THE SEED: the statements are not yours to turn. If you find one false, say at which input.
  Laid BY PROGRAM, IN A SANDBOX (cutbox-rows.mjs): the forced cells as the released guide's own fill.sh prints them over the translation 97e2fa854156daa6… (all of the seat's roots in one cut). By AI agents, Wed Nov 11 2026. No macro, syntax, notation, axiom, sorry.
-/
import Derived.Test.YtnhikdjljjemlaaChecked
import GoSem.Claim
import GoSem.ClaimJoined
import GoSem.ClaimMapViews
import Derived.JoinedTies
import Derived.KernelRfl
namespace Go.Proofs.Ytnhikdjljjemlaa
/- THE CELL 'sum', in the pinned program and in every row, IS THE sha256 OF THE DUMP (.gsa) THAT YtnhikdjljjemlaaProg.lean LOADS. Nothing in Lean hashes anything: it is a label: what it is worth is what the hold of that sum in a sandbox is worth. -/
noncomputable def Try.pinned : Pinned := { name := "ytnhikdjljjemlaa", sum := "97e2fa854156daa6185d0881c271dec35276113136edf5b6fdea172310b38641", checked := Try.checked }
namespace Rows
def none {H : Type} : Left H := { results := [], args := [] }

/-- 'laws.FnStepsAlone': WHATEVER THE INPUT: true; the input reads as it did. -/
def fnStepsAloneSpec : ChangeSpec := { name := "fnStepsAlone", fn := fun _ => fun
  | [d1, d2] => { results := [.lit (.bool true)], args := [d1, d2] }
  | _ => none }
def fnStepsAloneRow : OpenClaim := { program := "ytnhikdjljjemlaa", sum := "97e2fa854156daa6185d0881c271dec35276113136edf5b6fdea172310b38641", func := "loop.example/g01157/laws.FnStepsAlone", spec := "fnStepsAlone", inPlace := ["math.Float32frombits", "math.sqrt", "math.Float32bits"], unfollowed := true, recurses := true, apart := false }
def FnStepsAloneSaid : Prop := fnStepsAloneRow.holds Try.pinned (OpenSpec.ofChange fnStepsAloneSpec)

/-- ITS FALSE NEIGHBOUR: 'it returns false'. Refute it at one input. -/
def fnStepsAloneWrong : ChangeSpec := { name := "fnStepsAlone", fn := fun _ => fun
  | [d1, d2] => { results := [.lit (.bool false)], args := [d1, d2] }
  | _ => none }
def FnStepsAloneWrongFalsely : Prop := fnStepsAloneRow.holds Try.pinned (OpenSpec.ofChange fnStepsAloneWrong)

/-- 'laws.FnEights': WHATEVER THE INPUT: true; the input reads as it did. -/
def fnEightsSpec : ChangeSpec := { name := "fnEights", fn := fun _ => fun
  | [d1, d2] => { results := [.lit (.bool true)], args := [d1, d2] }
  | _ => none }
def fnEightsRow : OpenClaim := { program := "ytnhikdjljjemlaa", sum := "97e2fa854156daa6185d0881c271dec35276113136edf5b6fdea172310b38641", func := "loop.example/g01157/laws.FnEights", spec := "fnEights", inPlace := ["math.Float32frombits", "math.Float64bits", "math.Float64frombits", "math.Float32bits"], apart := false }
def FnEightsSaid : Prop := fnEightsRow.holds Try.pinned (OpenSpec.ofChange fnEightsSpec)

/-- ITS FALSE NEIGHBOUR: 'it returns false'. Refute it at one input. -/
def fnEightsWrong : ChangeSpec := { name := "fnEights", fn := fun _ => fun
  | [d1, d2] => { results := [.lit (.bool false)], args := [d1, d2] }
  | _ => none }
def FnEightsWrongFalsely : Prop := fnEightsRow.holds Try.pinned (OpenSpec.ofChange fnEightsWrong)

/-- 'laws.FnLosses': WHATEVER THE INPUT: true; the input reads as it did. -/
def fnLossesSpec : ChangeSpec := { name := "fnLosses", fn := fun _ => fun
  | [d1, d2] => { results := [.lit (.bool true)], args := [d1, d2] }
  | _ => none }
def fnLossesRow : OpenClaim := { program := "ytnhikdjljjemlaa", sum := "97e2fa854156daa6185d0881c271dec35276113136edf5b6fdea172310b38641", func := "loop.example/g01157/laws.FnLosses", spec := "fnLosses", inPlace := ["math.Float64bits", "math.Float64frombits"], apart := false }
def FnLossesSaid : Prop := fnLossesRow.holds Try.pinned (OpenSpec.ofChange fnLossesSpec)

/-- ITS FALSE NEIGHBOUR: 'it returns false'. Refute it at one input. -/
def fnLossesWrong : ChangeSpec := { name := "fnLosses", fn := fun _ => fun
  | [d1, d2] => { results := [.lit (.bool false)], args := [d1, d2] }
  | _ => none }
def FnLossesWrongFalsely : Prop := fnLossesRow.holds Try.pinned (OpenSpec.ofChange fnLossesWrong)

/-- 'laws.FnEightBits': WHATEVER THE INPUT: true; the input reads as it did. -/
def fnEightBitsSpec : ChangeSpec := { name := "fnEightBits", fn := fun _ => fun
  | [d1, d2] => { results := [.lit (.bool true)], args := [d1, d2] }
  | _ => none }
def fnEightBitsRow : OpenClaim := { program := "ytnhikdjljjemlaa", sum := "97e2fa854156daa6185d0881c271dec35276113136edf5b6fdea172310b38641", func := "loop.example/g01157/laws.FnEightBits", spec := "fnEightBits", inPlace := ["math.Float32frombits", "math.Float64bits", "math.Float64frombits", "math.RoundToEven", "math.archFloor", "math.archTrunc"], unfollowed := true, recurses := true, apart := false }
def FnEightBitsSaid : Prop := fnEightBitsRow.holds Try.pinned (OpenSpec.ofChange fnEightBitsSpec)

/-- ITS FALSE NEIGHBOUR: 'it returns false'. Refute it at one input. -/
def fnEightBitsWrong : ChangeSpec := { name := "fnEightBits", fn := fun _ => fun
  | [d1, d2] => { results := [.lit (.bool false)], args := [d1, d2] }
  | _ => none }
def FnEightBitsWrongFalsely : Prop := fnEightBitsRow.holds Try.pinned (OpenSpec.ofChange fnEightBitsWrong)

/- THE SECOND FORM. 'bulk': how many values and letters a reading holds, each counted each time it is reached (what is shared counts as often as it is met; a slice's spare places count too). A statement '..UptoSaid' is the law's where the arguments, and the package variables that the reading takes, are together of bulk at most 1048576: NARROWER than '..Said'. Prove '..Said' where nothing that the law and all that it calls make is longer than what came in: it says more and counts as full. Else prove '..UptoSaid'. A law counts once. -/
mutual
def uptoBulk {H : Type} : DataW H → Nat
  | .lit (.string bytes) => bytes.length + 1
  | .lit _ => 1
  | .nil => 1
  | .ptr d => uptoBulk d + 1
  | .slice elems spare => uptoBulkAll elems + uptoBulkAll spare + 1
  | .agg parts => uptoBulkAll parts + 1
  | .iface _ d => uptoBulk d + 1
  | .map entries => uptoBulkEntries entries + 1
  | .held _ => 1
def uptoBulkAll {H : Type} : List (DataW H) → Nat
  | [] => 0
  | d :: r => uptoBulk d + uptoBulkAll r
def uptoBulkEntries {H : Type} : List (Lit × DataW H) → Nat
  | [] => 0
  | x :: r => uptoBulkEntry x + uptoBulkEntries r
def uptoBulkEntry {H : Type} : Lit × DataW H → Nat
  | (.string bytes, d) => bytes.length + uptoBulk d + 1
  | (_, d) => uptoBulk d + 1
 end
def uptoSmall : (H : Type) → List (DataW H) → Bool := fun _ ds => decide (uptoBulkAll ds ≤ 1048576)
def OpenSpec.upto (s : _root_.Go.ChangeSpec) : _root_.Go.OpenSpec := { _root_.Go.OpenSpec.ofChange s with cond := some uptoSmall }

/-- 'laws.FnStepsAlone', WHERE WHAT IT READS IS OF BULK AT MOST 1048576: true; the input reads as it did. -/
def fnStepsAloneUptoRow : OpenClaim := { program := "ytnhikdjljjemlaa", sum := "97e2fa854156daa6185d0881c271dec35276113136edf5b6fdea172310b38641", func := "loop.example/g01157/laws.FnStepsAlone", spec := "fnStepsAlone", inPlace := ["math.Float32frombits", "math.sqrt", "math.Float32bits"], unfollowed := true, recurses := true, apart := false, narrowed := true }
def FnStepsAloneUptoSaid : Prop := fnStepsAloneUptoRow.holds Try.pinned (OpenSpec.upto fnStepsAloneSpec)

/-- 'laws.FnEights', WHERE WHAT IT READS IS OF BULK AT MOST 1048576: true; the input reads as it did. -/
def fnEightsUptoRow : OpenClaim := { program := "ytnhikdjljjemlaa", sum := "97e2fa854156daa6185d0881c271dec35276113136edf5b6fdea172310b38641", func := "loop.example/g01157/laws.FnEights", spec := "fnEights", inPlace := ["math.Float32frombits", "math.Float64bits", "math.Float64frombits", "math.Float32bits"], apart := false, narrowed := true }
def FnEightsUptoSaid : Prop := fnEightsUptoRow.holds Try.pinned (OpenSpec.upto fnEightsSpec)

/-- 'laws.FnLosses', WHERE WHAT IT READS IS OF BULK AT MOST 1048576: true; the input reads as it did. -/
def fnLossesUptoRow : OpenClaim := { program := "ytnhikdjljjemlaa", sum := "97e2fa854156daa6185d0881c271dec35276113136edf5b6fdea172310b38641", func := "loop.example/g01157/laws.FnLosses", spec := "fnLosses", inPlace := ["math.Float64bits", "math.Float64frombits"], apart := false, narrowed := true }
def FnLossesUptoSaid : Prop := fnLossesUptoRow.holds Try.pinned (OpenSpec.upto fnLossesSpec)

/-- 'laws.FnEightBits', WHERE WHAT IT READS IS OF BULK AT MOST 1048576: true; the input reads as it did. -/
def fnEightBitsUptoRow : OpenClaim := { program := "ytnhikdjljjemlaa", sum := "97e2fa854156daa6185d0881c271dec35276113136edf5b6fdea172310b38641", func := "loop.example/g01157/laws.FnEightBits", spec := "fnEightBits", inPlace := ["math.Float32frombits", "math.Float64bits", "math.Float64frombits", "math.RoundToEven", "math.archFloor", "math.archTrunc"], unfollowed := true, recurses := true, apart := false, narrowed := true }
def FnEightBitsUptoSaid : Prop := fnEightBitsUptoRow.holds Try.pinned (OpenSpec.upto fnEightBitsSpec)

end Rows
end Go.Proofs.Ytnhikdjljjemlaa
