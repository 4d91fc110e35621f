/- What a loss scale is. No condition. -/
import Derived.Test.YtnnefcakfaifmaaSam
import Derived.Lib.Hide
namespace Go.Proofs.Ytnnefcakfaifmaa
open Go Go.RowKit
set_option linter.unusedVariables false
def isScaleB (s : Nat) : Bool := (FloatKind.f32.format.order s 947912704 == some .gt || FloatKind.f32.format.order s 947912704 == some .eq) && (FloatKind.f32.format.order s 1266679808 == some .lt || FloatKind.f32.format.order s 1266679808 == some .eq)
def validScaleB (s : Nat) (g q : Int) : Bool := isScaleB s && inB g 0 1000 && inB q 1 1000
theorem impl_isScale (s : Nat) (w : World) : Calls Try.prog 71 #[.float .f32 s] w fun e w' => e = .returned (.bool (isScaleB s)) ∧ w = w' := by
  go_enter Try.func71, Try.ntmps71
  go_wp2
  all_goals (go_ret; refine ⟨?_, rfl⟩; simp_all [isScaleB])
theorem impl_ValidScale (s : Nat) (g q : Int) (w : World) : Calls Try.prog 21 #[.agg #[.float .f32 s, .int .i64 g, .int .i64 q]] w fun e w' => e = .returned (.bool (validScaleB s g q)) ∧ Below w.heap.size w w' := by
  go_enter Try.func21, Try.ntmps21
  cases h1 : isScaleB s <;> cases h2 : inB g 0 1000 <;> cases h3 : inB q 1 1000
  all_goals
    go_wp2_with (first | (go_at_call 69; refine (within_any _ _ _ _).mono ?_; rintro e w' ⟨rfl, rfl⟩) | (go_at_call 71; refine (impl_isScale _ _).mono ?_; rintro e w' ⟨rfl, rfl⟩))
    go_ret
    exact ⟨by simp [validScaleB, h1, h2, h3], below1 _ _⟩
end Go.Proofs.Ytnnefcakfaifmaa
