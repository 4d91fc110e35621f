/- What a loss scale is. No condition. -/
import Derived.Test.YtbcpjjbfkeicaacSam
import Derived.Lib.Hide
namespace Go.Proofs.Ytbcpjjbfkeicaac
open Go Go.RowKit
set_option linter.unusedVariables false
def isScaleB (s : Nat) : Bool := (FloatKind.f32.format.order s 947912704 == some .gt || FloatKind.f32.format.order s 947912704 == some .eq) && (FloatKind.f32.format.order s 1266679808 == some .lt || FloatKind.f32.format.order s 1266679808 == some .eq)
def validScaleB (s : Nat) (g q : Int) : Bool := isScaleB s && inB g 0 1000 && inB q 1 1000
theorem laws_toLossScale (s : Nat) (g q : Int) (w : World) : Calls Try.prog 6 #[.agg #[.float .f32 s, .int .i64 g, .int .i64 q]] w fun e w' => e = .returned (.agg #[.float .f32 s, .int .i64 g, .int .i64 q]) ∧ Below w.heap.size w w' := by
  go_enter Try.func6, Try.ntmps6
  go_wp2
  exact bodyPost_ret (v := .agg #[.float .f32 s, .int .i64 g, .int .i64 q]) (by simp [results, Try.results6, go_sem]) rfl ⟨rfl, below3 _ _ _ _⟩
theorem impl_isScale (s : Nat) (w : World) : Calls Try.prog 25 #[.float .f32 s] w fun e w' => e = .returned (.bool (isScaleB s)) ∧ w = w' := by
  go_enter Try.func25, Try.ntmps25
  go_wp2
  all_goals (go_ret; refine ⟨?_, rfl⟩; simp_all [isScaleB])
theorem spec_l06Scale (s : Nat) (w : World) : Calls Try.prog 22 #[.float .f32 s] w fun e w' => e = .returned (.bool (isScaleB s)) ∧ w = w' := by
  go_enter Try.func22, Try.ntmps22
  go_wp2
  all_goals (go_ret; refine ⟨?_, rfl⟩; simp_all [isScaleB])
theorem impl_ValidScale (s : Nat) (g q : Int) (w : World) : Calls Try.prog 16 #[.agg #[.float .f32 s, .int .i64 g, .int .i64 q]] w fun e w' => e = .returned (.bool (validScaleB s g q)) ∧ Below w.heap.size w w' := by
  go_enter Try.func16, Try.ntmps16
  cases h1 : isScaleB s <;> cases h2 : inB g 0 1000 <;> cases h3 : inB q 1 1000
  all_goals
    go_wp2_with (first | (go_at_call 26; refine (within_any _ _ _ _).mono ?_; rintro e w' ⟨rfl, rfl⟩) | (go_at_call 25; refine (impl_isScale _ _).mono ?_; rintro e w' ⟨rfl, rfl⟩))
    go_ret
    exact ⟨by simp [validScaleB, h1, h2, h3], below1 _ _⟩
theorem spec_l06Is (s : Nat) (g q : Int) (w : World) : Calls Try.prog 14 #[.agg #[.float .f32 s, .int .i64 g, .int .i64 q]] w fun e w' => e = .returned (.bool (validScaleB s g q)) ∧ Below w.heap.size w w' := by
  go_enter Try.func14, Try.ntmps14
  cases h1 : isScaleB s <;> cases h2 : inB g 0 1000 <;> cases h3 : inB q 1 1000
  all_goals
    go_wp2_with (first | (go_at_call 23; refine (l00In_any _ _ _ _).mono ?_; rintro e w' ⟨rfl, rfl⟩) | (go_at_call 22; refine (spec_l06Scale _ _).mono ?_; rintro e w' ⟨rfl, rfl⟩))
    go_ret
    exact ⟨by simp [validScaleB, h1, h2, h3], below1 _ _⟩
end Go.Proofs.Ytbcpjjbfkeicaac
