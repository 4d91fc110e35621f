/- What the next seed is. No condition. -/
import Derived.Test.YtaocilimggpdjaaSmall
import Derived.Lib.Hide
namespace Go.Proofs.Ytaocilimggpdjaa
open Go Go.RowKit
set_option linter.unusedVariables false
def nextS (s : Int) : Int := (1103515245 * s + 12345) % 2147483648
theorem nextS_bd (s : Int) : 0 ≤ nextS s ∧ nextS s ≤ 2147483647 := by unfold nextS; omega
theorem impl_nextSeed (s : Int) (w : World) (h0 : 0 ≤ s) (h1 : s ≤ 2147483647) : Calls Try.prog 131 #[.int .i64 s] w fun e w' => e = .returned (.int .i64 (nextS s)) ∧ w = w' := by
  go_enter Try.func131, Try.ntmps131
  go_wp2
  go_ret
  exact ⟨rfl, rfl⟩
theorem impl_NextSeed (s : Int) (w : World) : Calls Try.prog 72 #[.int .i64 s] w fun e w' => e = .returned (if inB s 0 2147483647 = true then .tuple #[.int .i64 (nextS s), .bool true] else .tuple #[.int .i64 0, .bool false]) ∧ w = w' := by
  by_cases h : inB s 0 2147483647 = true
  · have ⟨h0, h1⟩ := inB_iff.1 h
    rw [if_pos h]
    go_enter Try.func72, Try.ntmps72
    go_wp2_with (first | (go_at_call 81; refine (within_any _ _ _ _).mono ?_; rintro e w' ⟨rfl, rfl⟩) | (go_at_call 131; refine (impl_nextSeed _ _ h0 h1).mono ?_; rintro e w' ⟨rfl, rfl⟩) | go_in)
    go_ret2
    exact ⟨rfl, rfl⟩
  · have h : inB s 0 2147483647 = false := by simpa using h
    rw [if_neg (by simp [h])]
    go_enter Try.func72, Try.ntmps72
    go_wp2_with (first | (go_at_call 81; refine (within_any _ _ _ _).mono ?_; rintro e w' ⟨rfl, rfl⟩) | go_in)
    go_ret2
    exact ⟨rfl, rfl⟩
end Go.Proofs.Ytaocilimggpdjaa
