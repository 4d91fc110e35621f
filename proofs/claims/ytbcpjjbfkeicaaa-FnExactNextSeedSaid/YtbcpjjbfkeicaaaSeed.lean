/- What the next seed is. No condition. -/
import Derived.Test.YtbcpjjbfkeicaaaSmall
import Derived.Lib.Hide
namespace Go.Proofs.Ytbcpjjbfkeicaaa
open Go Go.RowKit
set_option linter.unusedVariables false
def nextS (s : Int) : Int := (1103515245 * s + 12345) % 2147483648
theorem nextS_bd (s : Int) : 0 ≤ nextS s ∧ nextS s ≤ 2147483647 := by unfold nextS; omega
theorem impl_nextSeed (s : Int) (w : World) (h0 : 0 ≤ s) (h1 : s ≤ 2147483647) : Calls Try.prog 30 #[.int .i64 s] w fun e w' => e = .returned (.int .i64 (nextS s)) ∧ w = w' := by
  go_enter Try.func30, Try.ntmps30
  go_wp2
  go_ret
  exact ⟨rfl, rfl⟩
theorem spec_l07Next (s : Int) (w : World) (h0 : 0 ≤ s) (h1 : s ≤ 2147483647) : Calls Try.prog 28 #[.int .i64 s] w fun e w' => e = .returned (.int .i64 (nextS s)) ∧ w = w' := by
  go_enter Try.func28, Try.ntmps28
  go_wp2
  go_ret
  exact ⟨rfl, rfl⟩
theorem impl_NextSeed (s : Int) (w : World) : Calls Try.prog 13 #[.int .i64 s] w fun e w' => e = .returned (if inB s 0 2147483647 = true then .tuple #[.int .i64 (nextS s), .bool true] else .tuple #[.int .i64 0, .bool false]) ∧ w = w' := by
  by_cases h : inB s 0 2147483647 = true
  · have ⟨h0, h1⟩ := inB_iff.1 h
    rw [if_pos h]
    go_enter Try.func13, Try.ntmps13
    go_wp2_with (first | (go_at_call 26; refine (within_any _ _ _ _).mono ?_; rintro e w' ⟨rfl, rfl⟩) | (go_at_call 30; refine (impl_nextSeed _ _ h0 h1).mono ?_; rintro e w' ⟨rfl, rfl⟩) | go_in)
    go_ret2
    exact ⟨rfl, rfl⟩
  · have h : inB s 0 2147483647 = false := by simpa using h
    rw [if_neg (by simp [h])]
    go_enter Try.func13, Try.ntmps13
    go_wp2_with (first | (go_at_call 26; refine (within_any _ _ _ _).mono ?_; rintro e w' ⟨rfl, rfl⟩) | go_in)
    go_ret2
    exact ⟨rfl, rfl⟩
theorem spec_NextSeed (s : Int) (w : World) : Calls Try.prog 12 #[.int .i64 s] w fun e w' => e = .returned (if inB s 0 2147483647 = true then .tuple #[.int .i64 (nextS s), .bool true] else .tuple #[.int .i64 0, .bool false]) ∧ w = w' := by
  by_cases h : inB s 0 2147483647 = true
  · have ⟨h0, h1⟩ := inB_iff.1 h
    rw [if_pos h]
    go_enter Try.func12, Try.ntmps12
    go_wp2_with (first | (go_at_call 34; refine (l00In_any _ _ _ _).mono ?_; rintro e w' ⟨rfl, rfl⟩) | (go_at_call 28; refine (spec_l07Next _ _ h0 h1).mono ?_; rintro e w' ⟨rfl, rfl⟩) | go_in)
    go_ret2
    exact ⟨rfl, rfl⟩
  · have h : inB s 0 2147483647 = false := by simpa using h
    rw [if_neg (by simp [h])]
    go_enter Try.func12, Try.ntmps12
    go_wp2_with (first | (go_at_call 34; refine (l00In_any _ _ _ _).mono ?_; rintro e w' ⟨rfl, rfl⟩) | go_in)
    go_ret2
    exact ⟨rfl, rfl⟩
theorem fnExactNextSeed_walk (s : Int) (hs : (Lit.int .i64 s).wf = true) (w : World) : Calls Try.prog 4 #[.int .i64 s] w fun e w' => e = .returned (.bool true) ∧ Below w.heap.size w w' := by
  clear hs
  have key : ∃ a b, (if inB s 0 2147483647 = true then Value.tuple #[.int .i64 (nextS s), .bool true] else .tuple #[.int .i64 0, .bool false]) = .tuple #[.int .i64 a, .bool b] := by
    split
    · exact ⟨_, _, rfl⟩
    · exact ⟨_, _, rfl⟩
  obtain ⟨a, b, key⟩ := key
  have c1 := fun w => spec_NextSeed s w
  have c2 := fun w => impl_NextSeed s w
  rw [key] at c1 c2
  clear key
  have C1 := Lib.hid c1; have C2 := Lib.hid c2; clear c1 c2
  go_enter Try.func4, Try.ntmps4
  go_wp2_with fail
  refine (C1.out _).mono ?_
  rintro e w1 ⟨rfl, rfl⟩
  go_wp2_with fail
  refine (C2.out _).mono ?_
  rintro e w2 ⟨rfl, rfl⟩
  go_wp2
  all_goals (go_ret; exact ⟨rfl, Below.refl _ _⟩)
end Go.Proofs.Ytbcpjjbfkeicaaa
