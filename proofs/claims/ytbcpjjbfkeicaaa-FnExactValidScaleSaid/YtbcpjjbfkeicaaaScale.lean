/- What a loss scale is. No condition. -/
import Derived.Test.YtbcpjjbfkeicaaaSam
import Derived.Lib.Hide
namespace Go.Proofs.Ytbcpjjbfkeicaaa
open Go Go.RowKit
set_option linter.unusedVariables false
def isScaleB (s : Nat) : Bool := (FloatKind.f32.format.order s 947912704 == some .gt || FloatKind.f32.format.order s 947912704 == some .eq) && (FloatKind.f32.format.order s 1266679808 == some .lt || FloatKind.f32.format.order s 1266679808 == some .eq)
def validScaleB (s : Nat) (g q : Int) : Bool := isScaleB s && inB g 0 1000 && inB q 1 1000
theorem laws_toLossScale (s : Nat) (g q : Int) (w : World) : Calls Try.prog 15 #[.agg #[.float .f32 s, .int .i64 g, .int .i64 q]] w fun e w' => e = .returned (.agg #[.float .f32 s, .int .i64 g, .int .i64 q]) ∧ Below w.heap.size w w' := by
  go_enter Try.func15, Try.ntmps15
  go_wp2
  exact bodyPost_ret (v := .agg #[.float .f32 s, .int .i64 g, .int .i64 q]) (by simp [results, Try.results15, go_sem]) rfl ⟨rfl, below3 _ _ _ _⟩
theorem impl_isScale (s : Nat) (w : World) : Calls Try.prog 32 #[.float .f32 s] w fun e w' => e = .returned (.bool (isScaleB s)) ∧ w = w' := by
  go_enter Try.func32, Try.ntmps32
  go_wp2
  all_goals (go_ret; refine ⟨?_, rfl⟩; simp_all [isScaleB])
theorem spec_l06Scale (s : Nat) (w : World) : Calls Try.prog 35 #[.float .f32 s] w fun e w' => e = .returned (.bool (isScaleB s)) ∧ w = w' := by
  go_enter Try.func35, Try.ntmps35
  go_wp2
  all_goals (go_ret; refine ⟨?_, rfl⟩; simp_all [isScaleB])
theorem impl_ValidScale (s : Nat) (g q : Int) (w : World) : Calls Try.prog 16 #[.agg #[.float .f32 s, .int .i64 g, .int .i64 q]] w fun e w' => e = .returned (.bool (validScaleB s g q)) ∧ Below w.heap.size w w' := by
  go_enter Try.func16, Try.ntmps16
  cases h1 : isScaleB s <;> cases h2 : inB g 0 1000 <;> cases h3 : inB q 1 1000
  all_goals
    go_wp2_with (first | (go_at_call 26; refine (within_any _ _ _ _).mono ?_; rintro e w' ⟨rfl, rfl⟩) | (go_at_call 32; refine (impl_isScale _ _).mono ?_; rintro e w' ⟨rfl, rfl⟩))
    go_ret
    exact ⟨by simp [validScaleB, h1, h2, h3], below1 _ _⟩
theorem spec_l06Is (s : Nat) (g q : Int) (w : World) : Calls Try.prog 31 #[.agg #[.float .f32 s, .int .i64 g, .int .i64 q]] w fun e w' => e = .returned (.bool (validScaleB s g q)) ∧ Below w.heap.size w w' := by
  go_enter Try.func31, Try.ntmps31
  cases h1 : isScaleB s <;> cases h2 : inB g 0 1000 <;> cases h3 : inB q 1 1000
  all_goals
    go_wp2_with (first | (go_at_call 34; refine (l00In_any _ _ _ _).mono ?_; rintro e w' ⟨rfl, rfl⟩) | (go_at_call 35; refine (spec_l06Scale _ _).mono ?_; rintro e w' ⟨rfl, rfl⟩))
    go_ret
    exact ⟨by simp [validScaleB, h1, h2, h3], below1 _ _⟩
theorem spec_ValidScale (s : Nat) (g q : Int) (w : World) : Calls Try.prog 14 #[.agg #[.float .f32 s, .int .i64 g, .int .i64 q]] w fun e w' => e = .returned (.bool (validScaleB s g q)) ∧ Below w.heap.size w w' := by
  go_enter Try.func14, Try.ntmps14
  go_wp2_with fail
  refine (spec_l06Is _ _ _ _).mono ?_
  rintro e w1 ⟨rfl, hb1⟩
  go_wp2
  go_ret
  exact ⟨rfl, bthen (below1 _ _) hb1⟩
theorem fnExactValidScale_walk (s : Nat) (g q : Int) (h0 : s < 4294967296) (h1 : (Lit.int .i64 g).wf = true) (h2 : (Lit.int .i64 q).wf = true) (w : World) :
    Calls Try.prog 5 #[.agg #[.float .f32 s, .int .i64 g, .int .i64 q]] w fun e w' => e = .returned (.bool true) ∧ Below w.heap.size w w' := by
  clear h0 h1 h2
  go_enter Try.func5, Try.ntmps5
  go_wp2_with fail
  refine (laws_toLossScale _ _ _ _).mono ?_
  rintro e w1 ⟨rfl, hb1⟩
  obtain ⟨hc1, hf1, hl1⟩ := bkeep w.heap.size hb1 (by first | assumption | simp)
  go_wp2_with fail
  refine (spec_ValidScale _ _ _ _).mono ?_
  rintro e w2 ⟨rfl, hb2⟩
  obtain ⟨hc2, hf2, hl2⟩ := bkeep w.heap.size hb2 (by first | assumption | simp)
  go_wp2_with fail
  refine (laws_toLossScale _ _ _ _).mono ?_
  rintro e w3 ⟨rfl, hb3⟩
  go_wp2_with fail
  refine (impl_ValidScale _ _ _ _).mono ?_
  rintro e w4 ⟨rfl, hb4⟩
  go_wp2
  go_ret
  exact ⟨rfl, bthen (bthen (bthen (bthen (below1 _ _) hb1) hb2) hb3) hb4⟩
end Go.Proofs.Ytbcpjjbfkeicaaa
