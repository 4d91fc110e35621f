/- What the small functions on integers and structs compute. No condition. -/
import Derived.Test.YtbcpjjbfkeicaaaOpn
namespace Go.Proofs.Ytbcpjjbfkeicaaa
open Go Go.RowKit
def inB (n lo hi : Int) : Bool := decide (lo ≤ n) && decide (n ≤ hi)
theorem inB_iff {n lo hi : Int} : inB n lo hi = true ↔ lo ≤ n ∧ n ≤ hi := by simp [inB]
theorem below1 (w : World) (o : Obj) : Below w.heap.size w (w.alloc o) := (Below.refl _ _).alloc (Nat.le_refl _) o
theorem below2 (w : World) (o o' : Obj) : Below w.heap.size w ((w.alloc o).alloc o') := (below1 w o).alloc (by simp) o'
theorem below3 (w : World) (o o' o'' : Obj) : Below w.heap.size w (((w.alloc o).alloc o').alloc o'') := (below2 w o o').alloc (by simp; omega) o''
theorem within_any (n lo hi : Int) (w : World) : Calls Try.prog 26 #[.int .i64 n, .int .i64 lo, .int .i64 hi] w fun e w' => e = .returned (.bool (inB n lo hi)) ∧ w = w' := by
  go_enter Try.func26, Try.ntmps26
  go_wp2
  all_goals (go_ret; refine ⟨?_, rfl⟩; simp [inB]; try omega)
theorem l00In_any (n lo hi : Int) (w : World) : Calls Try.prog 34 #[.int .i64 n, .int .i64 lo, .int .i64 hi] w fun e w' => e = .returned (.bool (inB n lo hi)) ∧ w = w' := by
  go_enter Try.func34, Try.ntmps34
  go_wp2
  all_goals (go_ret; refine ⟨?_, rfl⟩; simp [inB]; try omega)
theorem spec_ValidOptimizer (k : Int) (r b1 b2 ep : Nat) (w : World) : Calls Try.prog 9 #[.agg #[.int .i64 k, .float .f32 r, .float .f32 b1, .float .f32 b2, .float .f32 ep]] w fun e w' => e = .returned (.bool (inB k 0 4)) ∧ Below w.heap.size w w' := by
  go_enter Try.func9, Try.ntmps9
  go_wp2_with (first | (go_at_call 34; refine (l00In_any _ _ _ _).mono ?_; rintro e w' ⟨rfl, rfl⟩) | go_in)
  go_ret
  exact ⟨rfl, below1 _ _⟩
theorem impl_ValidOptimizer (k : Int) (r b1 b2 ep : Nat) (w : World) : Calls Try.prog 11 #[.agg #[.int .i64 k, .float .f32 r, .float .f32 b1, .float .f32 b2, .float .f32 ep]] w fun e w' => e = .returned (.bool (inB k 0 4)) ∧ Below w.heap.size w w' := by
  go_enter Try.func11, Try.ntmps11
  go_wp2_with (first | (go_at_call 26; refine (within_any _ _ _ _).mono ?_; rintro e w' ⟨rfl, rfl⟩) | go_in)
  go_ret
  exact ⟨rfl, below1 _ _⟩
theorem laws_toOptimizer (k : Int) (r b1 b2 ep : Nat) (w : World) : Calls Try.prog 10 #[.agg #[.int .i64 k, .float .f32 r, .float .f32 b1, .float .f32 b2, .float .f32 ep]] w fun e w' => e = .returned (.agg #[.int .i64 k, .float .f32 r, .float .f32 b1, .float .f32 b2, .float .f32 ep]) ∧ Below w.heap.size w w' := by
  go_enter Try.func10, Try.ntmps10
  go_wp2
  exact bodyPost_ret (v := .agg #[.int .i64 k, .float .f32 r, .float .f32 b1, .float .f32 b2, .float .f32 ep]) (by simp [results, Try.results10, go_sem]) rfl ⟨rfl, below3 _ _ _ _⟩
theorem fnExactValidOptimizer_walk (k : Int) (r b1 b2 ep : Nat) (h0 : (Lit.int .i64 k).wf = true) (h1 : r < 4294967296) (h2 : b1 < 4294967296) (h3 : b2 < 4294967296) (h4 : ep < 4294967296) (w : World) :
    Calls Try.prog 3 #[.agg #[.int .i64 k, .float .f32 r, .float .f32 b1, .float .f32 b2, .float .f32 ep]] w fun e w' => e = .returned (.bool true) ∧ Below w.heap.size w w' := by
  clear h0 h1 h2 h3 h4
  go_enter Try.func3, Try.ntmps3
  go_wp2_with fail
  refine (laws_toOptimizer _ _ _ _ _ _).mono ?_
  rintro e w1 ⟨rfl, hb1⟩
  obtain ⟨hc1, hf1, hl1⟩ := bkeep w.heap.size hb1 (by first | assumption | simp)
  go_wp2_with fail
  refine (spec_ValidOptimizer _ _ _ _ _ _).mono ?_
  rintro e w2 ⟨rfl, hb2⟩
  obtain ⟨hc2, hf2, hl2⟩ := bkeep w.heap.size hb2 (by first | assumption | simp)
  go_wp2_with fail
  refine (laws_toOptimizer _ _ _ _ _ _).mono ?_
  rintro e w3 ⟨rfl, hb3⟩
  obtain ⟨hc3, hf3, hl3⟩ := bkeep w.heap.size hb3 (by first | assumption | simp)
  go_wp2_with fail
  refine (impl_ValidOptimizer _ _ _ _ _ _).mono ?_
  rintro e w4 ⟨rfl, hb4⟩
  obtain ⟨hc4, hf4, hl4⟩ := bkeep w.heap.size hb4 (by first | assumption | simp)
  go_wp2
  go_ret
  exact ⟨rfl, bthen (bthen (bthen (bthen (below1 _ _) hb1) hb2) hb3) hb4⟩
end Go.Proofs.Ytbcpjjbfkeicaaa
