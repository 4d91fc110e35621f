/- The law of DotOfCodes, walked. No condition. -/
import Derived.Test.YtbcpjjbfkeicaacDot
namespace Go.Proofs.Ytbcpjjbfkeicaac
open Go Go.RowKit
set_option linter.unusedVariables false
set_option maxHeartbeats 8000000 in
set_option maxRecDepth 100000 in
theorem fnExactDotOfCodes_walk (w : World) (a0 : Option Addr) (c0 : Nat) (l0 : List Int) (A0 : Ints .i64 w a0 c0 l0) (a1 : Option Addr) (c1 : Nat) (l1 : List Int) (A1 : Ints .i64 w a1 c1 l1) (a2 : Nat) (A2 : a2 < 4294967296) (a3 : Nat) (A3 : a3 < 4294967296) :
    Calls Try.prog 4 #[.slice a0 l0.length c0, .slice a1 l1.length c1, .float .f32 a2, .float .f32 a3] w fun e w' => e = .returned (.bool true) ∧ Below w.heap.size w w' := by
  by_cases hn0 : l0.length ≤ 1048576
  rotate_left
  · have hm := A0.len; have hm2 := A0.cap; unfold maxLen at hm2
    go_enter Try.func4, Try.ntmps4
    go_wp2
    go_ret
    exact ⟨rfl, Below.refl _ _⟩
  by_cases hn1 : l1.length ≤ 1048576
  rotate_left
  · have hm := A1.len; have hm2 := A1.cap; unfold maxLen at hm2
    go_enter Try.func4, Try.ntmps4
    go_wp2
    go_ret
    exact ⟨rfl, Below.refl _ _⟩
  go_enter Try.func4, Try.ntmps4
  have B0 := A0
  have B1 := A1
  go_wp2_with fail
  refine (I_to _ a0 c0 l0 A0 hn0).mono ?_
  rintro e w1 ⟨p_t0, q_t0, rfl, t0, hb⟩
  replace A0 := A0.below hb
  replace A1 := A1.below hb
  have z1 : w.heap.size ≤ w1.heap.size := hb.size
  have b1 : Below w.heap.size w w1 := hb
  clear hb
  go_wp2_with fail
  refine (I_to _ a1 c1 l1 A1 hn1).mono ?_
  rintro e w2 ⟨p_t1, q_t1, rfl, t1, hb⟩
  replace t0 := t0.below hb
  replace A0 := A0.below hb
  replace A1 := A1.below hb
  have z2 : w1.heap.size ≤ w2.heap.size := hb.size
  have b2 := bthen b1 hb; clear b1
  clear hb
  go_wp2_with fail
  refine (spec_DotOfCodes _ _ _ l0 t0.arg _ _ l1 t1.arg a2 a3 A2 A3).mono ?_
  rintro e w3 ⟨v_s0, v_s1, rfl, e_s0, e_s1, hb⟩
  have E_s0 := Lib.hid e_s0; clear e_s0
  have E_s1 := Lib.hid e_s1; clear e_s1
  replace t0 := t0.below hb
  replace t1 := t1.below hb
  replace A0 := A0.below hb
  replace A1 := A1.below hb
  have z3 : w2.heap.size ≤ w3.heap.size := hb.size
  have b3 := bthen b2 hb; clear b2
  clear hb
  clear t0
  clear t1
  go_wp2_with fail
  refine (I_to _ a0 c0 l0 A0 hn0).mono ?_
  rintro e w4 ⟨p_x0, q_x0, rfl, x0, hb⟩
  replace A0 := A0.below hb
  replace A1 := A1.below hb
  have z4 : w3.heap.size ≤ w4.heap.size := hb.size
  have b4 := bthen b3 hb; clear b3
  clear hb
  go_wp2_with fail
  refine (I_to _ a1 c1 l1 A1 hn1).mono ?_
  rintro e w5 ⟨p_x1, q_x1, rfl, x1, hb⟩
  replace x0 := x0.below hb
  replace A0 := A0.below hb
  replace A1 := A1.below hb
  have z5 : w4.heap.size ≤ w5.heap.size := hb.size
  have b5 := bthen b4 hb; clear b4
  clear hb
  go_wp2_with fail
  refine (impl_DotOfCodes _ _ _ l0 x0.arg _ _ l1 x1.arg a2 a3 A2 A3).mono ?_
  rintro e w6 ⟨v_g0, v_g1, rfl, e_g0, e_g1, hb⟩
  have E_g0 := Lib.hid e_g0; clear e_g0
  have E_g1 := Lib.hid e_g1; clear e_g1
  replace x0 := x0.below hb
  replace x1 := x1.below hb
  replace A0 := A0.below hb
  replace A1 := A1.below hb
  have z6 : w5.heap.size ≤ w6.heap.size := hb.size
  have b6 := bthen b5 hb; clear b5
  clear hb
  obtain rfl : v_s1 = v_g1 := E_s1.out.trans E_g1.out.symm
  go_wp2_with fail
  refine (sameFloat_any _ _ (by rw [cn_wide, cn_wide, E_g0.out, E_s0.out]) _).mono ?_
  rintro e w7 ⟨rfl, hd⟩
  have hb : Below w6.heap.size w6 w7 := (below_drewN (Below.refl _ _) _).trans hd.below; clear hd
  replace x0 := x0.below hb
  replace x1 := x1.below hb
  replace A0 := A0.below hb
  replace A1 := A1.below hb
  have z7 : w6.heap.size ≤ w7.heap.size := hb.size
  have b7 := bthen b6 hb; clear b6
  clear hb
  go_wp2_with fail
  refine (I_to _ a0 c0 l0 A0 hn0).mono ?_
  rintro e w8 ⟨p_t0, q_t0, rfl, t0, hb⟩
  replace x0 := x0.below hb
  replace x1 := x1.below hb
  replace A0 := A0.below hb
  replace A1 := A1.below hb
  have z8 : w7.heap.size ≤ w8.heap.size := hb.size
  have b8 := bthen b7 hb; clear b7
  clear hb
  go_wp2_with fail
  refine (I_eq _ x0 t0 rfl hn0).mono ?_
  rintro e w9 ⟨rfl, hb⟩
  replace x0 := x0.below hb
  replace x1 := x1.below hb
  replace t0 := t0.below hb
  replace A0 := A0.below hb
  replace A1 := A1.below hb
  have z9 : w8.heap.size ≤ w9.heap.size := hb.size
  have b9 := bthen b8 hb; clear b8
  clear hb
  clear t0
  go_wp2_with fail
  refine (I_to _ a1 c1 l1 A1 hn1).mono ?_
  rintro e w10 ⟨p_t1, q_t1, rfl, t1, hb⟩
  replace x0 := x0.below hb
  replace x1 := x1.below hb
  replace A0 := A0.below hb
  replace A1 := A1.below hb
  have z10 : w9.heap.size ≤ w10.heap.size := hb.size
  have b10 := bthen b9 hb; clear b9
  clear hb
  go_wp2_with fail
  refine (I_eq _ x1 t1 rfl hn1).mono ?_
  rintro e w11 ⟨rfl, hb⟩
  replace x0 := x0.below hb
  replace x1 := x1.below hb
  replace t1 := t1.below hb
  replace A0 := A0.below hb
  replace A1 := A1.below hb
  have z11 : w10.heap.size ≤ w11.heap.size := hb.size
  have b11 := bthen b10 hb; clear b10
  clear hb
  clear t1
  go_wp2
  go_ret
  exact ⟨rfl, b11⟩
end Go.Proofs.Ytbcpjjbfkeicaac
