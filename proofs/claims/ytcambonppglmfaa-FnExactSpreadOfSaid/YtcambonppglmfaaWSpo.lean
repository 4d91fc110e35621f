/- The law of SpreadOf, walked. No condition. -/
import Derived.Test.YtcambonppglmfaaSpo
namespace Go.Proofs.Ytcambonppglmfaa
open Go Go.RowKit
set_option linter.unusedVariables false
set_option maxHeartbeats 8000000 in
set_option maxRecDepth 100000 in
theorem fnExactSpreadOf_walk (w : World) (a0 : Option Addr) (c0 : Nat) (l0 : List Nat) (A0 : F32s w a0 c0 l0) :
    Calls Try.prog 3 #[.slice a0 l0.length c0] w fun e w' => e = .returned (.bool true) ∧ Below w.heap.size w w' := by
  by_cases hn0 : l0.length ≤ 1048576
  rotate_left
  · have hm := A0.len; have hm2 := A0.cap; unfold maxLen at hm2
    go_enter Try.func3, Try.ntmps3
    go_wp2
    go_ret
    exact ⟨rfl, Below.refl _ _⟩
  go_enter Try.func3, Try.ntmps3
  have B0 := A0
  go_wp2_with fail
  refine (F_to _ a0 c0 l0 A0 hn0).mono ?_
  rintro e w1 ⟨p_t0, q_t0, rfl, t0, hb⟩
  replace A0 := A0.below hb
  have z1 : w.heap.size ≤ w1.heap.size := hb.size
  have b1 : Below w.heap.size w w1 := hb
  clear hb
  go_wp2_with fail
  refine (spec_SpreadOf _ _ _ l0 t0.arg).mono ?_
  rintro e w2 ⟨v_s0, v_s1, rfl, e_s0, e_s1, hb⟩
  have E_s0 := Lib.hid e_s0; clear e_s0
  have E_s1 := Lib.hid e_s1; clear e_s1
  replace t0 := t0.below hb
  replace A0 := A0.below hb
  have z2 : w1.heap.size ≤ w2.heap.size := hb.size
  have b2 := bthen b1 hb; clear b1
  clear hb
  clear t0
  go_wp2_with fail
  refine (F_to _ a0 c0 l0 A0 hn0).mono ?_
  rintro e w3 ⟨p_x0, q_x0, rfl, x0, hb⟩
  replace A0 := A0.below hb
  have z3 : w2.heap.size ≤ w3.heap.size := hb.size
  have b3 := bthen b2 hb; clear b2
  clear hb
  go_wp2_with fail
  refine (impl_SpreadOf _ _ _ l0 x0.arg).mono ?_
  rintro e w4 ⟨v_g0, v_g1, rfl, e_g0, e_g1, hb⟩
  have E_g0 := Lib.hid e_g0; clear e_g0
  have E_g1 := Lib.hid e_g1; clear e_g1
  replace x0 := x0.below hb
  replace A0 := A0.below hb
  have z4 : w3.heap.size ≤ w4.heap.size := hb.size
  have b4 := bthen b3 hb; clear b3
  clear hb
  obtain rfl : v_s1 = v_g1 := E_s1.out.trans E_g1.out.symm
  go_wp2_with fail
  refine (sameFloat_any _ _ (by rw [cn_wide, cn_wide, E_g0.out, E_s0.out]) _).mono ?_
  rintro e w5 ⟨rfl, hd⟩
  have hb : Below w4.heap.size w4 w5 := (below_drewN (Below.refl _ _) _).trans hd.below; clear hd
  replace x0 := x0.below hb
  replace A0 := A0.below hb
  have z5 : w4.heap.size ≤ w5.heap.size := hb.size
  have b5 := bthen b4 hb; clear b4
  clear hb
  go_wp2_with fail
  refine (F_to _ a0 c0 l0 A0 hn0).mono ?_
  rintro e w6 ⟨p_t0, q_t0, rfl, t0, hb⟩
  replace x0 := x0.below hb
  replace A0 := A0.below hb
  have z6 : w5.heap.size ≤ w6.heap.size := hb.size
  have b6 := bthen b5 hb; clear b5
  clear hb
  go_wp2_with fail
  refine (F_eq _ x0 t0 rfl hn0).mono ?_
  rintro e w7 ⟨rfl, hb⟩
  replace x0 := x0.below hb
  replace t0 := t0.below hb
  replace A0 := A0.below hb
  have z7 : w6.heap.size ≤ w7.heap.size := hb.size
  have b7 := bthen b6 hb; clear b6
  clear hb
  clear t0
  go_wp2
  go_ret
  exact ⟨rfl, b7⟩
end Go.Proofs.Ytcambonppglmfaa
