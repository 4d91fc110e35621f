/- The law of codes, walked. No condition. -/
import Derived.Test.YtlalocjfjnghmaaCo4
namespace Go.Proofs.Ytlalocjfjnghmaa
open Go Go.RowKit
set_option linter.unusedVariables false
set_option maxHeartbeats 8000000 in
set_option maxRecDepth 100000 in
theorem fnExactCodesOf_walk (w : World) (a0 : Option Addr) (c0 : Nat) (l0 : List Nat) (A0 : F32s w a0 c0 l0) (a1 : Nat) (A1 : a1 < 4294967296) :
    Calls Try.prog 4 #[.slice a0 l0.length c0, .float .f32 a1] w fun e w' => e = .returned (.bool true) ∧ Below w.heap.size w w' := by
  by_cases hn0 : l0.length ≤ 1048576
  rotate_left
  · have hm := A0.len; have hm2 := A0.cap; unfold maxLen at hm2
    go_enter Try.func4, Try.ntmps4
    go_wp2
    go_ret
    exact ⟨rfl, Below.refl _ _⟩
  go_enter Try.func4, Try.ntmps4
  have B0 := A0
  go_wp2_with fail
  refine (F_to _ a0 c0 l0 A0 hn0).mono ?_
  rintro e w1 ⟨p_t0, q_t0, rfl, t0, hb⟩
  replace A0 := A0.below hb
  have z1 : w.heap.size ≤ w1.heap.size := hb.size
  have b1 : Below w.heap.size w w1 := hb
  clear hb
  go_wp2_with fail
  refine (spec_CodesOf _ _ _ l0 t0.arg a1 A1).mono ?_
  rintro e w2 ⟨ad_s0, n_s0, cp_s0, y_s0, v_s1, rfl, s0, e_s0, ns0, e_s1, hb⟩
  have E_s0 := Lib.hid e_s0; clear e_s0
  have E_s1 := Lib.hid e_s1; clear e_s1
  replace t0 := t0.below hb
  replace A0 := A0.below hb
  have z2 : w1.heap.size ≤ w2.heap.size := hb.size
  have b2 := bthen b1 hb; clear b1
  clear hb
  clear t0
  go_wp2_with fail
  refine (F_to _ a0 c0 l0 A0 hn0).mono ?_
  rintro e w3 ⟨p_x0, q_x0, rfl, x0, hb⟩
  replace s0 := s0.below hb
  replace A0 := A0.below hb
  have z3 : w2.heap.size ≤ w3.heap.size := hb.size
  have b3 := bthen b2 hb; clear b2
  clear hb
  go_wp2_with fail
  refine (impl_CodesOf _ _ _ l0 x0.arg a1 A1).mono ?_
  rintro e w4 ⟨ad_g0, n_g0, cp_g0, y_g0, v_g1, rfl, g0, e_g0, ng0, e_g1, hb⟩
  have E_g0 := Lib.hid e_g0; clear e_g0
  have E_g1 := Lib.hid e_g1; clear e_g1
  replace s0 := s0.below hb
  replace x0 := x0.below hb
  replace A0 := A0.below hb
  have z4 : w3.heap.size ≤ w4.heap.size := hb.size
  have b4 := bthen b3 hb; clear b3
  clear hb
  obtain rfl : v_s1 = v_g1 := E_s1.out.trans E_g1.out.symm
  go_wp2_with fail
  refine (I_eq _ g0 s0 (by rw [E_g0.out, E_s0.out]) ng0).mono ?_
  rintro e w5 ⟨rfl, hb⟩
  replace s0 := s0.below hb
  replace x0 := x0.below hb
  replace g0 := g0.below hb
  replace A0 := A0.below hb
  have z5 : w4.heap.size ≤ w5.heap.size := hb.size
  have b5 := bthen b4 hb; clear b4
  clear hb
  go_wp2_with fail
  refine (F_to _ a0 c0 l0 A0 hn0).mono ?_
  rintro e w6 ⟨p_t0, q_t0, rfl, t0, hb⟩
  replace s0 := s0.below hb
  replace x0 := x0.below hb
  replace g0 := g0.below hb
  replace A0 := A0.below hb
  have z6 : w5.heap.size ≤ w6.heap.size := hb.size
  have b6 := bthen b5 hb; clear b5
  clear hb
  go_wp2_with fail
  refine (F_eq _ x0 t0 rfl hn0).mono ?_
  rintro e w7 ⟨rfl, hb⟩
  replace s0 := s0.below hb
  replace x0 := x0.below hb
  replace g0 := g0.below hb
  replace t0 := t0.below hb
  replace A0 := A0.below hb
  have z7 : w6.heap.size ≤ w7.heap.size := hb.size
  have b7 := bthen b6 hb; clear b6
  clear hb
  clear t0
  go_wp2_with fail
  refine (F_mark _ (1) x0 hn0 (by omega)).mono ?_
  rintro e w8 ⟨rfl, hr, ht⟩
  replace s0 := s0.touch ht (by omega)
  replace g0 := g0.touch ht (by omega)
  clear x0; have x0 := hr; clear hr
  have z8 : w7.heap.size ≤ w8.heap.size := ht.size
  have b8 := touch_below b7 ht (by omega); clear b7 ht
  replace A0 := B0.below b8
  go_wp2_with fail
  refine (I_eq _ g0 s0 (by rw [E_g0.out, E_s0.out]) ng0).mono ?_
  rintro e w9 ⟨rfl, hb⟩
  replace s0 := s0.below hb
  replace x0 := x0.below hb
  replace g0 := g0.below hb
  replace A0 := A0.below hb
  have z9 : w8.heap.size ≤ w9.heap.size := hb.size
  have b9 := bthen b8 hb; clear b8
  clear hb
  clear x0
  go_wp2_with fail
  refine (I_mark _ (1) g0 ng0 (by omega)).mono ?_
  rintro e w10 ⟨rfl, hr, ht⟩
  replace s0 := s0.touch ht (by omega)
  clear g0; have g0 := hr; clear hr
  have z10 : w9.heap.size ≤ w10.heap.size := ht.size
  have b10 := touch_below b9 ht (by omega); clear b9 ht
  replace A0 := B0.below b10
  go_wp2_with fail
  refine (I_held _ (1) g0 ng0 (by omega)).mono ?_
  rintro e we ⟨rfl, rfl⟩
  go_wp2_with fail
  refine (F_to _ a0 c0 l0 A0 hn0).mono ?_
  rintro e w11 ⟨p_t0, q_t0, rfl, t0, hb⟩
  replace s0 := s0.below hb
  replace g0 := g0.below hb
  replace A0 := A0.below hb
  have z11 : w10.heap.size ≤ w11.heap.size := hb.size
  have b11 := bthen b10 hb; clear b10
  clear hb
  go_wp2_with fail
  refine (impl_CodesOf _ _ _ l0 t0.arg a1 A1).mono ?_
  rintro e w12 ⟨ad_h0, n_h0, cp_h0, y_h0, v_h1, rfl, h0, e_h0, nh0, e_h1, hb⟩
  have E_h0 := Lib.hid e_h0; clear e_h0
  have E_h1 := Lib.hid e_h1; clear e_h1
  replace s0 := s0.below hb
  replace g0 := g0.below hb
  replace t0 := t0.below hb
  replace A0 := A0.below hb
  have z12 : w11.heap.size ≤ w12.heap.size := hb.size
  have b12 := bthen b11 hb; clear b11
  clear hb
  obtain rfl : v_s1 = v_h1 := E_s1.out.trans E_h1.out.symm
  go_wp2_with fail
  refine (I_eq _ h0 s0 (by rw [E_h0.out, E_s0.out]) nh0).mono ?_
  rintro e w13 ⟨rfl, hb⟩
  replace s0 := s0.below hb
  replace g0 := g0.below hb
  replace t0 := t0.below hb
  replace h0 := h0.below hb
  replace A0 := A0.below hb
  have z13 : w12.heap.size ≤ w13.heap.size := hb.size
  have b13 := bthen b12 hb; clear b12
  clear hb
  go_wp2_with fail
  refine (I_held _ (1) g0 ng0 (by omega)).mono ?_
  rintro e we ⟨rfl, rfl⟩
  go_wp2
  go_ret
  exact ⟨rfl, b13⟩
set_option maxHeartbeats 8000000 in
set_option maxRecDepth 100000 in
theorem fnExactCodesBy_walk (w : World) (a0 : Option Addr) (c0 : Nat) (l0 : List Nat) (A0 : F32s w a0 c0 l0) (a1 : Nat) (A1 : a1 < 4294967296) (a2 : Option Addr) (c2 : Nat) (l2 : List Int) (A2 : Ints .i64 w a2 c2 l2) :
    Calls Try.prog 5 #[.slice a0 l0.length c0, .float .f32 a1, .slice a2 l2.length c2] w fun e w' => e = .returned (.bool true) ∧ Below w.heap.size w w' := by
  by_cases hn0 : l0.length ≤ 1048576
  rotate_left
  · have hm := A0.len; have hm2 := A0.cap; unfold maxLen at hm2
    go_enter Try.func5, Try.ntmps5
    go_wp2
    go_ret
    exact ⟨rfl, Below.refl _ _⟩
  by_cases hn2 : l2.length ≤ 1048576
  rotate_left
  · have hm := A2.len; have hm2 := A2.cap; unfold maxLen at hm2
    go_enter Try.func5, Try.ntmps5
    go_wp2
    go_ret
    exact ⟨rfl, Below.refl _ _⟩
  go_enter Try.func5, Try.ntmps5
  have B0 := A0
  have B2 := A2
  go_wp2_with fail
  refine (F_to _ a0 c0 l0 A0 hn0).mono ?_
  rintro e w1 ⟨p_t0, q_t0, rfl, t0, hb⟩
  replace A0 := A0.below hb
  replace A2 := A2.below hb
  have z1 : w.heap.size ≤ w1.heap.size := hb.size
  have b1 : Below w.heap.size w w1 := hb
  clear hb
  go_wp2_with fail
  refine (I_to _ a2 c2 l2 A2 hn2).mono ?_
  rintro e w2 ⟨p_t2, q_t2, rfl, t2, hb⟩
  replace t0 := t0.below hb
  replace A0 := A0.below hb
  replace A2 := A2.below hb
  have z2 : w1.heap.size ≤ w2.heap.size := hb.size
  have b2 := bthen b1 hb; clear b1
  clear hb
  go_wp2_with fail
  refine (spec_CodesBy _ _ _ l0 t0.arg a1 _ _ l2 t2.arg A1 hn2).mono ?_
  rintro e w3 ⟨ad_s0, n_s0, cp_s0, y_s0, v_s1, rfl, s0, e_s0, ns0, e_s1, hb⟩
  have E_s0 := Lib.hid e_s0; clear e_s0
  have E_s1 := Lib.hid e_s1; clear e_s1
  replace t0 := t0.below hb
  replace t2 := t2.below hb
  replace A0 := A0.below hb
  replace A2 := A2.below hb
  have z3 : w2.heap.size ≤ w3.heap.size := hb.size
  have b3 := bthen b2 hb; clear b2
  clear hb
  clear t0
  clear t2
  go_wp2_with fail
  refine (F_to _ a0 c0 l0 A0 hn0).mono ?_
  rintro e w4 ⟨p_x0, q_x0, rfl, x0, hb⟩
  replace s0 := s0.below hb
  replace A0 := A0.below hb
  replace A2 := A2.below hb
  have z4 : w3.heap.size ≤ w4.heap.size := hb.size
  have b4 := bthen b3 hb; clear b3
  clear hb
  go_wp2_with fail
  refine (I_to _ a2 c2 l2 A2 hn2).mono ?_
  rintro e w5 ⟨p_x2, q_x2, rfl, x2, hb⟩
  replace s0 := s0.below hb
  replace x0 := x0.below hb
  replace A0 := A0.below hb
  replace A2 := A2.below hb
  have z5 : w4.heap.size ≤ w5.heap.size := hb.size
  have b5 := bthen b4 hb; clear b4
  clear hb
  go_wp2_with fail
  refine (impl_CodesBy _ _ _ l0 x0.arg a1 _ _ l2 x2.arg A1 hn2).mono ?_
  rintro e w6 ⟨ad_g0, n_g0, cp_g0, y_g0, v_g1, rfl, g0, e_g0, ng0, e_g1, hb⟩
  have E_g0 := Lib.hid e_g0; clear e_g0
  have E_g1 := Lib.hid e_g1; clear e_g1
  replace s0 := s0.below hb
  replace x0 := x0.below hb
  replace x2 := x2.below hb
  replace A0 := A0.below hb
  replace A2 := A2.below hb
  have z6 : w5.heap.size ≤ w6.heap.size := hb.size
  have b6 := bthen b5 hb; clear b5
  clear hb
  obtain rfl : v_s1 = v_g1 := E_s1.out.trans E_g1.out.symm
  go_wp2_with fail
  refine (I_eq _ g0 s0 (by rw [E_g0.out, E_s0.out]) ng0).mono ?_
  rintro e w7 ⟨rfl, hb⟩
  replace s0 := s0.below hb
  replace x0 := x0.below hb
  replace x2 := x2.below hb
  replace g0 := g0.below hb
  replace A0 := A0.below hb
  replace A2 := A2.below hb
  have z7 : w6.heap.size ≤ w7.heap.size := hb.size
  have b7 := bthen b6 hb; clear b6
  clear hb
  go_wp2_with fail
  refine (F_to _ a0 c0 l0 A0 hn0).mono ?_
  rintro e w8 ⟨p_t0, q_t0, rfl, t0, hb⟩
  replace s0 := s0.below hb
  replace x0 := x0.below hb
  replace x2 := x2.below hb
  replace g0 := g0.below hb
  replace A0 := A0.below hb
  replace A2 := A2.below hb
  have z8 : w7.heap.size ≤ w8.heap.size := hb.size
  have b8 := bthen b7 hb; clear b7
  clear hb
  go_wp2_with fail
  refine (F_eq _ x0 t0 rfl hn0).mono ?_
  rintro e w9 ⟨rfl, hb⟩
  replace s0 := s0.below hb
  replace x0 := x0.below hb
  replace x2 := x2.below hb
  replace g0 := g0.below hb
  replace t0 := t0.below hb
  replace A0 := A0.below hb
  replace A2 := A2.below hb
  have z9 : w8.heap.size ≤ w9.heap.size := hb.size
  have b9 := bthen b8 hb; clear b8
  clear hb
  clear t0
  go_wp2_with fail
  refine (I_to _ a2 c2 l2 A2 hn2).mono ?_
  rintro e w10 ⟨p_t2, q_t2, rfl, t2, hb⟩
  replace s0 := s0.below hb
  replace x0 := x0.below hb
  replace x2 := x2.below hb
  replace g0 := g0.below hb
  replace A0 := A0.below hb
  replace A2 := A2.below hb
  have z10 : w9.heap.size ≤ w10.heap.size := hb.size
  have b10 := bthen b9 hb; clear b9
  clear hb
  go_wp2_with fail
  refine (I_eq _ x2 t2 rfl hn2).mono ?_
  rintro e w11 ⟨rfl, hb⟩
  replace s0 := s0.below hb
  replace x0 := x0.below hb
  replace x2 := x2.below hb
  replace g0 := g0.below hb
  replace t2 := t2.below hb
  replace A0 := A0.below hb
  replace A2 := A2.below hb
  have z11 : w10.heap.size ≤ w11.heap.size := hb.size
  have b11 := bthen b10 hb; clear b10
  clear hb
  clear t2
  go_wp2_with fail
  refine (F_mark _ (1) x0 hn0 (by omega)).mono ?_
  rintro e w12 ⟨rfl, hr, ht⟩
  replace s0 := s0.touch ht (by omega)
  replace x2 := x2.touch ht (by omega)
  replace g0 := g0.touch ht (by omega)
  clear x0; have x0 := hr; clear hr
  have z12 : w11.heap.size ≤ w12.heap.size := ht.size
  have b12 := touch_below b11 ht (by omega); clear b11 ht
  replace A0 := B0.below b12
  replace A2 := B2.below b12
  go_wp2_with fail
  refine (I_mark _ (1 + l0.length) x2 hn2 (by omega)).mono ?_
  rintro e w13 ⟨rfl, hr, ht⟩
  replace s0 := s0.touch ht (by omega)
  replace x0 := x0.touch ht (by omega)
  replace g0 := g0.touch ht (by omega)
  clear x2; have x2 := hr; clear hr
  have z13 : w12.heap.size ≤ w13.heap.size := ht.size
  have b13 := touch_below b12 ht (by omega); clear b12 ht
  replace A0 := B0.below b13
  replace A2 := B2.below b13
  go_wp2_with fail
  refine (I_eq _ g0 s0 (by rw [E_g0.out, E_s0.out]) ng0).mono ?_
  rintro e w14 ⟨rfl, hb⟩
  replace s0 := s0.below hb
  replace x0 := x0.below hb
  replace x2 := x2.below hb
  replace g0 := g0.below hb
  replace A0 := A0.below hb
  replace A2 := A2.below hb
  have z14 : w13.heap.size ≤ w14.heap.size := hb.size
  have b14 := bthen b13 hb; clear b13
  clear hb
  clear x0
  clear x2
  go_wp2_with fail
  refine (I_mark _ (1) g0 ng0 (by omega)).mono ?_
  rintro e w15 ⟨rfl, hr, ht⟩
  replace s0 := s0.touch ht (by omega)
  clear g0; have g0 := hr; clear hr
  have z15 : w14.heap.size ≤ w15.heap.size := ht.size
  have b15 := touch_below b14 ht (by omega); clear b14 ht
  replace A0 := B0.below b15
  replace A2 := B2.below b15
  go_wp2_with fail
  refine (I_held _ (1) g0 ng0 (by omega)).mono ?_
  rintro e we ⟨rfl, rfl⟩
  go_wp2_with fail
  refine (F_to _ a0 c0 l0 A0 hn0).mono ?_
  rintro e w16 ⟨p_t0, q_t0, rfl, t0, hb⟩
  replace s0 := s0.below hb
  replace g0 := g0.below hb
  replace A0 := A0.below hb
  replace A2 := A2.below hb
  have z16 : w15.heap.size ≤ w16.heap.size := hb.size
  have b16 := bthen b15 hb; clear b15
  clear hb
  go_wp2_with fail
  refine (I_to _ a2 c2 l2 A2 hn2).mono ?_
  rintro e w17 ⟨p_t2, q_t2, rfl, t2, hb⟩
  replace s0 := s0.below hb
  replace g0 := g0.below hb
  replace t0 := t0.below hb
  replace A0 := A0.below hb
  replace A2 := A2.below hb
  have z17 : w16.heap.size ≤ w17.heap.size := hb.size
  have b17 := bthen b16 hb; clear b16
  clear hb
  go_wp2_with fail
  refine (impl_CodesBy _ _ _ l0 t0.arg a1 _ _ l2 t2.arg A1 hn2).mono ?_
  rintro e w18 ⟨ad_h0, n_h0, cp_h0, y_h0, v_h1, rfl, h0, e_h0, nh0, e_h1, hb⟩
  have E_h0 := Lib.hid e_h0; clear e_h0
  have E_h1 := Lib.hid e_h1; clear e_h1
  replace s0 := s0.below hb
  replace g0 := g0.below hb
  replace t0 := t0.below hb
  replace t2 := t2.below hb
  replace A0 := A0.below hb
  replace A2 := A2.below hb
  have z18 : w17.heap.size ≤ w18.heap.size := hb.size
  have b18 := bthen b17 hb; clear b17
  clear hb
  obtain rfl : v_s1 = v_h1 := E_s1.out.trans E_h1.out.symm
  go_wp2_with fail
  refine (I_eq _ h0 s0 (by rw [E_h0.out, E_s0.out]) nh0).mono ?_
  rintro e w19 ⟨rfl, hb⟩
  replace s0 := s0.below hb
  replace g0 := g0.below hb
  replace t0 := t0.below hb
  replace t2 := t2.below hb
  replace h0 := h0.below hb
  replace A0 := A0.below hb
  replace A2 := A2.below hb
  have z19 : w18.heap.size ≤ w19.heap.size := hb.size
  have b19 := bthen b18 hb; clear b18
  clear hb
  go_wp2_with fail
  refine (I_held _ (1) g0 ng0 (by omega)).mono ?_
  rintro e we ⟨rfl, rfl⟩
  go_wp2
  go_ret
  exact ⟨rfl, b19⟩
end Go.Proofs.Ytlalocjfjnghmaa
