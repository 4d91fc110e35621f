/- The law of the loss of a label, walked. No condition. -/
import Derived.Test.YtaocilimggpdjaaEn4
namespace Go.Proofs.Ytaocilimggpdjaa
open Go Go.RowKit
set_option linter.unusedVariables false
set_option maxHeartbeats 8000000 in
set_option maxRecDepth 100000 in
theorem fnExactLossEntropy_walk (w : World) (a0 : Option Addr) (c0 : Nat) (l0 : List Nat) (A0 : F32s w a0 c0 l0) (a1 : Int) (A1 : (Lit.int .i64 a1).wf = true) :
    Calls Try.prog 4 #[.slice a0 l0.length c0, .int .i64 a1] w fun e w' => e = .returned (.bool true) ∧ Below w.heap.size w w' := by
  by_cases hn0 : l0.length ≤ 1048576
  rotate_left
  · have hm := A0.len; have hm2 := A0.cap; unfold maxLen at hm2
    go_enter Try.func4, Try.ntmps4
    go_wp2
    go_ret
    exact ⟨rfl, Below.refl _ _⟩
  go_enter Try.func4, Try.ntmps4
  have B0 := A0
  go_wp2_with fail
  refine (F_to _ a0 c0 l0 A0 hn0).mono ?_
  rintro e w1 ⟨p_t0, q_t0, rfl, t0, hb⟩
  replace A0 := A0.below hb
  have z1 : w.heap.size ≤ w1.heap.size := hb.size
  have b1 : Below w.heap.size w w1 := hb
  clear hb
  go_wp2_with fail
  refine (spec_LossEntropy _ _ _ l0 t0.arg a1).mono ?_
  rintro e w2 ⟨v_s0, ad_s1, n_s1, cp_s1, y_s1, v_s2, rfl, e_s0, s1, e_s1, ns1, e_s2, hb⟩
  have E_s0 := Lib.hid e_s0; clear e_s0
  have E_s1 := Lib.hid e_s1; clear e_s1
  have E_s2 := Lib.hid e_s2; clear e_s2
  replace t0 := t0.below hb
  replace A0 := A0.below hb
  have z2 : w1.heap.size ≤ w2.heap.size := hb.size
  have b2 := bthen b1 hb; clear b1
  clear hb
  clear t0
  go_wp2_with fail
  refine (F_to _ a0 c0 l0 A0 hn0).mono ?_
  rintro e w3 ⟨p_x0, q_x0, rfl, x0, hb⟩
  replace s1 := s1.below hb
  replace A0 := A0.below hb
  have z3 : w2.heap.size ≤ w3.heap.size := hb.size
  have b3 := bthen b2 hb; clear b2
  clear hb
  go_wp2_with fail
  refine (impl_LossEntropy _ _ _ l0 x0.arg a1).mono ?_
  rintro e w4 ⟨v_g0, ad_g1, n_g1, cp_g1, y_g1, v_g2, rfl, e_g0, g1, e_g1, ng1, e_g2, hb⟩
  have E_g0 := Lib.hid e_g0; clear e_g0
  have E_g1 := Lib.hid e_g1; clear e_g1
  have E_g2 := Lib.hid e_g2; clear e_g2
  replace s1 := s1.below hb
  replace x0 := x0.below hb
  replace A0 := A0.below hb
  have z4 : w3.heap.size ≤ w4.heap.size := hb.size
  have b4 := bthen b3 hb; clear b3
  clear hb
  obtain rfl : v_s2 = v_g2 := E_s2.out.trans E_g2.out.symm
  go_wp2_with fail
  refine (sameFloat_any _ _ (by rw [cn_wide, cn_wide, E_g0.out, E_s0.out]) _).mono ?_
  rintro e w5 ⟨rfl, hd⟩
  have hb : Below w4.heap.size w4 w5 := (below_drewN (Below.refl _ _) _).trans hd.below; clear hd
  replace s1 := s1.below hb
  replace x0 := x0.below hb
  replace g1 := g1.below hb
  replace A0 := A0.below hb
  have z5 : w4.heap.size ≤ w5.heap.size := hb.size
  have b5 := bthen b4 hb; clear b4
  clear hb
  go_wp2_with fail
  refine (F_eq _ g1 s1 (by rw [E_g1.out, E_s1.out]) ng1).mono ?_
  rintro e w6 ⟨rfl, hb⟩
  replace s1 := s1.below hb
  replace x0 := x0.below hb
  replace g1 := g1.below hb
  replace A0 := A0.below hb
  have z6 : w5.heap.size ≤ w6.heap.size := hb.size
  have b6 := bthen b5 hb; clear b5
  clear hb
  go_wp2_with fail
  refine (F_to _ a0 c0 l0 A0 hn0).mono ?_
  rintro e w7 ⟨p_t0, q_t0, rfl, t0, hb⟩
  replace s1 := s1.below hb
  replace x0 := x0.below hb
  replace g1 := g1.below hb
  replace A0 := A0.below hb
  have z7 : w6.heap.size ≤ w7.heap.size := hb.size
  have b7 := bthen b6 hb; clear b6
  clear hb
  go_wp2_with fail
  refine (F_eq _ x0 t0 rfl hn0).mono ?_
  rintro e w8 ⟨rfl, hb⟩
  replace s1 := s1.below hb
  replace x0 := x0.below hb
  replace g1 := g1.below hb
  replace t0 := t0.below hb
  replace A0 := A0.below hb
  have z8 : w7.heap.size ≤ w8.heap.size := hb.size
  have b8 := bthen b7 hb; clear b7
  clear hb
  clear t0
  go_wp2_with fail
  refine (F_mark _ (1) x0 hn0 (by omega)).mono ?_
  rintro e w9 ⟨rfl, hr, ht⟩
  replace s1 := s1.touch ht (by omega)
  replace g1 := g1.touch ht (by omega)
  clear x0; have x0 := hr; clear hr
  have z9 : w8.heap.size ≤ w9.heap.size := ht.size
  have b9 := touch_below b8 ht (by omega); clear b8 ht
  replace A0 := B0.below b9
  go_wp2_with fail
  refine (sameFloat_any _ _ (by rw [cn_wide, cn_wide, E_g0.out, E_s0.out]) _).mono ?_
  rintro e w10 ⟨rfl, hd⟩
  have hb : Below w9.heap.size w9 w10 := (below_drewN (Below.refl _ _) _).trans hd.below; clear hd
  replace s1 := s1.below hb
  replace x0 := x0.below hb
  replace g1 := g1.below hb
  replace A0 := A0.below hb
  have z10 : w9.heap.size ≤ w10.heap.size := hb.size
  have b10 := bthen b9 hb; clear b9
  clear hb
  go_wp2_with fail
  refine (F_eq _ g1 s1 (by rw [E_g1.out, E_s1.out]) ng1).mono ?_
  rintro e w11 ⟨rfl, hb⟩
  replace s1 := s1.below hb
  replace x0 := x0.below hb
  replace g1 := g1.below hb
  replace A0 := A0.below hb
  have z11 : w10.heap.size ≤ w11.heap.size := hb.size
  have b11 := bthen b10 hb; clear b10
  clear hb
  clear x0
  go_wp2_with fail
  refine (F_mark _ (1) g1 ng1 (by omega)).mono ?_
  rintro e w12 ⟨rfl, hr, ht⟩
  replace s1 := s1.touch ht (by omega)
  clear g1; have g1 := hr; clear hr
  have z12 : w11.heap.size ≤ w12.heap.size := ht.size
  have b12 := touch_below b11 ht (by omega); clear b11 ht
  replace A0 := B0.below b12
  go_wp2_with fail
  refine (F_held _ (1) g1 ng1 (by omega)).mono ?_
  rintro e we ⟨rfl, rfl⟩
  go_wp2_with fail
  refine (F_to _ a0 c0 l0 A0 hn0).mono ?_
  rintro e w13 ⟨p_t0, q_t0, rfl, t0, hb⟩
  replace s1 := s1.below hb
  replace g1 := g1.below hb
  replace A0 := A0.below hb
  have z13 : w12.heap.size ≤ w13.heap.size := hb.size
  have b13 := bthen b12 hb; clear b12
  clear hb
  go_wp2_with fail
  refine (impl_LossEntropy _ _ _ l0 t0.arg a1).mono ?_
  rintro e w14 ⟨v_h0, ad_h1, n_h1, cp_h1, y_h1, v_h2, rfl, e_h0, h1, e_h1, nh1, e_h2, hb⟩
  have E_h0 := Lib.hid e_h0; clear e_h0
  have E_h1 := Lib.hid e_h1; clear e_h1
  have E_h2 := Lib.hid e_h2; clear e_h2
  replace s1 := s1.below hb
  replace g1 := g1.below hb
  replace t0 := t0.below hb
  replace A0 := A0.below hb
  have z14 : w13.heap.size ≤ w14.heap.size := hb.size
  have b14 := bthen b13 hb; clear b13
  clear hb
  obtain rfl : v_s2 = v_h2 := E_s2.out.trans E_h2.out.symm
  go_wp2_with fail
  refine (sameFloat_any _ _ (by rw [cn_wide, cn_wide, E_h0.out, E_s0.out]) _).mono ?_
  rintro e w15 ⟨rfl, hd⟩
  have hb : Below w14.heap.size w14 w15 := (below_drewN (Below.refl _ _) _).trans hd.below; clear hd
  replace s1 := s1.below hb
  replace g1 := g1.below hb
  replace t0 := t0.below hb
  replace h1 := h1.below hb
  replace A0 := A0.below hb
  have z15 : w14.heap.size ≤ w15.heap.size := hb.size
  have b15 := bthen b14 hb; clear b14
  clear hb
  go_wp2_with fail
  refine (F_eq _ h1 s1 (by rw [E_h1.out, E_s1.out]) nh1).mono ?_
  rintro e w16 ⟨rfl, hb⟩
  replace s1 := s1.below hb
  replace g1 := g1.below hb
  replace t0 := t0.below hb
  replace h1 := h1.below hb
  replace A0 := A0.below hb
  have z16 : w15.heap.size ≤ w16.heap.size := hb.size
  have b16 := bthen b15 hb; clear b15
  clear hb
  go_wp2_with fail
  refine (F_held _ (1) g1 ng1 (by omega)).mono ?_
  rintro e we ⟨rfl, rfl⟩
  go_wp2
  go_ret
  exact ⟨rfl, b16⟩
end Go.Proofs.Ytaocilimggpdjaa
