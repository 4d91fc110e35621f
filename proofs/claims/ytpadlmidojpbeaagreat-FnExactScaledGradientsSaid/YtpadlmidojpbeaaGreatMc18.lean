/- Joined texts 18: WScg. Each is told at its own head. No condition. -/
import Derived.Test.YtpadlmidojpbeaaGreatMc17
set_option linter.unusedVariables false
set_option linter.unusedSimpArgs false
/- x -/
namespace Go.Proofs.YtpadlmidojpbeaaGreat
open Go Go.RowKit
set_option maxHeartbeats 40000000 in
set_option maxRecDepth 100000 in
theorem fnExactScaledGradients_walk (w : World) (a0 : Option Addr) (c0 : Nat) (l0 : List LayD) (A0 : SeeR layR w a0 c0 l0) (r1_ k1_ : Int) (a1 : Option Addr) (c1 : Nat) (l1 : List Nat) (R1 : (Lit.int .i64 r1_).wf = true) (C1 : (Lit.int .i64 k1_).wf = true) (A1 : F32s w a1 c1 l1) (r2_ k2_ : Int) (a2 : Option Addr) (c2 : Nat) (l2 : List Nat) (R2 : (Lit.int .i64 r2_).wf = true) (C2 : (Lit.int .i64 k2_).wf = true) (A2 : F32s w a2 c2 l2) (a3 : Nat) (A3 : a3 < 4294967296) :
    Calls Tryz.prog 3 #[.agg #[.slice a0 l0.length c0], .agg #[.int .i64 r1_, .int .i64 k1_, .slice a1 l1.length c1], .agg #[.int .i64 r2_, .int .i64 k2_, .slice a2 l2.length c2], .float .f32 a3] w fun e w' => e = .returned (.bool true) ∧ Below w.heap.size w w' := by
  replace A0 := Lib.hid A0
  replace A1 := Lib.hid A1
  replace A2 := Lib.hid A2
  have B0 := A0
  have B1 := A1
  have B2 := A2
  obtain ⟨L0, hL0⟩ : ∃ L, L = leftBy LayD.n l0 1048576 := ⟨_, rfl⟩
  have KS0 := Lib.hid (fun W (h : SeeR layR W a0 c0 l0) => M_sz W a0 c0 l0 h 1048576 (by decide) (by decide))
  rw [← hL0] at KS0
  have HL0 := Lib.hid hL0; clear hL0
  go_enter Tryz.func3, Tryz.ntmps3
  go_wp2_with fail
  obtain ⟨w0, hw0⟩ : ∃ w0, w0 = (((w.alloc (.cells #[.slice a0 l0.length c0] 24)).alloc (.cells #[.int .i64 r1_, .int .i64 k1_, .slice a1 l1.length c1] 27)).alloc (.cells #[.int .i64 r2_, .int .i64 k2_, .slice a2 l2.length c2] 27)) := ⟨_, rfl⟩
  rw [← hw0]
  have hb : Below w.heap.size w w0 := by rw [hw0]; exact below3 w (.cells #[.slice a0 l0.length c0] 24) (.cells #[.int .i64 r1_, .int .i64 k1_, .slice a1 l1.length c1] 27) (.cells #[.int .i64 r2_, .int .i64 k2_, .slice a2 l2.length c2] 27)
  have BX0 : Hid (BoxN w0 w.heap.size [.slice a0 l0.length c0]) := Lib.hid (by rw [hw0]; exact ((BoxN.alloc w #[.slice a0 l0.length c0] 24).below (below1 _ (.cells #[.int .i64 r1_, .int .i64 k1_, .slice a1 l1.length c1] 27))).below (below1 _ (.cells #[.int .i64 r2_, .int .i64 k2_, .slice a2 l2.length c2] 27)))
  have BX1 : Hid (BoxN w0 (w.heap.size + 1) [.int .i64 r1_, .int .i64 k1_, .slice a1 l1.length c1]) := Lib.hid (by rw [hw0]; exact (BoxN.alloc2 w _ #[.int .i64 r1_, .int .i64 k1_, .slice a1 l1.length c1] 27).below (below1 _ (.cells #[.int .i64 r2_, .int .i64 k2_, .slice a2 l2.length c2] 27)))
  have BX2 : Hid (BoxN w0 (w.heap.size + 2) [.int .i64 r2_, .int .i64 k2_, .slice a2 l2.length c2]) := Lib.hid (by rw [hw0]; exact BoxN.alloc3 w _ _ #[.int .i64 r2_, .int .i64 k2_, .slice a2 l2.length c2] 27)
  have z0 : w.heap.size + 3 ≤ w0.heap.size := by rw [hw0]; simp
  clear hw0
  replace A0 := Lib.hid (A0.out.below hb)
  replace A1 := Lib.hid (A1.out.below hb)
  replace A2 := Lib.hid (A2.out.below hb)
  have b0 := Lib.hid hb; clear hb
  obtain ⟨-, BX0_0, -⟩ := BX0.out.one1
  obtain ⟨-, BX1_0, BX1_1, BX1_2, -⟩ := BX1.out.three
  obtain ⟨-, BX2_0, BX2_1, BX2_2, -⟩ := BX2.out.three
  refine (KS0.out _ A0.out).mono ?_
  rintro e w1 ⟨rfl, hb⟩
  clear BX0_0 BX1_0 BX1_1 BX1_2 BX2_0 BX2_1 BX2_2
  replace BX0 := Lib.hid (BX0.out.below hb)
  replace BX1 := Lib.hid (BX1.out.below hb)
  replace BX2 := Lib.hid (BX2.out.below hb)
  replace A0 := Lib.hid (A0.out.below hb)
  replace A1 := Lib.hid (A1.out.below hb)
  replace A2 := Lib.hid (A2.out.below hb)
  have z1 : w0.heap.size ≤ w1.heap.size := hb.size
  have b1 := Lib.hid (bthen b0.out hb); clear b0
  clear hb
  by_cases hp0 : 0 ≤ L0
  rotate_left
  · have hp0 : L0 < 0 := by omega
    go_wp2
    go_ret
    exact ⟨rfl, b1.out⟩
  have hS0 := left_boundsM HL0.out hp0 (by decide)
  have hn0 := hS0.1; have hq0 := hS0.2.1; have HI0 := Lib.hid hS0.2.2.1; have ht0 := hS0.2.2.2; clear hS0
  obtain ⟨L1, hL1⟩ : ∃ L : Int, L = if (l1.length : Int) ≤ L0 then L0 - l1.length else -1 := ⟨_, rfl⟩
  have KS1 := Lib.hid (fun W => T_sz W r1_ k1_ a1 l1.length c1 L0 (Nat.le_trans A1.out.len A1.out.cap) hp0 hq0)
  rw [← hL1] at KS1
  have HL1 := Lib.hid hL1; clear hL1
  obtain ⟨-, BX0_0, -⟩ := BX0.out.one1
  obtain ⟨-, BX1_0, BX1_1, BX1_2, -⟩ := BX1.out.three
  obtain ⟨-, BX2_0, BX2_1, BX2_2, -⟩ := BX2.out.three
  go_wp2_with fail
  refine (KS1.out _).mono ?_
  rintro e w2 ⟨rfl, hb⟩
  clear BX0_0 BX1_0 BX1_1 BX1_2 BX2_0 BX2_1 BX2_2
  replace BX0 := Lib.hid (BX0.out.below hb)
  replace BX1 := Lib.hid (BX1.out.below hb)
  replace BX2 := Lib.hid (BX2.out.below hb)
  replace A0 := Lib.hid (A0.out.below hb)
  replace A1 := Lib.hid (A1.out.below hb)
  replace A2 := Lib.hid (A2.out.below hb)
  have z2 : w1.heap.size ≤ w2.heap.size := hb.size
  have b2 := Lib.hid (bthen b1.out hb); clear b1
  clear hb
  by_cases hp1 : 0 ≤ L1
  rotate_left
  · have hp1 : L1 < 0 := by omega
    go_wp2
    go_ret
    exact ⟨rfl, b2.out⟩
  have hS1 := left_bound1 HL1.out hp1 (by omega)
  have hn1 := hS1.1; have hq1 := hS1.2; clear hS1
  obtain ⟨L2, hL2⟩ : ∃ L : Int, L = if (l2.length : Int) ≤ L1 then L1 - l2.length else -1 := ⟨_, rfl⟩
  have KS2 := Lib.hid (fun W => T_sz W r2_ k2_ a2 l2.length c2 L1 (Nat.le_trans A2.out.len A2.out.cap) hp1 hq1)
  rw [← hL2] at KS2
  have HL2 := Lib.hid hL2; clear hL2
  obtain ⟨-, BX0_0, -⟩ := BX0.out.one1
  obtain ⟨-, BX1_0, BX1_1, BX1_2, -⟩ := BX1.out.three
  obtain ⟨-, BX2_0, BX2_1, BX2_2, -⟩ := BX2.out.three
  go_wp2_with fail
  refine (KS2.out _).mono ?_
  rintro e w3 ⟨rfl, hb⟩
  clear BX0_0 BX1_0 BX1_1 BX1_2 BX2_0 BX2_1 BX2_2
  replace BX0 := Lib.hid (BX0.out.below hb)
  replace BX1 := Lib.hid (BX1.out.below hb)
  replace BX2 := Lib.hid (BX2.out.below hb)
  replace A0 := Lib.hid (A0.out.below hb)
  replace A1 := Lib.hid (A1.out.below hb)
  replace A2 := Lib.hid (A2.out.below hb)
  have z3 : w2.heap.size ≤ w3.heap.size := hb.size
  have b3 := Lib.hid (bthen b2.out hb); clear b2
  clear hb
  by_cases hp2 : 0 ≤ L2
  rotate_left
  · have hp2 : L2 < 0 := by omega
    go_wp2
    go_ret
    exact ⟨rfl, b3.out⟩
  have hS2 := left_bound1 HL2.out hp2 (by omega)
  have hn2 := hS2.1; have hq2 := hS2.2; clear hS2
  obtain ⟨-, BX0_0, -⟩ := BX0.out.one1
  obtain ⟨-, BX1_0, BX1_1, BX1_2, -⟩ := BX1.out.three
  obtain ⟨-, BX2_0, BX2_1, BX2_2, -⟩ := BX2.out.three
  go_wp2_with fail
  go_region_held3 (fun w' => w'.cell? ⟨w.heap.size, 0, none⟩ = some (.slice a0 l0.length c0) ∧ w'.cell? ⟨w.heap.size + 1, 0, none⟩ = some (.int .i64 r1_) ∧ w'.cell? ⟨w.heap.size + 1, 1, none⟩ = some (.int .i64 k1_) ∧ w'.cell? ⟨w.heap.size + 1, 2, none⟩ = some (.slice a1 l1.length c1) ∧ w'.cell? ⟨w.heap.size + 2, 0, none⟩ = some (.int .i64 r2_) ∧ w'.cell? ⟨w.heap.size + 2, 1, none⟩ = some (.int .i64 k2_) ∧ w'.cell? ⟨w.heap.size + 2, 2, none⟩ = some (.slice a2 l2.length c2)) (go_keep)
    (first
      | (((go_at_call 9); (refine (M_toD w3 a0 c0 l0 A0.out hn0 HI0.out).mono ?_); (rintro e w4 ⟨p_t0, q_t0, o_t0, rfl, he_t0, t0, hb⟩); (have E_t0 := Lib.hid he_t0); (have hlen_t0 : o_t0.length = l0.length := by have := congrArg List.length he_t0; simpa using this); (have N_t0 := Lib.hid hlen_t0; clear he_t0 hlen_t0); (clear BX0_0 BX1_0 BX1_1 BX1_2 BX2_0 BX2_1 BX2_2); (replace BX0 := Lib.hid (BX0.out.below hb)); (replace BX1 := Lib.hid (BX1.out.below hb)); (replace BX2 := Lib.hid (BX2.out.below hb)); (replace A0 := Lib.hid (A0.out.below hb)); (replace A1 := Lib.hid (A1.out.below hb)); (replace A2 := Lib.hid (A2.out.below hb)); (have z4 : w3.heap.size ≤ w4.heap.size := hb.size); (have b4 := Lib.hid (bthen b3.out hb); clear b3); (clear hb); (obtain ⟨-, BX0_0, -⟩ := BX0.out.one1); (obtain ⟨-, BX1_0, BX1_1, BX1_2, -⟩ := BX1.out.three); (obtain ⟨-, BX2_0, BX2_1, BX2_2, -⟩ := BX2.out.three)))
      | (((go_at_call 10); (with_reducible refine (T_to _ r1_ k1_ a1 c1 l1 A1.out hn1).mono ?_); (rintro e w5 ⟨p_t1, q_t1, rfl, t1, hb⟩); (clear BX0_0 BX1_0 BX1_1 BX1_2 BX2_0 BX2_1 BX2_2); (replace BX0 := Lib.hid (BX0.out.below hb)); (replace BX1 := Lib.hid (BX1.out.below hb)); (replace BX2 := Lib.hid (BX2.out.below hb)); (replace t0 := Lib.hid (t0.out.below hb)); (replace A0 := Lib.hid (A0.out.below hb)); (replace A1 := Lib.hid (A1.out.below hb)); (replace A2 := Lib.hid (A2.out.below hb)); (have z5 : w4.heap.size ≤ w5.heap.size := hb.size); (have b5 := Lib.hid (bthen b4.out hb); clear b4); (clear hb); (obtain ⟨-, BX0_0, -⟩ := BX0.out.one1); (obtain ⟨-, BX1_0, BX1_1, BX1_2, -⟩ := BX1.out.three); (obtain ⟨-, BX2_0, BX2_1, BX2_2, -⟩ := BX2.out.three)))
      | (((go_at_call 10); (with_reducible refine (T_to _ r2_ k2_ a2 c2 l2 A2.out hn2).mono ?_); (rintro e w6 ⟨p_t2, q_t2, rfl, t2, hb⟩); (clear BX0_0 BX1_0 BX1_1 BX1_2 BX2_0 BX2_1 BX2_2); (replace BX0 := Lib.hid (BX0.out.below hb)); (replace BX1 := Lib.hid (BX1.out.below hb)); (replace BX2 := Lib.hid (BX2.out.below hb)); (replace t0 := Lib.hid (t0.out.below hb)); (replace t1 := Lib.hid (t1.out.below hb)); (replace A0 := Lib.hid (A0.out.below hb)); (replace A1 := Lib.hid (A1.out.below hb)); (replace A2 := Lib.hid (A2.out.below hb)); (have z6 : w5.heap.size ≤ w6.heap.size := hb.size); (have b6 := Lib.hid (bthen b5.out hb); clear b5); (clear hb); (obtain ⟨-, BX0_0, -⟩ := BX0.out.one1); (obtain ⟨-, BX1_0, BX1_1, BX1_2, -⟩ := BX1.out.three); (obtain ⟨-, BX2_0, BX2_1, BX2_2, -⟩ := BX2.out.three)))
      | (((go_at_call 8); (have hK := spec_ScaledGradientsW w6 p_t0 q_t0 o_t0 t0.out (lens_ofM E_t0.out HI0.out) r1_ k1_ p_t1 q_t1 l1 t1.out hn1 R1 C1 r2_ k2_ p_t2 q_t2 l2 t2.out hn2 R2 C2 a3 A3); (rw [N_t0.out, E_t0.out] at hK); (have HK := Lib.hid hK; clear hK); (refine HK.out.mono ?_); (rintro e w7 ⟨ad_s0, n_s0, cp_s0, v_s1, v_s2, v_s3, y_s0, rfl, HO_s, hb⟩); (clear HK); (have Q_s0 := Lib.hid (congrArg Prod.fst HO_s.out.1.2.1)); (have Q_s1 := Lib.hid (congrArg Prod.snd HO_s.out.1.2.1)); (have V_s := Lib.hid HO_s.out.1.1.1); (have U_s := Lib.hid HO_s.out.1.1.2); (have M_s0 := Lib.hid (show n_s0 ≤ 3072 from scal_bound HO_s.out.2 HO_s.out.1.2.1)); (have s0 := Lib.hid HO_s.out.2; clear HO_s); (clear BX0_0 BX1_0 BX1_1 BX1_2 BX2_0 BX2_1 BX2_2); (replace BX0 := Lib.hid (BX0.out.below hb)); (replace BX1 := Lib.hid (BX1.out.below hb)); (replace BX2 := Lib.hid (BX2.out.below hb)); (replace t0 := Lib.hid (t0.out.below hb)); (replace t1 := Lib.hid (t1.out.below hb)); (replace t2 := Lib.hid (t2.out.below hb)); (replace A0 := Lib.hid (A0.out.below hb)); (replace A1 := Lib.hid (A1.out.below hb)); (replace A2 := Lib.hid (A2.out.below hb)); (have z7 : w6.heap.size ≤ w7.heap.size := hb.size); (have b7 := Lib.hid (bthen b6.out hb); clear b6); (clear hb); (obtain ⟨-, BX0_0, -⟩ := BX0.out.one1); (obtain ⟨-, BX1_0, BX1_1, BX1_2, -⟩ := BX1.out.three); (obtain ⟨-, BX2_0, BX2_1, BX2_2, -⟩ := BX2.out.three))))
  clear BX0_0 BX1_0 BX1_1 BX1_2 BX2_0 BX2_1 BX2_2
  try go_wp2_with fail
  clear t0
  try clear E_t0 N_t0
  clear t1
  try clear E_t1 N_t1
  clear t2
  try clear E_t2 N_t2
  obtain ⟨-, BX0_0, -⟩ := BX0.out.one1
  obtain ⟨-, BX1_0, BX1_1, BX1_2, -⟩ := BX1.out.three
  obtain ⟨-, BX2_0, BX2_1, BX2_2, -⟩ := BX2.out.three
  go_wp2_with fail
  refine (M_to _ a0 c0 l0 A0.out hn0 HI0.out).mono ?_
  rintro e w8 ⟨p_x0, q_x0, o_x0, rfl, he_x0, x0, hb⟩
  have E_x0 := Lib.hid he_x0
  have hlen_x0 : o_x0.length = l0.length := by have := congrArg List.length he_x0; simpa using this
  have N_x0 := Lib.hid hlen_x0; clear he_x0 hlen_x0
  clear BX0_0 BX1_0 BX1_1 BX1_2 BX2_0 BX2_1 BX2_2
  replace BX0 := Lib.hid (BX0.out.below hb)
  replace BX1 := Lib.hid (BX1.out.below hb)
  replace BX2 := Lib.hid (BX2.out.below hb)
  replace s0 := Lib.hid (s0.out.below hb)
  replace A0 := Lib.hid (A0.out.below hb)
  replace A1 := Lib.hid (A1.out.below hb)
  replace A2 := Lib.hid (A2.out.below hb)
  have z8 : w7.heap.size ≤ w8.heap.size := hb.size
  have b8 := Lib.hid (bthen b7.out hb); clear b7
  clear hb
  obtain ⟨-, BX0_0, -⟩ := BX0.out.one1
  obtain ⟨-, BX1_0, BX1_1, BX1_2, -⟩ := BX1.out.three
  obtain ⟨-, BX2_0, BX2_1, BX2_2, -⟩ := BX2.out.three
  go_upto_region 13 with fail
  obtain ⟨w9, hw0⟩ : ∃ W, W = w8.alloc (.cells #[.slice p_x0 l0.length q_x0] 35) := ⟨_, rfl⟩
  rw [← hw0]
  have hb : Below w8.heap.size w8 w9 := by rw [hw0]; exact below1 w8 (.cells #[.slice p_x0 l0.length q_x0] 35)
  clear BX0_0 BX1_0 BX1_1 BX1_2 BX2_0 BX2_1 BX2_2
  replace BX0 := Lib.hid (BX0.out.below hb)
  replace BX1 := Lib.hid (BX1.out.below hb)
  replace BX2 := Lib.hid (BX2.out.below hb)
  replace s0 := Lib.hid (s0.out.below hb)
  replace x0 := Lib.hid (x0.out.below hb)
  replace A0 := Lib.hid (A0.out.below hb)
  replace A1 := Lib.hid (A1.out.below hb)
  replace A2 := Lib.hid (A2.out.below hb)
  have z9 : w8.heap.size + 1 ≤ w9.heap.size := by rw [hw0]; simp
  have b9 := Lib.hid (bthen b8.out hb); clear b8
  clear hb
  have BXx0 : Hid (BoxN w9 w8.heap.size [.slice p_x0 l0.length q_x0]) := Lib.hid (by rw [hw0]; exact BoxN.alloc w8 #[.slice p_x0 l0.length q_x0] 35)
  clear hw0
  obtain ⟨-, BX0_0, -⟩ := BX0.out.one1
  obtain ⟨-, BX1_0, BX1_1, BX1_2, -⟩ := BX1.out.three
  obtain ⟨-, BX2_0, BX2_1, BX2_2, -⟩ := BX2.out.three
  obtain ⟨-, BXx0_0, -⟩ := BXx0.out.one1
  go_wp2_with fail
  refine (T_to _ r1_ k1_ a1 c1 l1 A1.out hn1).mono ?_
  rintro e w10 ⟨p_x1, q_x1, rfl, x1, hb⟩
  clear BX0_0 BX1_0 BX1_1 BX1_2 BX2_0 BX2_1 BX2_2 BXx0_0
  replace BX0 := Lib.hid (BX0.out.below hb)
  replace BX1 := Lib.hid (BX1.out.below hb)
  replace BX2 := Lib.hid (BX2.out.below hb)
  replace BXx0 := Lib.hid (BXx0.out.below hb)
  replace s0 := Lib.hid (s0.out.below hb)
  replace x0 := Lib.hid (x0.out.below hb)
  replace A0 := Lib.hid (A0.out.below hb)
  replace A1 := Lib.hid (A1.out.below hb)
  replace A2 := Lib.hid (A2.out.below hb)
  have z10 : w9.heap.size ≤ w10.heap.size := hb.size
  have b10 := Lib.hid (bthen b9.out hb); clear b9
  clear hb
  obtain ⟨-, BX0_0, -⟩ := BX0.out.one1
  obtain ⟨-, BX1_0, BX1_1, BX1_2, -⟩ := BX1.out.three
  obtain ⟨-, BX2_0, BX2_1, BX2_2, -⟩ := BX2.out.three
  obtain ⟨-, BXx0_0, -⟩ := BXx0.out.one1
  go_upto_region 14 with fail
  obtain ⟨w11, hw0⟩ : ∃ W, W = w10.alloc (.cells #[.int .i64 r1_, .int .i64 k1_, .slice p_x1 l1.length q_x1] 37) := ⟨_, rfl⟩
  rw [← hw0]
  have hb : Below w10.heap.size w10 w11 := by rw [hw0]; exact below1 w10 (.cells #[.int .i64 r1_, .int .i64 k1_, .slice p_x1 l1.length q_x1] 37)
  clear BX0_0 BX1_0 BX1_1 BX1_2 BX2_0 BX2_1 BX2_2 BXx0_0
  replace BX0 := Lib.hid (BX0.out.below hb)
  replace BX1 := Lib.hid (BX1.out.below hb)
  replace BX2 := Lib.hid (BX2.out.below hb)
  replace BXx0 := Lib.hid (BXx0.out.below hb)
  replace s0 := Lib.hid (s0.out.below hb)
  replace x0 := Lib.hid (x0.out.below hb)
  replace x1 := Lib.hid (x1.out.below hb)
  replace A0 := Lib.hid (A0.out.below hb)
  replace A1 := Lib.hid (A1.out.below hb)
  replace A2 := Lib.hid (A2.out.below hb)
  have z11 : w10.heap.size + 1 ≤ w11.heap.size := by rw [hw0]; simp
  have b11 := Lib.hid (bthen b10.out hb); clear b10
  clear hb
  have BXx1 : Hid (BoxN w11 w10.heap.size [.int .i64 r1_, .int .i64 k1_, .slice p_x1 l1.length q_x1]) := Lib.hid (by rw [hw0]; exact BoxN.alloc w10 #[.int .i64 r1_, .int .i64 k1_, .slice p_x1 l1.length q_x1] 37)
  clear hw0
  obtain ⟨-, BX0_0, -⟩ := BX0.out.one1
  obtain ⟨-, BX1_0, BX1_1, BX1_2, -⟩ := BX1.out.three
  obtain ⟨-, BX2_0, BX2_1, BX2_2, -⟩ := BX2.out.three
  obtain ⟨-, BXx0_0, -⟩ := BXx0.out.one1
  obtain ⟨-, BXx1_0, BXx1_1, BXx1_2, -⟩ := BXx1.out.three
  go_wp2_with fail
  refine (T_to _ r2_ k2_ a2 c2 l2 A2.out hn2).mono ?_
  rintro e w12 ⟨p_x2, q_x2, rfl, x2, hb⟩
  clear BX0_0 BX1_0 BX1_1 BX1_2 BX2_0 BX2_1 BX2_2 BXx0_0 BXx1_0 BXx1_1 BXx1_2
  replace BX0 := Lib.hid (BX0.out.below hb)
  replace BX1 := Lib.hid (BX1.out.below hb)
  replace BX2 := Lib.hid (BX2.out.below hb)
  replace BXx0 := Lib.hid (BXx0.out.below hb)
  replace BXx1 := Lib.hid (BXx1.out.below hb)
  replace s0 := Lib.hid (s0.out.below hb)
  replace x0 := Lib.hid (x0.out.below hb)
  replace x1 := Lib.hid (x1.out.below hb)
  replace A0 := Lib.hid (A0.out.below hb)
  replace A1 := Lib.hid (A1.out.below hb)
  replace A2 := Lib.hid (A2.out.below hb)
  have z12 : w11.heap.size ≤ w12.heap.size := hb.size
  have b12 := Lib.hid (bthen b11.out hb); clear b11
  clear hb
  obtain ⟨-, BX0_0, -⟩ := BX0.out.one1
  obtain ⟨-, BX1_0, BX1_1, BX1_2, -⟩ := BX1.out.three
  obtain ⟨-, BX2_0, BX2_1, BX2_2, -⟩ := BX2.out.three
  obtain ⟨-, BXx0_0, -⟩ := BXx0.out.one1
  obtain ⟨-, BXx1_0, BXx1_1, BXx1_2, -⟩ := BXx1.out.three
  go_upto_region 15 with fail
  obtain ⟨w13, hw0⟩ : ∃ W, W = w12.alloc (.cells #[.int .i64 r2_, .int .i64 k2_, .slice p_x2 l2.length q_x2] 37) := ⟨_, rfl⟩
  rw [← hw0]
  have hb : Below w12.heap.size w12 w13 := by rw [hw0]; exact below1 w12 (.cells #[.int .i64 r2_, .int .i64 k2_, .slice p_x2 l2.length q_x2] 37)
  clear BX0_0 BX1_0 BX1_1 BX1_2 BX2_0 BX2_1 BX2_2 BXx0_0 BXx1_0 BXx1_1 BXx1_2
  replace BX0 := Lib.hid (BX0.out.below hb)
  replace BX1 := Lib.hid (BX1.out.below hb)
  replace BX2 := Lib.hid (BX2.out.below hb)
  replace BXx0 := Lib.hid (BXx0.out.below hb)
  replace BXx1 := Lib.hid (BXx1.out.below hb)
  replace s0 := Lib.hid (s0.out.below hb)
  replace x0 := Lib.hid (x0.out.below hb)
  replace x1 := Lib.hid (x1.out.below hb)
  replace x2 := Lib.hid (x2.out.below hb)
  replace A0 := Lib.hid (A0.out.below hb)
  replace A1 := Lib.hid (A1.out.below hb)
  replace A2 := Lib.hid (A2.out.below hb)
  have z13 : w12.heap.size + 1 ≤ w13.heap.size := by rw [hw0]; simp
  have b13 := Lib.hid (bthen b12.out hb); clear b12
  clear hb
  have BXx2 : Hid (BoxN w13 w12.heap.size [.int .i64 r2_, .int .i64 k2_, .slice p_x2 l2.length q_x2]) := Lib.hid (by rw [hw0]; exact BoxN.alloc w12 #[.int .i64 r2_, .int .i64 k2_, .slice p_x2 l2.length q_x2] 37)
  clear hw0
  obtain ⟨-, BX0_0, -⟩ := BX0.out.one1
  obtain ⟨-, BX1_0, BX1_1, BX1_2, -⟩ := BX1.out.three
  obtain ⟨-, BX2_0, BX2_1, BX2_2, -⟩ := BX2.out.three
  obtain ⟨-, BXx0_0, -⟩ := BXx0.out.one1
  obtain ⟨-, BXx1_0, BXx1_1, BXx1_2, -⟩ := BXx1.out.three
  obtain ⟨-, BXx2_0, BXx2_1, BXx2_2, -⟩ := BXx2.out.three
  go_wp2_with fail
  have hK := impl_ScaledGradientsW w13 p_x0 q_x0 o_x0 x0.out (lens_ofM E_x0.out HI0.out) r1_ k1_ p_x1 q_x1 l1 x1.out hn1 R1 C1 r2_ k2_ p_x2 q_x2 l2 x2.out hn2 R2 C2 a3 A3
  rw [N_x0.out, E_x0.out] at hK
  have HK := Lib.hid hK; clear hK
  refine HK.out.mono ?_
  rintro e w14 ⟨ad_g0, n_g0, cp_g0, v_g1, v_g2, v_g3, y_g0, rfl, HO_g, hb⟩
  clear HK
  have Q_g0 := Lib.hid (congrArg Prod.fst HO_g.out.1.2.1)
  have Q_g1 := Lib.hid (congrArg Prod.snd HO_g.out.1.2.1)
  have V_g := Lib.hid HO_g.out.1.1.1
  have U_g := Lib.hid HO_g.out.1.1.2
  have M_g0 := Lib.hid (show n_g0 ≤ 3072 from scal_bound HO_g.out.2 HO_g.out.1.2.1)
  have g0 := Lib.hid HO_g.out.2; clear HO_g
  clear BX0_0 BX1_0 BX1_1 BX1_2 BX2_0 BX2_1 BX2_2 BXx0_0 BXx1_0 BXx1_1 BXx1_2 BXx2_0 BXx2_1 BXx2_2
  replace BX0 := Lib.hid (BX0.out.below hb)
  replace BX1 := Lib.hid (BX1.out.below hb)
  replace BX2 := Lib.hid (BX2.out.below hb)
  replace BXx0 := Lib.hid (BXx0.out.below hb)
  replace BXx1 := Lib.hid (BXx1.out.below hb)
  replace BXx2 := Lib.hid (BXx2.out.below hb)
  replace s0 := Lib.hid (s0.out.below hb)
  replace x0 := Lib.hid (x0.out.below hb)
  replace x1 := Lib.hid (x1.out.below hb)
  replace x2 := Lib.hid (x2.out.below hb)
  replace A0 := Lib.hid (A0.out.below hb)
  replace A1 := Lib.hid (A1.out.below hb)
  replace A2 := Lib.hid (A2.out.below hb)
  have z14 : w13.heap.size ≤ w14.heap.size := hb.size
  have b14 := Lib.hid (bthen b13.out hb); clear b13
  clear hb
  obtain rfl : v_s2 = v_g2 := U_s.out.trans U_g.out.symm
  obtain rfl : v_s3 = v_g3 := V_s.out.trans V_g.out.symm
  obtain ⟨-, BX0_0, -⟩ := BX0.out.one1
  obtain ⟨-, BX1_0, BX1_1, BX1_2, -⟩ := BX1.out.three
  obtain ⟨-, BX2_0, BX2_1, BX2_2, -⟩ := BX2.out.three
  obtain ⟨-, BXx0_0, -⟩ := BXx0.out.one1
  obtain ⟨-, BXx1_0, BXx1_1, BXx1_2, -⟩ := BXx1.out.three
  obtain ⟨-, BXx2_0, BXx2_1, BXx2_2, -⟩ := BXx2.out.three
  go_wp2_with fail
  refine (F_eq2 _ g0.out s0.out (by rw [Q_g0.out, Q_s0.out]) M_g0.out).mono ?_
  rintro e w15 ⟨rfl, hb⟩
  clear BX0_0 BX1_0 BX1_1 BX1_2 BX2_0 BX2_1 BX2_2 BXx0_0 BXx1_0 BXx1_1 BXx1_2 BXx2_0 BXx2_1 BXx2_2
  replace BX0 := Lib.hid (BX0.out.below hb)
  replace BX1 := Lib.hid (BX1.out.below hb)
  replace BX2 := Lib.hid (BX2.out.below hb)
  replace BXx0 := Lib.hid (BXx0.out.below hb)
  replace BXx1 := Lib.hid (BXx1.out.below hb)
  replace BXx2 := Lib.hid (BXx2.out.below hb)
  replace s0 := Lib.hid (s0.out.below hb)
  replace x0 := Lib.hid (x0.out.below hb)
  replace x1 := Lib.hid (x1.out.below hb)
  replace x2 := Lib.hid (x2.out.below hb)
  replace g0 := Lib.hid (g0.out.below hb)
  replace A0 := Lib.hid (A0.out.below hb)
  replace A1 := Lib.hid (A1.out.below hb)
  replace A2 := Lib.hid (A2.out.below hb)
  have z15 : w14.heap.size ≤ w15.heap.size := hb.size
  have b15 := Lib.hid (bthen b14.out hb); clear b14
  clear hb
  obtain ⟨-, BX0_0, -⟩ := BX0.out.one1
  obtain ⟨-, BX1_0, BX1_1, BX1_2, -⟩ := BX1.out.three
  obtain ⟨-, BX2_0, BX2_1, BX2_2, -⟩ := BX2.out.three
  obtain ⟨-, BXx0_0, -⟩ := BXx0.out.one1
  obtain ⟨-, BXx1_0, BXx1_1, BXx1_2, -⟩ := BXx1.out.three
  obtain ⟨-, BXx2_0, BXx2_1, BXx2_2, -⟩ := BXx2.out.three
  go_wp2_with fail
  refine (sameFloat_any _ _ (by rw [cn_wide, cn_wide, Q_g1.out, Q_s1.out]) _).mono ?_
  rintro e w16 ⟨rfl, hd⟩
  have hb : Below w15.heap.size w15 w16 := (below_drewN (Below.refl _ _) _).trans hd.below; clear hd
  clear BX0_0 BX1_0 BX1_1 BX1_2 BX2_0 BX2_1 BX2_2 BXx0_0 BXx1_0 BXx1_1 BXx1_2 BXx2_0 BXx2_1 BXx2_2
  replace BX0 := Lib.hid (BX0.out.below hb)
  replace BX1 := Lib.hid (BX1.out.below hb)
  replace BX2 := Lib.hid (BX2.out.below hb)
  replace BXx0 := Lib.hid (BXx0.out.below hb)
  replace BXx1 := Lib.hid (BXx1.out.below hb)
  replace BXx2 := Lib.hid (BXx2.out.below hb)
  replace s0 := Lib.hid (s0.out.below hb)
  replace x0 := Lib.hid (x0.out.below hb)
  replace x1 := Lib.hid (x1.out.below hb)
  replace x2 := Lib.hid (x2.out.below hb)
  replace g0 := Lib.hid (g0.out.below hb)
  replace A0 := Lib.hid (A0.out.below hb)
  replace A1 := Lib.hid (A1.out.below hb)
  replace A2 := Lib.hid (A2.out.below hb)
  have z16 : w15.heap.size ≤ w16.heap.size := hb.size
  have b16 := Lib.hid (bthen b15.out hb); clear b15
  clear hb
  obtain ⟨-, BX0_0, -⟩ := BX0.out.one1
  obtain ⟨-, BX1_0, BX1_1, BX1_2, -⟩ := BX1.out.three
  obtain ⟨-, BX2_0, BX2_1, BX2_2, -⟩ := BX2.out.three
  obtain ⟨-, BXx0_0, -⟩ := BXx0.out.one1
  obtain ⟨-, BXx1_0, BXx1_1, BXx1_2, -⟩ := BXx1.out.three
  obtain ⟨-, BXx2_0, BXx2_1, BXx2_2, -⟩ := BXx2.out.three
  go_wp2_with fail
  go_region_held3 (fun w' => w'.cell? ⟨w.heap.size, 0, none⟩ = some (.slice a0 l0.length c0) ∧ w'.cell? ⟨w.heap.size + 1, 0, none⟩ = some (.int .i64 r1_) ∧ w'.cell? ⟨w.heap.size + 1, 1, none⟩ = some (.int .i64 k1_) ∧ w'.cell? ⟨w.heap.size + 1, 2, none⟩ = some (.slice a1 l1.length c1) ∧ w'.cell? ⟨w.heap.size + 2, 0, none⟩ = some (.int .i64 r2_) ∧ w'.cell? ⟨w.heap.size + 2, 1, none⟩ = some (.int .i64 k2_) ∧ w'.cell? ⟨w.heap.size + 2, 2, none⟩ = some (.slice a2 l2.length c2) ∧ w'.cell? ⟨w8.heap.size, 0, none⟩ = some (.slice p_x0 l0.length q_x0) ∧ w'.cell? ⟨w10.heap.size, 0, none⟩ = some (.int .i64 r1_) ∧ w'.cell? ⟨w10.heap.size, 1, none⟩ = some (.int .i64 k1_) ∧ w'.cell? ⟨w10.heap.size, 2, none⟩ = some (.slice p_x1 l1.length q_x1) ∧ w'.cell? ⟨w12.heap.size, 0, none⟩ = some (.int .i64 r2_) ∧ w'.cell? ⟨w12.heap.size, 1, none⟩ = some (.int .i64 k2_) ∧ w'.cell? ⟨w12.heap.size, 2, none⟩ = some (.slice p_x2 l2.length q_x2)) (go_keep)
    (first
      | (((go_at_call 9); (refine (M_toD w16 a0 c0 l0 A0.out hn0 HI0.out).mono ?_); (rintro e w17 ⟨p_t0, q_t0, o_t0, rfl, he_t0, t0, hb⟩); (have E_t0 := Lib.hid he_t0); (have hlen_t0 : o_t0.length = l0.length := by have := congrArg List.length he_t0; simpa using this); (have N_t0 := Lib.hid hlen_t0; clear he_t0 hlen_t0); (clear BX0_0 BX1_0 BX1_1 BX1_2 BX2_0 BX2_1 BX2_2 BXx0_0 BXx1_0 BXx1_1 BXx1_2 BXx2_0 BXx2_1 BXx2_2); (replace BX0 := Lib.hid (BX0.out.below hb)); (replace BX1 := Lib.hid (BX1.out.below hb)); (replace BX2 := Lib.hid (BX2.out.below hb)); (replace BXx0 := Lib.hid (BXx0.out.below hb)); (replace BXx1 := Lib.hid (BXx1.out.below hb)); (replace BXx2 := Lib.hid (BXx2.out.below hb)); (replace s0 := Lib.hid (s0.out.below hb)); (replace x0 := Lib.hid (x0.out.below hb)); (replace x1 := Lib.hid (x1.out.below hb)); (replace x2 := Lib.hid (x2.out.below hb)); (replace g0 := Lib.hid (g0.out.below hb)); (replace A0 := Lib.hid (A0.out.below hb)); (replace A1 := Lib.hid (A1.out.below hb)); (replace A2 := Lib.hid (A2.out.below hb)); (have z17 : w16.heap.size ≤ w17.heap.size := hb.size); (have b17 := Lib.hid (bthen b16.out hb); clear b16); (clear hb); (obtain ⟨-, BX0_0, -⟩ := BX0.out.one1); (obtain ⟨-, BX1_0, BX1_1, BX1_2, -⟩ := BX1.out.three); (obtain ⟨-, BX2_0, BX2_1, BX2_2, -⟩ := BX2.out.three); (obtain ⟨-, BXx0_0, -⟩ := BXx0.out.one1); (obtain ⟨-, BXx1_0, BXx1_1, BXx1_2, -⟩ := BXx1.out.three); (obtain ⟨-, BXx2_0, BXx2_1, BXx2_2, -⟩ := BXx2.out.three)))
      | (((go_at_call 14); (have hq := M_eq w17 x0.out.see t0.out.see (by rw [can_ofM E_x0.out, can_ofM E_t0.out]) (by rw [N_x0.out]; exact hn0) (lens_ofM E_x0.out HI0.out)); (rw [N_x0.out, N_t0.out] at hq); (refine hq.mono ?_); (rintro e w18 ⟨rfl, hb⟩); (clear BX0_0 BX1_0 BX1_1 BX1_2 BX2_0 BX2_1 BX2_2 BXx0_0 BXx1_0 BXx1_1 BXx1_2 BXx2_0 BXx2_1 BXx2_2); (replace BX0 := Lib.hid (BX0.out.below hb)); (replace BX1 := Lib.hid (BX1.out.below hb)); (replace BX2 := Lib.hid (BX2.out.below hb)); (replace BXx0 := Lib.hid (BXx0.out.below hb)); (replace BXx1 := Lib.hid (BXx1.out.below hb)); (replace BXx2 := Lib.hid (BXx2.out.below hb)); (replace s0 := Lib.hid (s0.out.below hb)); (replace x0 := Lib.hid (x0.out.below hb)); (replace x1 := Lib.hid (x1.out.below hb)); (replace x2 := Lib.hid (x2.out.below hb)); (replace g0 := Lib.hid (g0.out.below hb)); (replace t0 := Lib.hid (t0.out.below hb)); (replace A0 := Lib.hid (A0.out.below hb)); (replace A1 := Lib.hid (A1.out.below hb)); (replace A2 := Lib.hid (A2.out.below hb)); (have z18 : w17.heap.size ≤ w18.heap.size := hb.size); (have b18 := Lib.hid (bthen b17.out hb); clear b17); (clear hb); (clear hq); (obtain ⟨-, BX0_0, -⟩ := BX0.out.one1); (obtain ⟨-, BX1_0, BX1_1, BX1_2, -⟩ := BX1.out.three); (obtain ⟨-, BX2_0, BX2_1, BX2_2, -⟩ := BX2.out.three); (obtain ⟨-, BXx0_0, -⟩ := BXx0.out.one1); (obtain ⟨-, BXx1_0, BXx1_1, BXx1_2, -⟩ := BXx1.out.three); (obtain ⟨-, BXx2_0, BXx2_1, BXx2_2, -⟩ := BXx2.out.three))))
  clear BX0_0 BX1_0 BX1_1 BX1_2 BX2_0 BX2_1 BX2_2 BXx0_0 BXx1_0 BXx1_1 BXx1_2 BXx2_0 BXx2_1 BXx2_2
  try go_wp2_with fail
  clear t0
  try clear E_t0 N_t0
  obtain ⟨-, BX0_0, -⟩ := BX0.out.one1
  obtain ⟨-, BX1_0, BX1_1, BX1_2, -⟩ := BX1.out.three
  obtain ⟨-, BX2_0, BX2_1, BX2_2, -⟩ := BX2.out.three
  obtain ⟨-, BXx0_0, -⟩ := BXx0.out.one1
  obtain ⟨-, BXx1_0, BXx1_1, BXx1_2, -⟩ := BXx1.out.three
  obtain ⟨-, BXx2_0, BXx2_1, BXx2_2, -⟩ := BXx2.out.three
  go_wp2_with fail
  go_region_held3 (fun w' => w'.cell? ⟨w.heap.size, 0, none⟩ = some (.slice a0 l0.length c0) ∧ w'.cell? ⟨w.heap.size + 1, 0, none⟩ = some (.int .i64 r1_) ∧ w'.cell? ⟨w.heap.size + 1, 1, none⟩ = some (.int .i64 k1_) ∧ w'.cell? ⟨w.heap.size + 1, 2, none⟩ = some (.slice a1 l1.length c1) ∧ w'.cell? ⟨w.heap.size + 2, 0, none⟩ = some (.int .i64 r2_) ∧ w'.cell? ⟨w.heap.size + 2, 1, none⟩ = some (.int .i64 k2_) ∧ w'.cell? ⟨w.heap.size + 2, 2, none⟩ = some (.slice a2 l2.length c2) ∧ w'.cell? ⟨w8.heap.size, 0, none⟩ = some (.slice p_x0 l0.length q_x0) ∧ w'.cell? ⟨w10.heap.size, 0, none⟩ = some (.int .i64 r1_) ∧ w'.cell? ⟨w10.heap.size, 1, none⟩ = some (.int .i64 k1_) ∧ w'.cell? ⟨w10.heap.size, 2, none⟩ = some (.slice p_x1 l1.length q_x1) ∧ w'.cell? ⟨w12.heap.size, 0, none⟩ = some (.int .i64 r2_) ∧ w'.cell? ⟨w12.heap.size, 1, none⟩ = some (.int .i64 k2_) ∧ w'.cell? ⟨w12.heap.size, 2, none⟩ = some (.slice p_x2 l2.length q_x2)) (go_keep)
    (first
      | (((go_at_call 10); (with_reducible refine (T_toD w18 r1_ k1_ a1 c1 l1 A1.out hn1).mono ?_); (rintro e w19 ⟨p_t1, q_t1, rfl, t1, hb⟩); (clear BX0_0 BX1_0 BX1_1 BX1_2 BX2_0 BX2_1 BX2_2 BXx0_0 BXx1_0 BXx1_1 BXx1_2 BXx2_0 BXx2_1 BXx2_2); (replace BX0 := Lib.hid (BX0.out.below hb)); (replace BX1 := Lib.hid (BX1.out.below hb)); (replace BX2 := Lib.hid (BX2.out.below hb)); (replace BXx0 := Lib.hid (BXx0.out.below hb)); (replace BXx1 := Lib.hid (BXx1.out.below hb)); (replace BXx2 := Lib.hid (BXx2.out.below hb)); (replace s0 := Lib.hid (s0.out.below hb)); (replace x0 := Lib.hid (x0.out.below hb)); (replace x1 := Lib.hid (x1.out.below hb)); (replace x2 := Lib.hid (x2.out.below hb)); (replace g0 := Lib.hid (g0.out.below hb)); (replace A0 := Lib.hid (A0.out.below hb)); (replace A1 := Lib.hid (A1.out.below hb)); (replace A2 := Lib.hid (A2.out.below hb)); (have z19 : w18.heap.size ≤ w19.heap.size := hb.size); (have b19 := Lib.hid (bthen b18.out hb); clear b18); (clear hb); (obtain ⟨-, BX0_0, -⟩ := BX0.out.one1); (obtain ⟨-, BX1_0, BX1_1, BX1_2, -⟩ := BX1.out.three); (obtain ⟨-, BX2_0, BX2_1, BX2_2, -⟩ := BX2.out.three); (obtain ⟨-, BXx0_0, -⟩ := BXx0.out.one1); (obtain ⟨-, BXx1_0, BXx1_1, BXx1_2, -⟩ := BXx1.out.three); (obtain ⟨-, BXx2_0, BXx2_1, BXx2_2, -⟩ := BXx2.out.three)))
      | (((go_at_call 15); (refine (T_eq _ r1_ k1_ p_x1 p_t1 q_x1 q_t1 l1 l1 x1.out.arg t1.out.arg hn1 rfl).mono ?_); (rintro e w20 ⟨rfl, hb⟩); (clear BX0_0 BX1_0 BX1_1 BX1_2 BX2_0 BX2_1 BX2_2 BXx0_0 BXx1_0 BXx1_1 BXx1_2 BXx2_0 BXx2_1 BXx2_2); (replace BX0 := Lib.hid (BX0.out.below hb)); (replace BX1 := Lib.hid (BX1.out.below hb)); (replace BX2 := Lib.hid (BX2.out.below hb)); (replace BXx0 := Lib.hid (BXx0.out.below hb)); (replace BXx1 := Lib.hid (BXx1.out.below hb)); (replace BXx2 := Lib.hid (BXx2.out.below hb)); (replace s0 := Lib.hid (s0.out.below hb)); (replace x0 := Lib.hid (x0.out.below hb)); (replace x1 := Lib.hid (x1.out.below hb)); (replace x2 := Lib.hid (x2.out.below hb)); (replace g0 := Lib.hid (g0.out.below hb)); (replace t1 := Lib.hid (t1.out.below hb)); (replace A0 := Lib.hid (A0.out.below hb)); (replace A1 := Lib.hid (A1.out.below hb)); (replace A2 := Lib.hid (A2.out.below hb)); (have z20 : w19.heap.size ≤ w20.heap.size := hb.size); (have b20 := Lib.hid (bthen b19.out hb); clear b19); (clear hb); (obtain ⟨-, BX0_0, -⟩ := BX0.out.one1); (obtain ⟨-, BX1_0, BX1_1, BX1_2, -⟩ := BX1.out.three); (obtain ⟨-, BX2_0, BX2_1, BX2_2, -⟩ := BX2.out.three); (obtain ⟨-, BXx0_0, -⟩ := BXx0.out.one1); (obtain ⟨-, BXx1_0, BXx1_1, BXx1_2, -⟩ := BXx1.out.three); (obtain ⟨-, BXx2_0, BXx2_1, BXx2_2, -⟩ := BXx2.out.three))))
  clear BX0_0 BX1_0 BX1_1 BX1_2 BX2_0 BX2_1 BX2_2 BXx0_0 BXx1_0 BXx1_1 BXx1_2 BXx2_0 BXx2_1 BXx2_2
  try go_wp2_with fail
  clear t1
  try clear E_t1 N_t1
  obtain ⟨-, BX0_0, -⟩ := BX0.out.one1
  obtain ⟨-, BX1_0, BX1_1, BX1_2, -⟩ := BX1.out.three
  obtain ⟨-, BX2_0, BX2_1, BX2_2, -⟩ := BX2.out.three
  obtain ⟨-, BXx0_0, -⟩ := BXx0.out.one1
  obtain ⟨-, BXx1_0, BXx1_1, BXx1_2, -⟩ := BXx1.out.three
  obtain ⟨-, BXx2_0, BXx2_1, BXx2_2, -⟩ := BXx2.out.three
  go_wp2_with fail
  go_region_held3 (fun w' => w'.cell? ⟨w.heap.size, 0, none⟩ = some (.slice a0 l0.length c0) ∧ w'.cell? ⟨w.heap.size + 1, 0, none⟩ = some (.int .i64 r1_) ∧ w'.cell? ⟨w.heap.size + 1, 1, none⟩ = some (.int .i64 k1_) ∧ w'.cell? ⟨w.heap.size + 1, 2, none⟩ = some (.slice a1 l1.length c1) ∧ w'.cell? ⟨w.heap.size + 2, 0, none⟩ = some (.int .i64 r2_) ∧ w'.cell? ⟨w.heap.size + 2, 1, none⟩ = some (.int .i64 k2_) ∧ w'.cell? ⟨w.heap.size + 2, 2, none⟩ = some (.slice a2 l2.length c2) ∧ w'.cell? ⟨w8.heap.size, 0, none⟩ = some (.slice p_x0 l0.length q_x0) ∧ w'.cell? ⟨w10.heap.size, 0, none⟩ = some (.int .i64 r1_) ∧ w'.cell? ⟨w10.heap.size, 1, none⟩ = some (.int .i64 k1_) ∧ w'.cell? ⟨w10.heap.size, 2, none⟩ = some (.slice p_x1 l1.length q_x1) ∧ w'.cell? ⟨w12.heap.size, 0, none⟩ = some (.int .i64 r2_) ∧ w'.cell? ⟨w12.heap.size, 1, none⟩ = some (.int .i64 k2_) ∧ w'.cell? ⟨w12.heap.size, 2, none⟩ = some (.slice p_x2 l2.length q_x2)) (go_keep)
    (first
      | (((go_at_call 10); (with_reducible refine (T_toD w20 r2_ k2_ a2 c2 l2 A2.out hn2).mono ?_); (rintro e w21 ⟨p_t2, q_t2, rfl, t2, hb⟩); (clear BX0_0 BX1_0 BX1_1 BX1_2 BX2_0 BX2_1 BX2_2 BXx0_0 BXx1_0 BXx1_1 BXx1_2 BXx2_0 BXx2_1 BXx2_2); (replace BX0 := Lib.hid (BX0.out.below hb)); (replace BX1 := Lib.hid (BX1.out.below hb)); (replace BX2 := Lib.hid (BX2.out.below hb)); (replace BXx0 := Lib.hid (BXx0.out.below hb)); (replace BXx1 := Lib.hid (BXx1.out.below hb)); (replace BXx2 := Lib.hid (BXx2.out.below hb)); (replace s0 := Lib.hid (s0.out.below hb)); (replace x0 := Lib.hid (x0.out.below hb)); (replace x1 := Lib.hid (x1.out.below hb)); (replace x2 := Lib.hid (x2.out.below hb)); (replace g0 := Lib.hid (g0.out.below hb)); (replace A0 := Lib.hid (A0.out.below hb)); (replace A1 := Lib.hid (A1.out.below hb)); (replace A2 := Lib.hid (A2.out.below hb)); (have z21 : w20.heap.size ≤ w21.heap.size := hb.size); (have b21 := Lib.hid (bthen b20.out hb); clear b20); (clear hb); (obtain ⟨-, BX0_0, -⟩ := BX0.out.one1); (obtain ⟨-, BX1_0, BX1_1, BX1_2, -⟩ := BX1.out.three); (obtain ⟨-, BX2_0, BX2_1, BX2_2, -⟩ := BX2.out.three); (obtain ⟨-, BXx0_0, -⟩ := BXx0.out.one1); (obtain ⟨-, BXx1_0, BXx1_1, BXx1_2, -⟩ := BXx1.out.three); (obtain ⟨-, BXx2_0, BXx2_1, BXx2_2, -⟩ := BXx2.out.three)))
      | (((go_at_call 15); (refine (T_eq _ r2_ k2_ p_x2 p_t2 q_x2 q_t2 l2 l2 x2.out.arg t2.out.arg hn2 rfl).mono ?_); (rintro e w22 ⟨rfl, hb⟩); (clear BX0_0 BX1_0 BX1_1 BX1_2 BX2_0 BX2_1 BX2_2 BXx0_0 BXx1_0 BXx1_1 BXx1_2 BXx2_0 BXx2_1 BXx2_2); (replace BX0 := Lib.hid (BX0.out.below hb)); (replace BX1 := Lib.hid (BX1.out.below hb)); (replace BX2 := Lib.hid (BX2.out.below hb)); (replace BXx0 := Lib.hid (BXx0.out.below hb)); (replace BXx1 := Lib.hid (BXx1.out.below hb)); (replace BXx2 := Lib.hid (BXx2.out.below hb)); (replace s0 := Lib.hid (s0.out.below hb)); (replace x0 := Lib.hid (x0.out.below hb)); (replace x1 := Lib.hid (x1.out.below hb)); (replace x2 := Lib.hid (x2.out.below hb)); (replace g0 := Lib.hid (g0.out.below hb)); (replace t2 := Lib.hid (t2.out.below hb)); (replace A0 := Lib.hid (A0.out.below hb)); (replace A1 := Lib.hid (A1.out.below hb)); (replace A2 := Lib.hid (A2.out.below hb)); (have z22 : w21.heap.size ≤ w22.heap.size := hb.size); (have b22 := Lib.hid (bthen b21.out hb); clear b21); (clear hb); (obtain ⟨-, BX0_0, -⟩ := BX0.out.one1); (obtain ⟨-, BX1_0, BX1_1, BX1_2, -⟩ := BX1.out.three); (obtain ⟨-, BX2_0, BX2_1, BX2_2, -⟩ := BX2.out.three); (obtain ⟨-, BXx0_0, -⟩ := BXx0.out.one1); (obtain ⟨-, BXx1_0, BXx1_1, BXx1_2, -⟩ := BXx1.out.three); (obtain ⟨-, BXx2_0, BXx2_1, BXx2_2, -⟩ := BXx2.out.three))))
  clear BX0_0 BX1_0 BX1_1 BX1_2 BX2_0 BX2_1 BX2_2 BXx0_0 BXx1_0 BXx1_1 BXx1_2 BXx2_0 BXx2_1 BXx2_2
  try go_wp2_with fail
  clear t2
  try clear E_t2 N_t2
  obtain ⟨-, BX0_0, -⟩ := BX0.out.one1
  obtain ⟨-, BX1_0, BX1_1, BX1_2, -⟩ := BX1.out.three
  obtain ⟨-, BX2_0, BX2_1, BX2_2, -⟩ := BX2.out.three
  obtain ⟨-, BXx0_0, -⟩ := BXx0.out.one1
  obtain ⟨-, BXx1_0, BXx1_1, BXx1_2, -⟩ := BXx1.out.three
  obtain ⟨-, BXx2_0, BXx2_1, BXx2_2, -⟩ := BXx2.out.three
  go_wp2_with fail
  refine (M_mark _ (1) x0.out (by omega) hn0 (by rw [tot_ofM E_x0.out]; omega) (lens_ofM E_x0.out HI0.out)).mono ?_
  rintro e w23 ⟨rfl, -, ht⟩
  rw [tot_ofM E_x0.out]
  clear x0
  clear BX0_0 BX1_0 BX1_1 BX1_2 BX2_0 BX2_1 BX2_2 BXx0_0 BXx1_0 BXx1_1 BXx1_2 BXx2_0 BXx2_1 BXx2_2
  replace BX0 := Lib.hid (BX0.out.touch ht (by omega))
  replace BX1 := Lib.hid (BX1.out.touch ht (by omega))
  replace BX2 := Lib.hid (BX2.out.touch ht (by omega))
  replace BXx0 := Lib.hid (BXx0.out.touch ht (by omega))
  replace BXx1 := Lib.hid (BXx1.out.touch ht (by omega))
  replace BXx2 := Lib.hid (BXx2.out.touch ht (by omega))
  replace s0 := Lib.hid (s0.out.touch ht (by omega))
  replace x1 := Lib.hid (x1.out.touch ht (by omega))
  replace x2 := Lib.hid (x2.out.touch ht (by omega))
  replace g0 := Lib.hid (g0.out.touch ht (by omega))
  have z23 : w22.heap.size ≤ w23.heap.size := ht.size
  have b23 := Lib.hid (touch_below b22.out ht (by omega)); clear b22 ht
  replace A0 := Lib.hid (B0.out.below b23.out)
  replace A1 := Lib.hid (B1.out.below b23.out)
  replace A2 := Lib.hid (B2.out.below b23.out)
  obtain ⟨-, BX0_0, -⟩ := BX0.out.one1
  obtain ⟨-, BX1_0, BX1_1, BX1_2, -⟩ := BX1.out.three
  obtain ⟨-, BX2_0, BX2_1, BX2_2, -⟩ := BX2.out.three
  obtain ⟨-, BXx0_0, -⟩ := BXx0.out.one1
  obtain ⟨-, BXx1_0, BXx1_1, BXx1_2, -⟩ := BXx1.out.three
  obtain ⟨-, BXx2_0, BXx2_1, BXx2_2, -⟩ := BXx2.out.three
  go_wp2_with fail
  refine (T_mark _ r1_ k1_ (1 + totM l0) x1.out (by omega) hn1 (by omega)).mono ?_
  rintro e w24 ⟨rfl, -, ht⟩
  clear x1
  clear BX0_0 BX1_0 BX1_1 BX1_2 BX2_0 BX2_1 BX2_2 BXx0_0 BXx1_0 BXx1_1 BXx1_2 BXx2_0 BXx2_1 BXx2_2
  replace BX0 := Lib.hid (BX0.out.touch ht (by omega))
  replace BX1 := Lib.hid (BX1.out.touch ht (by omega))
  replace BX2 := Lib.hid (BX2.out.touch ht (by omega))
  replace BXx0 := Lib.hid (BXx0.out.touch ht (by omega))
  replace BXx1 := Lib.hid (BXx1.out.touch ht (by omega))
  replace BXx2 := Lib.hid (BXx2.out.touch ht (by omega))
  replace s0 := Lib.hid (s0.out.touch ht (by omega))
  replace x2 := Lib.hid (x2.out.touch ht (by omega))
  replace g0 := Lib.hid (g0.out.touch ht (by omega))
  have z24 : w23.heap.size ≤ w24.heap.size := ht.size
  have b24 := Lib.hid (touch_below b23.out ht (by omega)); clear b23 ht
  replace A0 := Lib.hid (B0.out.below b24.out)
  replace A1 := Lib.hid (B1.out.below b24.out)
  replace A2 := Lib.hid (B2.out.below b24.out)
  obtain ⟨-, BX0_0, -⟩ := BX0.out.one1
  obtain ⟨-, BX1_0, BX1_1, BX1_2, -⟩ := BX1.out.three
  obtain ⟨-, BX2_0, BX2_1, BX2_2, -⟩ := BX2.out.three
  obtain ⟨-, BXx0_0, -⟩ := BXx0.out.one1
  obtain ⟨-, BXx1_0, BXx1_1, BXx1_2, -⟩ := BXx1.out.three
  obtain ⟨-, BXx2_0, BXx2_1, BXx2_2, -⟩ := BXx2.out.three
  go_wp2_with fail
  refine (T_mark _ r2_ k2_ (1 + totM l0 + l1.length) x2.out (by omega) hn2 (by omega)).mono ?_
  rintro e w25 ⟨rfl, -, ht⟩
  clear x2
  clear BX0_0 BX1_0 BX1_1 BX1_2 BX2_0 BX2_1 BX2_2 BXx0_0 BXx1_0 BXx1_1 BXx1_2 BXx2_0 BXx2_1 BXx2_2
  replace BX0 := Lib.hid (BX0.out.touch ht (by omega))
  replace BX1 := Lib.hid (BX1.out.touch ht (by omega))
  replace BX2 := Lib.hid (BX2.out.touch ht (by omega))
  replace BXx0 := Lib.hid (BXx0.out.touch ht (by omega))
  replace BXx1 := Lib.hid (BXx1.out.touch ht (by omega))
  replace BXx2 := Lib.hid (BXx2.out.touch ht (by omega))
  replace s0 := Lib.hid (s0.out.touch ht (by omega))
  replace g0 := Lib.hid (g0.out.touch ht (by omega))
  have z25 : w24.heap.size ≤ w25.heap.size := ht.size
  have b25 := Lib.hid (touch_below b24.out ht (by omega)); clear b24 ht
  replace A0 := Lib.hid (B0.out.below b25.out)
  replace A1 := Lib.hid (B1.out.below b25.out)
  replace A2 := Lib.hid (B2.out.below b25.out)
  obtain ⟨-, BX0_0, -⟩ := BX0.out.one1
  obtain ⟨-, BX1_0, BX1_1, BX1_2, -⟩ := BX1.out.three
  obtain ⟨-, BX2_0, BX2_1, BX2_2, -⟩ := BX2.out.three
  obtain ⟨-, BXx0_0, -⟩ := BXx0.out.one1
  obtain ⟨-, BXx1_0, BXx1_1, BXx1_2, -⟩ := BXx1.out.three
  obtain ⟨-, BXx2_0, BXx2_1, BXx2_2, -⟩ := BXx2.out.three
  go_wp2_with fail
  refine (F_eq2 _ g0.out s0.out (by rw [Q_g0.out, Q_s0.out]) M_g0.out).mono ?_
  rintro e w26 ⟨rfl, hb⟩
  clear BX0_0 BX1_0 BX1_1 BX1_2 BX2_0 BX2_1 BX2_2 BXx0_0 BXx1_0 BXx1_1 BXx1_2 BXx2_0 BXx2_1 BXx2_2
  replace BX0 := Lib.hid (BX0.out.below hb)
  replace BX1 := Lib.hid (BX1.out.below hb)
  replace BX2 := Lib.hid (BX2.out.below hb)
  replace BXx0 := Lib.hid (BXx0.out.below hb)
  replace BXx1 := Lib.hid (BXx1.out.below hb)
  replace BXx2 := Lib.hid (BXx2.out.below hb)
  replace s0 := Lib.hid (s0.out.below hb)
  replace g0 := Lib.hid (g0.out.below hb)
  replace A0 := Lib.hid (A0.out.below hb)
  replace A1 := Lib.hid (A1.out.below hb)
  replace A2 := Lib.hid (A2.out.below hb)
  have z26 : w25.heap.size ≤ w26.heap.size := hb.size
  have b26 := Lib.hid (bthen b25.out hb); clear b25
  clear hb
  obtain ⟨-, BX0_0, -⟩ := BX0.out.one1
  obtain ⟨-, BX1_0, BX1_1, BX1_2, -⟩ := BX1.out.three
  obtain ⟨-, BX2_0, BX2_1, BX2_2, -⟩ := BX2.out.three
  obtain ⟨-, BXx0_0, -⟩ := BXx0.out.one1
  obtain ⟨-, BXx1_0, BXx1_1, BXx1_2, -⟩ := BXx1.out.three
  obtain ⟨-, BXx2_0, BXx2_1, BXx2_2, -⟩ := BXx2.out.three
  go_wp2_with fail
  refine (sameFloat_any _ _ (by rw [cn_wide, cn_wide, Q_g1.out, Q_s1.out]) _).mono ?_
  rintro e w27 ⟨rfl, hd⟩
  have hb : Below w26.heap.size w26 w27 := (below_drewN (Below.refl _ _) _).trans hd.below; clear hd
  clear BX0_0 BX1_0 BX1_1 BX1_2 BX2_0 BX2_1 BX2_2 BXx0_0 BXx1_0 BXx1_1 BXx1_2 BXx2_0 BXx2_1 BXx2_2
  replace BX0 := Lib.hid (BX0.out.below hb)
  replace BX1 := Lib.hid (BX1.out.below hb)
  replace BX2 := Lib.hid (BX2.out.below hb)
  replace BXx0 := Lib.hid (BXx0.out.below hb)
  replace BXx1 := Lib.hid (BXx1.out.below hb)
  replace BXx2 := Lib.hid (BXx2.out.below hb)
  replace s0 := Lib.hid (s0.out.below hb)
  replace g0 := Lib.hid (g0.out.below hb)
  replace A0 := Lib.hid (A0.out.below hb)
  replace A1 := Lib.hid (A1.out.below hb)
  replace A2 := Lib.hid (A2.out.below hb)
  have z27 : w26.heap.size ≤ w27.heap.size := hb.size
  have b27 := Lib.hid (bthen b26.out hb); clear b26
  clear hb
  obtain ⟨-, BX0_0, -⟩ := BX0.out.one1
  obtain ⟨-, BX1_0, BX1_1, BX1_2, -⟩ := BX1.out.three
  obtain ⟨-, BX2_0, BX2_1, BX2_2, -⟩ := BX2.out.three
  obtain ⟨-, BXx0_0, -⟩ := BXx0.out.one1
  obtain ⟨-, BXx1_0, BXx1_1, BXx1_2, -⟩ := BXx1.out.three
  obtain ⟨-, BXx2_0, BXx2_1, BXx2_2, -⟩ := BXx2.out.three
  go_wp2_with fail
  refine (F_mark2 _ (1) g0.out (by omega) M_g0.out (by have := M_g0.out; omega)).mono ?_
  rintro e w28 ⟨rfl, hr, ht⟩
  clear g0; have g0 := hr; clear hr
  clear BX0_0 BX1_0 BX1_1 BX1_2 BX2_0 BX2_1 BX2_2 BXx0_0 BXx1_0 BXx1_1 BXx1_2 BXx2_0 BXx2_1 BXx2_2
  replace BX0 := Lib.hid (BX0.out.touch ht (by omega))
  replace BX1 := Lib.hid (BX1.out.touch ht (by omega))
  replace BX2 := Lib.hid (BX2.out.touch ht (by omega))
  replace BXx0 := Lib.hid (BXx0.out.touch ht (by omega))
  replace BXx1 := Lib.hid (BXx1.out.touch ht (by omega))
  replace BXx2 := Lib.hid (BXx2.out.touch ht (by omega))
  replace s0 := Lib.hid (s0.out.touch ht (by omega))
  have z28 : w27.heap.size ≤ w28.heap.size := ht.size
  have b28 := Lib.hid (touch_below b27.out ht (by omega)); clear b27 ht
  replace A0 := Lib.hid (B0.out.below b28.out)
  replace A1 := Lib.hid (B1.out.below b28.out)
  replace A2 := Lib.hid (B2.out.below b28.out)
  obtain ⟨-, BX0_0, -⟩ := BX0.out.one1
  obtain ⟨-, BX1_0, BX1_1, BX1_2, -⟩ := BX1.out.three
  obtain ⟨-, BX2_0, BX2_1, BX2_2, -⟩ := BX2.out.three
  obtain ⟨-, BXx0_0, -⟩ := BXx0.out.one1
  obtain ⟨-, BXx1_0, BXx1_1, BXx1_2, -⟩ := BXx1.out.three
  obtain ⟨-, BXx2_0, BXx2_1, BXx2_2, -⟩ := BXx2.out.three
  go_wp2_with fail
  refine (F_held2 _ (1) g0.out M_g0.out (by have := M_g0.out; omega)).mono ?_
  rintro e we ⟨rfl, rfl⟩
  clear BX0_0 BX1_0 BX1_1 BX1_2 BX2_0 BX2_1 BX2_2 BXx0_0 BXx1_0 BXx1_1 BXx1_2 BXx2_0 BXx2_1 BXx2_2
  clear BXx0
  clear BXx1
  clear BXx2
  obtain ⟨-, BX0_0, -⟩ := BX0.out.one1
  obtain ⟨-, BX1_0, BX1_1, BX1_2, -⟩ := BX1.out.three
  obtain ⟨-, BX2_0, BX2_1, BX2_2, -⟩ := BX2.out.three
  go_wp2_with fail
  go_region_held3 (fun w' => w'.cell? ⟨w.heap.size, 0, none⟩ = some (.slice a0 l0.length c0) ∧ w'.cell? ⟨w.heap.size + 1, 0, none⟩ = some (.int .i64 r1_) ∧ w'.cell? ⟨w.heap.size + 1, 1, none⟩ = some (.int .i64 k1_) ∧ w'.cell? ⟨w.heap.size + 1, 2, none⟩ = some (.slice a1 l1.length c1) ∧ w'.cell? ⟨w.heap.size + 2, 0, none⟩ = some (.int .i64 r2_) ∧ w'.cell? ⟨w.heap.size + 2, 1, none⟩ = some (.int .i64 k2_) ∧ w'.cell? ⟨w.heap.size + 2, 2, none⟩ = some (.slice a2 l2.length c2)) (go_keep)
    (first
      | (((go_at_call 9); (refine (M_toD w28 a0 c0 l0 A0.out hn0 HI0.out).mono ?_); (rintro e w29 ⟨p_t0, q_t0, o_t0, rfl, he_t0, t0, hb⟩); (have E_t0 := Lib.hid he_t0); (have hlen_t0 : o_t0.length = l0.length := by have := congrArg List.length he_t0; simpa using this); (have N_t0 := Lib.hid hlen_t0; clear he_t0 hlen_t0); (clear BX0_0 BX1_0 BX1_1 BX1_2 BX2_0 BX2_1 BX2_2); (replace BX0 := Lib.hid (BX0.out.below hb)); (replace BX1 := Lib.hid (BX1.out.below hb)); (replace BX2 := Lib.hid (BX2.out.below hb)); (replace s0 := Lib.hid (s0.out.below hb)); (replace g0 := Lib.hid (g0.out.below hb)); (replace A0 := Lib.hid (A0.out.below hb)); (replace A1 := Lib.hid (A1.out.below hb)); (replace A2 := Lib.hid (A2.out.below hb)); (have z29 : w28.heap.size ≤ w29.heap.size := hb.size); (have b29 := Lib.hid (bthen b28.out hb); clear b28); (clear hb); (obtain ⟨-, BX0_0, -⟩ := BX0.out.one1); (obtain ⟨-, BX1_0, BX1_1, BX1_2, -⟩ := BX1.out.three); (obtain ⟨-, BX2_0, BX2_1, BX2_2, -⟩ := BX2.out.three)))
      | (((go_at_call 10); (with_reducible refine (T_to _ r1_ k1_ a1 c1 l1 A1.out hn1).mono ?_); (rintro e w30 ⟨p_t1, q_t1, rfl, t1, hb⟩); (clear BX0_0 BX1_0 BX1_1 BX1_2 BX2_0 BX2_1 BX2_2); (replace BX0 := Lib.hid (BX0.out.below hb)); (replace BX1 := Lib.hid (BX1.out.below hb)); (replace BX2 := Lib.hid (BX2.out.below hb)); (replace s0 := Lib.hid (s0.out.below hb)); (replace g0 := Lib.hid (g0.out.below hb)); (replace t0 := Lib.hid (t0.out.below hb)); (replace A0 := Lib.hid (A0.out.below hb)); (replace A1 := Lib.hid (A1.out.below hb)); (replace A2 := Lib.hid (A2.out.below hb)); (have z30 : w29.heap.size ≤ w30.heap.size := hb.size); (have b30 := Lib.hid (bthen b29.out hb); clear b29); (clear hb); (obtain ⟨-, BX0_0, -⟩ := BX0.out.one1); (obtain ⟨-, BX1_0, BX1_1, BX1_2, -⟩ := BX1.out.three); (obtain ⟨-, BX2_0, BX2_1, BX2_2, -⟩ := BX2.out.three)))
      | (((go_at_call 10); (with_reducible refine (T_to _ r2_ k2_ a2 c2 l2 A2.out hn2).mono ?_); (rintro e w31 ⟨p_t2, q_t2, rfl, t2, hb⟩); (clear BX0_0 BX1_0 BX1_1 BX1_2 BX2_0 BX2_1 BX2_2); (replace BX0 := Lib.hid (BX0.out.below hb)); (replace BX1 := Lib.hid (BX1.out.below hb)); (replace BX2 := Lib.hid (BX2.out.below hb)); (replace s0 := Lib.hid (s0.out.below hb)); (replace g0 := Lib.hid (g0.out.below hb)); (replace t0 := Lib.hid (t0.out.below hb)); (replace t1 := Lib.hid (t1.out.below hb)); (replace A0 := Lib.hid (A0.out.below hb)); (replace A1 := Lib.hid (A1.out.below hb)); (replace A2 := Lib.hid (A2.out.below hb)); (have z31 : w30.heap.size ≤ w31.heap.size := hb.size); (have b31 := Lib.hid (bthen b30.out hb); clear b30); (clear hb); (obtain ⟨-, BX0_0, -⟩ := BX0.out.one1); (obtain ⟨-, BX1_0, BX1_1, BX1_2, -⟩ := BX1.out.three); (obtain ⟨-, BX2_0, BX2_1, BX2_2, -⟩ := BX2.out.three)))
      | (((go_at_call 11); (have hK := impl_ScaledGradientsW w31 p_t0 q_t0 o_t0 t0.out (lens_ofM E_t0.out HI0.out) r1_ k1_ p_t1 q_t1 l1 t1.out hn1 R1 C1 r2_ k2_ p_t2 q_t2 l2 t2.out hn2 R2 C2 a3 A3); (rw [N_t0.out, E_t0.out] at hK); (have HK := Lib.hid hK; clear hK); (refine HK.out.mono ?_); (rintro e w32 ⟨ad_h0, n_h0, cp_h0, v_h1, v_h2, v_h3, y_h0, rfl, HO_h, hb⟩); (clear HK); (have Q_h0 := Lib.hid (congrArg Prod.fst HO_h.out.1.2.1)); (have Q_h1 := Lib.hid (congrArg Prod.snd HO_h.out.1.2.1)); (have V_h := Lib.hid HO_h.out.1.1.1); (have U_h := Lib.hid HO_h.out.1.1.2); (have M_h0 := Lib.hid (show n_h0 ≤ 3072 from scal_bound HO_h.out.2 HO_h.out.1.2.1)); (have h0 := Lib.hid HO_h.out.2; clear HO_h); (clear BX0_0 BX1_0 BX1_1 BX1_2 BX2_0 BX2_1 BX2_2); (replace BX0 := Lib.hid (BX0.out.below hb)); (replace BX1 := Lib.hid (BX1.out.below hb)); (replace BX2 := Lib.hid (BX2.out.below hb)); (replace s0 := Lib.hid (s0.out.below hb)); (replace g0 := Lib.hid (g0.out.below hb)); (replace t0 := Lib.hid (t0.out.below hb)); (replace t1 := Lib.hid (t1.out.below hb)); (replace t2 := Lib.hid (t2.out.below hb)); (replace A0 := Lib.hid (A0.out.below hb)); (replace A1 := Lib.hid (A1.out.below hb)); (replace A2 := Lib.hid (A2.out.below hb)); (have z32 : w31.heap.size ≤ w32.heap.size := hb.size); (have b32 := Lib.hid (bthen b31.out hb); clear b31); (clear hb); (obtain ⟨-, BX0_0, -⟩ := BX0.out.one1); (obtain ⟨-, BX1_0, BX1_1, BX1_2, -⟩ := BX1.out.three); (obtain ⟨-, BX2_0, BX2_1, BX2_2, -⟩ := BX2.out.three))))
  clear BX0_0 BX1_0 BX1_1 BX1_2 BX2_0 BX2_1 BX2_2
  try go_wp2_with fail
  obtain rfl : v_s2 = v_h2 := U_s.out.trans U_h.out.symm
  obtain rfl : v_s3 = v_h3 := V_s.out.trans V_h.out.symm
  obtain ⟨-, BX0_0, -⟩ := BX0.out.one1
  obtain ⟨-, BX1_0, BX1_1, BX1_2, -⟩ := BX1.out.three
  obtain ⟨-, BX2_0, BX2_1, BX2_2, -⟩ := BX2.out.three
  go_wp2_with fail
  refine (F_eq2 _ h0.out s0.out (by rw [Q_h0.out, Q_s0.out]) M_h0.out).mono ?_
  rintro e w33 ⟨rfl, hb⟩
  clear BX0_0 BX1_0 BX1_1 BX1_2 BX2_0 BX2_1 BX2_2
  replace BX0 := Lib.hid (BX0.out.below hb)
  replace BX1 := Lib.hid (BX1.out.below hb)
  replace BX2 := Lib.hid (BX2.out.below hb)
  replace s0 := Lib.hid (s0.out.below hb)
  replace g0 := Lib.hid (g0.out.below hb)
  replace t0 := Lib.hid (t0.out.below hb)
  replace t1 := Lib.hid (t1.out.below hb)
  replace t2 := Lib.hid (t2.out.below hb)
  replace h0 := Lib.hid (h0.out.below hb)
  replace A0 := Lib.hid (A0.out.below hb)
  replace A1 := Lib.hid (A1.out.below hb)
  replace A2 := Lib.hid (A2.out.below hb)
  have z33 : w32.heap.size ≤ w33.heap.size := hb.size
  have b33 := Lib.hid (bthen b32.out hb); clear b32
  clear hb
  obtain ⟨-, BX0_0, -⟩ := BX0.out.one1
  obtain ⟨-, BX1_0, BX1_1, BX1_2, -⟩ := BX1.out.three
  obtain ⟨-, BX2_0, BX2_1, BX2_2, -⟩ := BX2.out.three
  go_wp2_with fail
  refine (sameFloat_any _ _ (by rw [cn_wide, cn_wide, Q_h1.out, Q_s1.out]) _).mono ?_
  rintro e w34 ⟨rfl, hd⟩
  have hb : Below w33.heap.size w33 w34 := (below_drewN (Below.refl _ _) _).trans hd.below; clear hd
  clear BX0_0 BX1_0 BX1_1 BX1_2 BX2_0 BX2_1 BX2_2
  replace BX0 := Lib.hid (BX0.out.below hb)
  replace BX1 := Lib.hid (BX1.out.below hb)
  replace BX2 := Lib.hid (BX2.out.below hb)
  replace s0 := Lib.hid (s0.out.below hb)
  replace g0 := Lib.hid (g0.out.below hb)
  replace t0 := Lib.hid (t0.out.below hb)
  replace t1 := Lib.hid (t1.out.below hb)
  replace t2 := Lib.hid (t2.out.below hb)
  replace h0 := Lib.hid (h0.out.below hb)
  replace A0 := Lib.hid (A0.out.below hb)
  replace A1 := Lib.hid (A1.out.below hb)
  replace A2 := Lib.hid (A2.out.below hb)
  have z34 : w33.heap.size ≤ w34.heap.size := hb.size
  have b34 := Lib.hid (bthen b33.out hb); clear b33
  clear hb
  obtain ⟨-, BX0_0, -⟩ := BX0.out.one1
  obtain ⟨-, BX1_0, BX1_1, BX1_2, -⟩ := BX1.out.three
  obtain ⟨-, BX2_0, BX2_1, BX2_2, -⟩ := BX2.out.three
  go_wp2_with fail
  refine (F_held2 _ (1) g0.out M_g0.out (by have := M_g0.out; omega)).mono ?_
  rintro e we ⟨rfl, rfl⟩
  clear BX0_0 BX1_0 BX1_1 BX1_2 BX2_0 BX2_1 BX2_2
  go_wp2
  go_ret
  exact ⟨rfl, b34.out⟩
end Go.Proofs.YtpadlmidojpbeaaGreat
