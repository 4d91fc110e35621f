/- The law of a step, walked. No condition. -/
import Derived.Test.YtaocilimggpdjaaStw
namespace Go.Proofs.Ytaocilimggpdjaa
open Go Go.RowKit
set_option linter.unusedVariables false
set_option linter.unusedSimpArgs false
theorem cum_two {Xs : List (List Nat)} {n : Nat} (hl : Xs.length = n) (hn : n ≤ 2) (hi : ∀ i, i < n → (Xs.getD i []).length ≤ 256) : cum Xs n ≤ 512 := by
  subst hl
  match Xs, hn with
  | [], _ => decide
  | [a], _ => have := hi 0 (by simp); simp [cum] at this ⊢; omega
  | [a, b], _ => have h0 := hi 0 (by simp); have h1 := hi 1 (by simp); simp [cum] at h0 h1 ⊢; omega
theorem left_facts {Xs : List (List Nat)} (h : 0 ≤ leftSS Xs Xs.length 1048576) : Xs.length ≤ 1048576 ∧ (∀ i, i < Xs.length → (Xs.getD i []).length ≤ 1048576) ∧ cum Xs Xs.length ≤ 1048576 := by
  unfold leftSS at h
  split at h
  · rename_i hc
    refine ⟨by omega, fun i hi => ?_, by omega⟩
    have := cum_succ Xs hi
    have := cum_le Xs (show i + 1 ≤ Xs.length by omega)
    omega
  · omega
set_option maxHeartbeats 16000000 in
set_option maxRecDepth 100000 in
theorem fnExactStepParams_walk (w : World) (k : Int) (r b1 b2 ep : Nat) (w0 : (Lit.int .i64 k).wf = true) (w1 : r < 4294967296) (w2 : b1 < 4294967296) (w3 : b2 < 4294967296) (w4 : ep < 4294967296) (a1 : Option Addr) (c1 : Nat) (l1 : List Nat) (A1 : F32s w a1 c1 l1) (a2 : Option Addr) (c2 : Nat) (l2 : List Nat) (A2 : F32s w a2 c2 l2) (a3 : Option Addr) (c3 : Nat) (X : List (List Nat)) (A3 : ArgFF w a3 c3 X) (s : Int) (ws : (Lit.int .i64 s).wf = true) :
    Calls Try.prog 3 #[.agg #[.int .i64 k, .float .f32 r, .float .f32 b1, .float .f32 b2, .float .f32 ep], .slice a1 l1.length c1, .slice a2 l2.length c2, .slice a3 X.length c3, .int .i64 s] w fun e w' => e = .returned (.bool true) ∧ Below w.heap.size w w' := by
  clear w0 w1 w2 w3 w4 ws
  have hm1 := Nat.le_trans A1.len A1.cap; have hm2 := Nat.le_trans A2.len A2.cap
  unfold maxLen at hm1 hm2
  by_cases hn1 : l1.length ≤ 1048576
  rotate_left
  · go_enter Try.func3, Try.ntmps3
    go_wp2
    go_ret
    exact ⟨rfl, below1 _ _⟩
  by_cases hn2 : l2.length ≤ 1048576
  rotate_left
  · go_enter Try.func3, Try.ntmps3
    go_wp2
    go_ret
    exact ⟨rfl, below1 _ _⟩
  have ksz := fun W hW => sz_f32ss W a3 c3 X hW 1048576 (by omega) (by omega)
  by_cases hL : 0 ≤ leftSS X X.length 1048576
  rotate_left
  · obtain ⟨q, hq⟩ : ∃ q, q = leftSS X X.length 1048576 := ⟨_, rfl⟩
    rw [← hq] at ksz hL
    have KS := Lib.hid ksz; clear ksz hq
    go_enter Try.func3, Try.ntmps3
    go_wp2_with fail
    refine (KS.out _ (A3.below (below1 _ _))).mono ?_
    rintro e w1 ⟨rfl, rfl⟩
    go_wp2
    go_ret
    exact ⟨rfl, below1 _ _⟩
  obtain ⟨hnX, hI, hC⟩ := left_facts hL
  have HI := Lib.hid hI; have HC := Lib.hid hC; clear hI hC
  obtain ⟨q, hq⟩ : ∃ q, q = leftSS X X.length 1048576 := ⟨_, rfl⟩
  rw [← hq] at ksz hL
  have KS := Lib.hid ksz; clear ksz hq
  obtain ⟨ok, hOK⟩ : ∃ ok, stepOk k l1.length l2.length X s = ok := ⟨_, rfl⟩
  have HOK := Lib.hid hOK; clear hOK
  have A1z := Lib.hid A1; have A2z := Lib.hid A2; have A3z := Lib.hid A3
  have HC0 := HC; clear HC
  go_enter Try.func3, Try.ntmps3
  have hb0 := below1 w (.cells #[.int .i64 k, .float .f32 r, .float .f32 b1, .float .f32 b2, .float .f32 ep] 24)
  replace A1 := Lib.hid (A1.below hb0); replace A2 := Lib.hid (A2.below hb0); replace A3 := Lib.hid (A3.below hb0)
  have B := Lib.hid hb0; clear hb0
  go_wp2_with fail
  refine (KS.out _ A3.out).mono ?_
  rintro e w0 ⟨rfl, hw0⟩
  have HL : Hid (w.heap.size < w0.heap.size) := Lib.hid (by rw [← hw0]; simp)
  have HC : Hid (∀ o, w0.cell? ⟨w.heap.size, o, none⟩ = (w.alloc (.cells #[.int .i64 k, .float .f32 r, .float .f32 b1, .float .f32 b2, .float .f32 ep] 24)).cell? ⟨w.heap.size, o, none⟩) := Lib.hid (fun o => by rw [← hw0])
  rw [hw0] at A1 A2 A3 B
  have Z0 : Hid (w.heap.size < w0.heap.size) := HL
  clear hw0
  have hc := HC.out; have hl := HL.out
  go_wp2_with fail
  clear hc hl
  refine (laws_toOptimizer _ _ _ _ _ _).mono ?_
  rintro e w1 ⟨rfl, hb⟩
  replace A1 := Lib.hid (A1.out.below hb)
  replace A2 := Lib.hid (A2.out.below hb)
  replace A3 := Lib.hid (A3.out.below hb)
  replace HC := Lib.hid (fun o => ((bkeep w.heap.size hb HL.out).1 o).trans (HC.out o))
  have Z1 : Hid (w0.heap.size ≤ w1.heap.size) := Lib.hid hb.size
  replace HL := Lib.hid ((bkeep w.heap.size hb HL.out).2.2)
  replace B := Lib.hid (bthen B.out hb); clear hb
  go_wp2_with fail
  refine (F_to _ a1 c1 l1 A1.out hn1).mono ?_
  rintro e w2 ⟨p_t1, q_t1, rfl, t1, hb⟩
  replace t1 := Lib.hid t1
  replace A1 := Lib.hid (A1.out.below hb)
  replace A2 := Lib.hid (A2.out.below hb)
  replace A3 := Lib.hid (A3.out.below hb)
  replace HC := Lib.hid (fun o => ((bkeep w.heap.size hb HL.out).1 o).trans (HC.out o))
  have Z2 : Hid (w1.heap.size ≤ w2.heap.size) := Lib.hid hb.size
  replace HL := Lib.hid ((bkeep w.heap.size hb HL.out).2.2)
  replace B := Lib.hid (bthen B.out hb); clear hb
  go_wp2_with fail
  refine (F_to _ a2 c2 l2 A2.out hn2).mono ?_
  rintro e w3 ⟨p_t2, q_t2, rfl, t2, hb⟩
  replace t1 := Lib.hid (t1.out.below hb)
  replace t2 := Lib.hid t2
  replace A1 := Lib.hid (A1.out.below hb)
  replace A2 := Lib.hid (A2.out.below hb)
  replace A3 := Lib.hid (A3.out.below hb)
  replace HC := Lib.hid (fun o => ((bkeep w.heap.size hb HL.out).1 o).trans (HC.out o))
  have Z3 : Hid (w2.heap.size ≤ w3.heap.size) := Lib.hid hb.size
  replace HL := Lib.hid ((bkeep w.heap.size hb HL.out).2.2)
  replace B := Lib.hid (bthen B.out hb); clear hb
  go_wp2_with fail
  refine (FF_to _ a3 c3 X A3.out hnX HI.out).mono ?_
  rintro e w4 ⟨p_t3, q_t3, vs_t3, rfl, t3, hb⟩
  replace t1 := Lib.hid (t1.out.below hb)
  replace t2 := Lib.hid (t2.out.below hb)
  replace t3 := Lib.hid t3
  replace A1 := Lib.hid (A1.out.below hb)
  replace A2 := Lib.hid (A2.out.below hb)
  replace A3 := Lib.hid (A3.out.below hb)
  replace HC := Lib.hid (fun o => ((bkeep w.heap.size hb HL.out).1 o).trans (HC.out o))
  have Z4 : Hid (w3.heap.size ≤ w4.heap.size) := Lib.hid hb.size
  replace HL := Lib.hid ((bkeep w.heap.size hb HL.out).2.2)
  replace B := Lib.hid (bthen B.out hb); clear hb
  go_wp2_with fail
  refine (spec_StepParams _ k r b1 b2 ep _ _ l1 t1.out.arg t1.out.nilcap _ _ l2 t2.out.arg _ _ _ _ X t3.out hnX s).mono ?_
  rintro e w5 ⟨a_s, n_s, c_s, y_s, d_s, m_s, q_s, u_s, Y_s, lo1_s, hi1_s, lo2_s, hi2_s, rfl, s1, s2, e1_s, e2_s, ⟨bn_s, bm_s, bi_s⟩, rr_s, hb⟩
  rw [HOK.out]
  have E1_s := Lib.hid e1_s; clear e1_s
  have E2_s := Lib.hid e2_s; clear e2_s
  have BI_s := Lib.hid bi_s; clear bi_s
  have RR_s := Lib.hid rr_s; clear rr_s
  replace t1 := Lib.hid (t1.out.below hb)
  replace t2 := Lib.hid (t2.out.below hb)
  replace t3 := Lib.hid (t3.out.below hb)
  replace s1 := Lib.hid s1
  replace s2 := Lib.hid s2
  replace A1 := Lib.hid (A1.out.below hb)
  replace A2 := Lib.hid (A2.out.below hb)
  replace A3 := Lib.hid (A3.out.below hb)
  replace HC := Lib.hid (fun o => ((bkeep w.heap.size hb HL.out).1 o).trans (HC.out o))
  have Z5 : Hid (w4.heap.size ≤ w5.heap.size) := Lib.hid hb.size
  replace HL := Lib.hid ((bkeep w.heap.size hb HL.out).2.2)
  replace B := Lib.hid (bthen B.out hb); clear hb
  clear t1
  clear t2
  clear t3
  go_wp2_with fail
  refine (F_to _ a1 c1 l1 A1.out hn1).mono ?_
  rintro e w6 ⟨p_x1, q_x1, rfl, x1, hb⟩
  replace s1 := Lib.hid (s1.out.below hb)
  replace s2 := Lib.hid (s2.out.below hb)
  replace x1 := Lib.hid x1
  replace A1 := Lib.hid (A1.out.below hb)
  replace A2 := Lib.hid (A2.out.below hb)
  replace A3 := Lib.hid (A3.out.below hb)
  replace HC := Lib.hid (fun o => ((bkeep w.heap.size hb HL.out).1 o).trans (HC.out o))
  have Z6 : Hid (w5.heap.size ≤ w6.heap.size) := Lib.hid hb.size
  replace HL := Lib.hid ((bkeep w.heap.size hb HL.out).2.2)
  replace B := Lib.hid (bthen B.out hb); clear hb
  go_wp2_with fail
  refine (F_to _ a2 c2 l2 A2.out hn2).mono ?_
  rintro e w7 ⟨p_x2, q_x2, rfl, x2, hb⟩
  replace s1 := Lib.hid (s1.out.below hb)
  replace s2 := Lib.hid (s2.out.below hb)
  replace x1 := Lib.hid (x1.out.below hb)
  replace x2 := Lib.hid x2
  replace A1 := Lib.hid (A1.out.below hb)
  replace A2 := Lib.hid (A2.out.below hb)
  replace A3 := Lib.hid (A3.out.below hb)
  replace HC := Lib.hid (fun o => ((bkeep w.heap.size hb HL.out).1 o).trans (HC.out o))
  have Z7 : Hid (w6.heap.size ≤ w7.heap.size) := Lib.hid hb.size
  replace HL := Lib.hid ((bkeep w.heap.size hb HL.out).2.2)
  replace B := Lib.hid (bthen B.out hb); clear hb
  go_wp2_with fail
  refine (FF_to _ a3 c3 X A3.out hnX HI.out).mono ?_
  rintro e w8 ⟨p_x3, q_x3, vs_x3, rfl, x3, hb⟩
  replace s1 := Lib.hid (s1.out.below hb)
  replace s2 := Lib.hid (s2.out.below hb)
  replace x1 := Lib.hid (x1.out.below hb)
  replace x2 := Lib.hid (x2.out.below hb)
  replace x3 := Lib.hid x3
  replace A1 := Lib.hid (A1.out.below hb)
  replace A2 := Lib.hid (A2.out.below hb)
  replace A3 := Lib.hid (A3.out.below hb)
  replace HC := Lib.hid (fun o => ((bkeep w.heap.size hb HL.out).1 o).trans (HC.out o))
  have Z8 : Hid (w7.heap.size ≤ w8.heap.size) := Lib.hid hb.size
  replace HL := Lib.hid ((bkeep w.heap.size hb HL.out).2.2)
  replace B := Lib.hid (bthen B.out hb); clear hb
  have hc := HC.out; have hl := HL.out
  go_wp2_with fail
  clear hc hl
  refine (laws_toOptimizer _ _ _ _ _ _).mono ?_
  rintro e w9 ⟨rfl, hb⟩
  replace s1 := Lib.hid (s1.out.below hb)
  replace s2 := Lib.hid (s2.out.below hb)
  replace x1 := Lib.hid (x1.out.below hb)
  replace x2 := Lib.hid (x2.out.below hb)
  replace x3 := Lib.hid (x3.out.below hb)
  replace A1 := Lib.hid (A1.out.below hb)
  replace A2 := Lib.hid (A2.out.below hb)
  replace A3 := Lib.hid (A3.out.below hb)
  replace HC := Lib.hid (fun o => ((bkeep w.heap.size hb HL.out).1 o).trans (HC.out o))
  have Z9 : Hid (w8.heap.size ≤ w9.heap.size) := Lib.hid hb.size
  replace HL := Lib.hid ((bkeep w.heap.size hb HL.out).2.2)
  replace B := Lib.hid (bthen B.out hb); clear hb
  go_wp2_with fail
  refine (impl_StepParams _ k r b1 b2 ep _ _ l1 x1.out.arg  _ _ l2 x2.out.arg _ _ _ _ X x3.out hnX s).mono ?_
  rintro e w10 ⟨a_g, n_g, c_g, y_g, d_g, m_g, q_g, u_g, Y_g, lo1_g, hi1_g, lo2_g, hi2_g, rfl, g1, g2, e1_g, e2_g, ⟨bn_g, bm_g, bi_g⟩, rr_g, hb⟩
  rw [HOK.out]
  have E1_g := Lib.hid e1_g; clear e1_g
  have E2_g := Lib.hid e2_g; clear e2_g
  have BI_g := Lib.hid bi_g; clear bi_g
  have RR_g := Lib.hid rr_g; clear rr_g
  replace s1 := Lib.hid (s1.out.below hb)
  replace s2 := Lib.hid (s2.out.below hb)
  replace x1 := Lib.hid (x1.out.below hb)
  replace x2 := Lib.hid (x2.out.below hb)
  replace x3 := Lib.hid (x3.out.below hb)
  replace g1 := Lib.hid g1
  replace g2 := Lib.hid g2
  replace A1 := Lib.hid (A1.out.below hb)
  replace A2 := Lib.hid (A2.out.below hb)
  replace A3 := Lib.hid (A3.out.below hb)
  replace HC := Lib.hid (fun o => ((bkeep w.heap.size hb HL.out).1 o).trans (HC.out o))
  have Z10 : Hid (w9.heap.size ≤ w10.heap.size) := Lib.hid hb.size
  replace HL := Lib.hid ((bkeep w.heap.size hb HL.out).2.2)
  replace B := Lib.hid (bthen B.out hb); clear hb
  obtain rfl : m_g = m_s := by rw [← g2.out.len, ← s2.out.len]; have := congrArg List.length (E2_g.out.trans E2_s.out.symm); simpa using this
  go_wp2_with fail
  refine (F_eq _ g1.out s1.out (by rw [E1_g.out, E1_s.out]) (by omega)).mono ?_
  rintro e w11 ⟨rfl, hb⟩
  replace s1 := Lib.hid (s1.out.below hb)
  replace s2 := Lib.hid (s2.out.below hb)
  replace x1 := Lib.hid (x1.out.below hb)
  replace x2 := Lib.hid (x2.out.below hb)
  replace x3 := Lib.hid (x3.out.below hb)
  replace g1 := Lib.hid (g1.out.below hb)
  replace g2 := Lib.hid (g2.out.below hb)
  replace A1 := Lib.hid (A1.out.below hb)
  replace A2 := Lib.hid (A2.out.below hb)
  replace A3 := Lib.hid (A3.out.below hb)
  replace HC := Lib.hid (fun o => ((bkeep w.heap.size hb HL.out).1 o).trans (HC.out o))
  have Z11 : Hid (w10.heap.size ≤ w11.heap.size) := Lib.hid hb.size
  replace HL := Lib.hid ((bkeep w.heap.size hb HL.out).2.2)
  replace B := Lib.hid (bthen B.out hb); clear hb
  go_wp2_with fail
  refine (FF_eq _ g2.out s2.out (by rw [E2_g.out, E2_s.out]) (by omega) (fun i hi => by have := BI_g.out i hi; omega)).mono ?_
  rintro e w12 ⟨rfl, hb⟩
  replace s1 := Lib.hid (s1.out.below hb)
  replace s2 := Lib.hid (s2.out.below hb)
  replace x1 := Lib.hid (x1.out.below hb)
  replace x2 := Lib.hid (x2.out.below hb)
  replace x3 := Lib.hid (x3.out.below hb)
  replace g1 := Lib.hid (g1.out.below hb)
  replace g2 := Lib.hid (g2.out.below hb)
  replace A1 := Lib.hid (A1.out.below hb)
  replace A2 := Lib.hid (A2.out.below hb)
  replace A3 := Lib.hid (A3.out.below hb)
  replace HC := Lib.hid (fun o => ((bkeep w.heap.size hb HL.out).1 o).trans (HC.out o))
  have Z12 : Hid (w11.heap.size ≤ w12.heap.size) := Lib.hid hb.size
  replace HL := Lib.hid ((bkeep w.heap.size hb HL.out).2.2)
  replace B := Lib.hid (bthen B.out hb); clear hb
  go_wp2_with fail
  refine (F_to _ a1 c1 l1 A1.out hn1).mono ?_
  rintro e w13 ⟨p_t1, q_t1, rfl, t1, hb⟩
  replace s1 := Lib.hid (s1.out.below hb)
  replace s2 := Lib.hid (s2.out.below hb)
  replace x1 := Lib.hid (x1.out.below hb)
  replace x2 := Lib.hid (x2.out.below hb)
  replace x3 := Lib.hid (x3.out.below hb)
  replace g1 := Lib.hid (g1.out.below hb)
  replace g2 := Lib.hid (g2.out.below hb)
  replace t1 := Lib.hid t1
  replace A1 := Lib.hid (A1.out.below hb)
  replace A2 := Lib.hid (A2.out.below hb)
  replace A3 := Lib.hid (A3.out.below hb)
  replace HC := Lib.hid (fun o => ((bkeep w.heap.size hb HL.out).1 o).trans (HC.out o))
  have Z13 : Hid (w12.heap.size ≤ w13.heap.size) := Lib.hid hb.size
  replace HL := Lib.hid ((bkeep w.heap.size hb HL.out).2.2)
  replace B := Lib.hid (bthen B.out hb); clear hb
  go_wp2_with fail
  refine (F_eq _ x1.out t1.out rfl hn1).mono ?_
  rintro e w14 ⟨rfl, hb⟩
  replace s1 := Lib.hid (s1.out.below hb)
  replace s2 := Lib.hid (s2.out.below hb)
  replace x1 := Lib.hid (x1.out.below hb)
  replace x2 := Lib.hid (x2.out.below hb)
  replace x3 := Lib.hid (x3.out.below hb)
  replace g1 := Lib.hid (g1.out.below hb)
  replace g2 := Lib.hid (g2.out.below hb)
  replace t1 := Lib.hid (t1.out.below hb)
  replace A1 := Lib.hid (A1.out.below hb)
  replace A2 := Lib.hid (A2.out.below hb)
  replace A3 := Lib.hid (A3.out.below hb)
  replace HC := Lib.hid (fun o => ((bkeep w.heap.size hb HL.out).1 o).trans (HC.out o))
  have Z14 : Hid (w13.heap.size ≤ w14.heap.size) := Lib.hid hb.size
  replace HL := Lib.hid ((bkeep w.heap.size hb HL.out).2.2)
  replace B := Lib.hid (bthen B.out hb); clear hb
  clear t1
  go_wp2_with fail
  refine (F_to _ a2 c2 l2 A2.out hn2).mono ?_
  rintro e w15 ⟨p_t2, q_t2, rfl, t2, hb⟩
  replace s1 := Lib.hid (s1.out.below hb)
  replace s2 := Lib.hid (s2.out.below hb)
  replace x1 := Lib.hid (x1.out.below hb)
  replace x2 := Lib.hid (x2.out.below hb)
  replace x3 := Lib.hid (x3.out.below hb)
  replace g1 := Lib.hid (g1.out.below hb)
  replace g2 := Lib.hid (g2.out.below hb)
  replace t2 := Lib.hid t2
  replace A1 := Lib.hid (A1.out.below hb)
  replace A2 := Lib.hid (A2.out.below hb)
  replace A3 := Lib.hid (A3.out.below hb)
  replace HC := Lib.hid (fun o => ((bkeep w.heap.size hb HL.out).1 o).trans (HC.out o))
  have Z15 : Hid (w14.heap.size ≤ w15.heap.size) := Lib.hid hb.size
  replace HL := Lib.hid ((bkeep w.heap.size hb HL.out).2.2)
  replace B := Lib.hid (bthen B.out hb); clear hb
  go_wp2_with fail
  refine (F_eq _ x2.out t2.out rfl hn2).mono ?_
  rintro e w16 ⟨rfl, hb⟩
  replace s1 := Lib.hid (s1.out.below hb)
  replace s2 := Lib.hid (s2.out.below hb)
  replace x1 := Lib.hid (x1.out.below hb)
  replace x2 := Lib.hid (x2.out.below hb)
  replace x3 := Lib.hid (x3.out.below hb)
  replace g1 := Lib.hid (g1.out.below hb)
  replace g2 := Lib.hid (g2.out.below hb)
  replace t2 := Lib.hid (t2.out.below hb)
  replace A1 := Lib.hid (A1.out.below hb)
  replace A2 := Lib.hid (A2.out.below hb)
  replace A3 := Lib.hid (A3.out.below hb)
  replace HC := Lib.hid (fun o => ((bkeep w.heap.size hb HL.out).1 o).trans (HC.out o))
  have Z16 : Hid (w15.heap.size ≤ w16.heap.size) := Lib.hid hb.size
  replace HL := Lib.hid ((bkeep w.heap.size hb HL.out).2.2)
  replace B := Lib.hid (bthen B.out hb); clear hb
  clear t2
  go_wp2_with fail
  refine (FF_to _ a3 c3 X A3.out hnX HI.out).mono ?_
  rintro e w17 ⟨p_t3, q_t3, vs_t3, rfl, t3, hb⟩
  replace s1 := Lib.hid (s1.out.below hb)
  replace s2 := Lib.hid (s2.out.below hb)
  replace x1 := Lib.hid (x1.out.below hb)
  replace x2 := Lib.hid (x2.out.below hb)
  replace x3 := Lib.hid (x3.out.below hb)
  replace g1 := Lib.hid (g1.out.below hb)
  replace g2 := Lib.hid (g2.out.below hb)
  replace t3 := Lib.hid t3
  replace A1 := Lib.hid (A1.out.below hb)
  replace A2 := Lib.hid (A2.out.below hb)
  replace A3 := Lib.hid (A3.out.below hb)
  replace HC := Lib.hid (fun o => ((bkeep w.heap.size hb HL.out).1 o).trans (HC.out o))
  have Z17 : Hid (w16.heap.size ≤ w17.heap.size) := Lib.hid hb.size
  replace HL := Lib.hid ((bkeep w.heap.size hb HL.out).2.2)
  replace B := Lib.hid (bthen B.out hb); clear hb
  go_wp2_with fail
  refine (FF_eq _ x3.out t3.out rfl hnX HI.out).mono ?_
  rintro e w18 ⟨rfl, hb⟩
  replace s1 := Lib.hid (s1.out.below hb)
  replace s2 := Lib.hid (s2.out.below hb)
  replace x1 := Lib.hid (x1.out.below hb)
  replace x2 := Lib.hid (x2.out.below hb)
  replace x3 := Lib.hid (x3.out.below hb)
  replace g1 := Lib.hid (g1.out.below hb)
  replace g2 := Lib.hid (g2.out.below hb)
  replace t3 := Lib.hid (t3.out.below hb)
  replace A1 := Lib.hid (A1.out.below hb)
  replace A2 := Lib.hid (A2.out.below hb)
  replace A3 := Lib.hid (A3.out.below hb)
  replace HC := Lib.hid (fun o => ((bkeep w.heap.size hb HL.out).1 o).trans (HC.out o))
  have Z18 : Hid (w17.heap.size ≤ w18.heap.size) := Lib.hid hb.size
  replace HL := Lib.hid ((bkeep w.heap.size hb HL.out).2.2)
  replace B := Lib.hid (bthen B.out hb); clear hb
  clear t3
  go_wp2_with fail
  refine (F_mark _ (1) x1.out hn1 (by omega)).mono ?_
  rintro e w19 ⟨rfl, hr, ht⟩
  replace s1 := Lib.hid (s1.out.touch ht (by have z0 := Z0.out; have z1 := Z1.out; have z2 := Z2.out; have z3 := Z3.out; have z4 := Z4.out; have z5 := Z5.out; have z6 := Z6.out; have z7 := Z7.out; have z8 := Z8.out; have z9 := Z9.out; have z10 := Z10.out; have z11 := Z11.out; have z12 := Z12.out; have z13 := Z13.out; have z14 := Z14.out; have z15 := Z15.out; have z16 := Z16.out; have z17 := Z17.out; have z18 := Z18.out; have rr_s := RR_s.out; have rr_g := RR_g.out; have hl := HL.out; omega))
  replace s2 := Lib.hid (s2.out.touch ht (by have z0 := Z0.out; have z1 := Z1.out; have z2 := Z2.out; have z3 := Z3.out; have z4 := Z4.out; have z5 := Z5.out; have z6 := Z6.out; have z7 := Z7.out; have z8 := Z8.out; have z9 := Z9.out; have z10 := Z10.out; have z11 := Z11.out; have z12 := Z12.out; have z13 := Z13.out; have z14 := Z14.out; have z15 := Z15.out; have z16 := Z16.out; have z17 := Z17.out; have z18 := Z18.out; have rr_s := RR_s.out; have rr_g := RR_g.out; have hl := HL.out; omega))
  replace x2 := Lib.hid (x2.out.touch ht (by have z0 := Z0.out; have z1 := Z1.out; have z2 := Z2.out; have z3 := Z3.out; have z4 := Z4.out; have z5 := Z5.out; have z6 := Z6.out; have z7 := Z7.out; have z8 := Z8.out; have z9 := Z9.out; have z10 := Z10.out; have z11 := Z11.out; have z12 := Z12.out; have z13 := Z13.out; have z14 := Z14.out; have z15 := Z15.out; have z16 := Z16.out; have z17 := Z17.out; have z18 := Z18.out; have rr_s := RR_s.out; have rr_g := RR_g.out; have hl := HL.out; omega))
  replace x3 := Lib.hid (x3.out.touch ht (by have z0 := Z0.out; have z1 := Z1.out; have z2 := Z2.out; have z3 := Z3.out; have z4 := Z4.out; have z5 := Z5.out; have z6 := Z6.out; have z7 := Z7.out; have z8 := Z8.out; have z9 := Z9.out; have z10 := Z10.out; have z11 := Z11.out; have z12 := Z12.out; have z13 := Z13.out; have z14 := Z14.out; have z15 := Z15.out; have z16 := Z16.out; have z17 := Z17.out; have z18 := Z18.out; have rr_s := RR_s.out; have rr_g := RR_g.out; have hl := HL.out; omega))
  replace g1 := Lib.hid (g1.out.touch ht (by have z0 := Z0.out; have z1 := Z1.out; have z2 := Z2.out; have z3 := Z3.out; have z4 := Z4.out; have z5 := Z5.out; have z6 := Z6.out; have z7 := Z7.out; have z8 := Z8.out; have z9 := Z9.out; have z10 := Z10.out; have z11 := Z11.out; have z12 := Z12.out; have z13 := Z13.out; have z14 := Z14.out; have z15 := Z15.out; have z16 := Z16.out; have z17 := Z17.out; have z18 := Z18.out; have rr_s := RR_s.out; have rr_g := RR_g.out; have hl := HL.out; omega))
  replace g2 := Lib.hid (g2.out.touch ht (by have z0 := Z0.out; have z1 := Z1.out; have z2 := Z2.out; have z3 := Z3.out; have z4 := Z4.out; have z5 := Z5.out; have z6 := Z6.out; have z7 := Z7.out; have z8 := Z8.out; have z9 := Z9.out; have z10 := Z10.out; have z11 := Z11.out; have z12 := Z12.out; have z13 := Z13.out; have z14 := Z14.out; have z15 := Z15.out; have z16 := Z16.out; have z17 := Z17.out; have z18 := Z18.out; have rr_s := RR_s.out; have rr_g := RR_g.out; have hl := HL.out; omega))
  clear x1; have x1 := Lib.hid hr; clear hr
  have Z19 : Hid (w18.heap.size ≤ w19.heap.size) := Lib.hid ht.size
  replace HC := Lib.hid (fun o => (World.cell?_of_block (w := w18) (a := ⟨w.heap.size, o, none⟩) (ht.block w.heap.size HL.out (.inl (by have z0 := Z0.out; have z1 := Z1.out; have z2 := Z2.out; have z3 := Z3.out; have z4 := Z4.out; have z5 := Z5.out; have z6 := Z6.out; have z7 := Z7.out; have z8 := Z8.out; have z9 := Z9.out; have z10 := Z10.out; have z11 := Z11.out; have z12 := Z12.out; have z13 := Z13.out; have z14 := Z14.out; have z15 := Z15.out; have z16 := Z16.out; have z17 := Z17.out; have z18 := Z18.out; have rr_s := RR_s.out; have rr_g := RR_g.out; have hl := HL.out; omega)))).trans (HC.out o))
  replace B := Lib.hid (touch_below B.out ht (by have z0 := Z0.out; have z1 := Z1.out; have z2 := Z2.out; have z3 := Z3.out; have z4 := Z4.out; have z5 := Z5.out; have z6 := Z6.out; have z7 := Z7.out; have z8 := Z8.out; have z9 := Z9.out; have z10 := Z10.out; have z11 := Z11.out; have z12 := Z12.out; have z13 := Z13.out; have z14 := Z14.out; have z15 := Z15.out; have z16 := Z16.out; have z17 := Z17.out; have z18 := Z18.out; have rr_s := RR_s.out; have rr_g := RR_g.out; have hl := HL.out; omega))
  replace HL : Hid (w.heap.size < w19.heap.size) := Lib.hid (Nat.lt_of_lt_of_le HL.out ht.size); clear ht
  replace A1 := Lib.hid (A1z.out.below B.out)
  replace A2 := Lib.hid (A2z.out.below B.out)
  replace A3 := Lib.hid (A3z.out.below B.out)
  go_wp2_with fail
  refine (F_mark _ (1 + l1.length) x2.out hn2 (by omega)).mono ?_
  rintro e w20 ⟨rfl, hr, ht⟩
  replace s1 := Lib.hid (s1.out.touch ht (by have z0 := Z0.out; have z1 := Z1.out; have z2 := Z2.out; have z3 := Z3.out; have z4 := Z4.out; have z5 := Z5.out; have z6 := Z6.out; have z7 := Z7.out; have z8 := Z8.out; have z9 := Z9.out; have z10 := Z10.out; have z11 := Z11.out; have z12 := Z12.out; have z13 := Z13.out; have z14 := Z14.out; have z15 := Z15.out; have z16 := Z16.out; have z17 := Z17.out; have z18 := Z18.out; have z19 := Z19.out; have rr_s := RR_s.out; have rr_g := RR_g.out; have hl := HL.out; omega))
  replace s2 := Lib.hid (s2.out.touch ht (by have z0 := Z0.out; have z1 := Z1.out; have z2 := Z2.out; have z3 := Z3.out; have z4 := Z4.out; have z5 := Z5.out; have z6 := Z6.out; have z7 := Z7.out; have z8 := Z8.out; have z9 := Z9.out; have z10 := Z10.out; have z11 := Z11.out; have z12 := Z12.out; have z13 := Z13.out; have z14 := Z14.out; have z15 := Z15.out; have z16 := Z16.out; have z17 := Z17.out; have z18 := Z18.out; have z19 := Z19.out; have rr_s := RR_s.out; have rr_g := RR_g.out; have hl := HL.out; omega))
  replace x1 := Lib.hid (x1.out.touch ht (by have z0 := Z0.out; have z1 := Z1.out; have z2 := Z2.out; have z3 := Z3.out; have z4 := Z4.out; have z5 := Z5.out; have z6 := Z6.out; have z7 := Z7.out; have z8 := Z8.out; have z9 := Z9.out; have z10 := Z10.out; have z11 := Z11.out; have z12 := Z12.out; have z13 := Z13.out; have z14 := Z14.out; have z15 := Z15.out; have z16 := Z16.out; have z17 := Z17.out; have z18 := Z18.out; have z19 := Z19.out; have rr_s := RR_s.out; have rr_g := RR_g.out; have hl := HL.out; omega))
  replace x3 := Lib.hid (x3.out.touch ht (by have z0 := Z0.out; have z1 := Z1.out; have z2 := Z2.out; have z3 := Z3.out; have z4 := Z4.out; have z5 := Z5.out; have z6 := Z6.out; have z7 := Z7.out; have z8 := Z8.out; have z9 := Z9.out; have z10 := Z10.out; have z11 := Z11.out; have z12 := Z12.out; have z13 := Z13.out; have z14 := Z14.out; have z15 := Z15.out; have z16 := Z16.out; have z17 := Z17.out; have z18 := Z18.out; have z19 := Z19.out; have rr_s := RR_s.out; have rr_g := RR_g.out; have hl := HL.out; omega))
  replace g1 := Lib.hid (g1.out.touch ht (by have z0 := Z0.out; have z1 := Z1.out; have z2 := Z2.out; have z3 := Z3.out; have z4 := Z4.out; have z5 := Z5.out; have z6 := Z6.out; have z7 := Z7.out; have z8 := Z8.out; have z9 := Z9.out; have z10 := Z10.out; have z11 := Z11.out; have z12 := Z12.out; have z13 := Z13.out; have z14 := Z14.out; have z15 := Z15.out; have z16 := Z16.out; have z17 := Z17.out; have z18 := Z18.out; have z19 := Z19.out; have rr_s := RR_s.out; have rr_g := RR_g.out; have hl := HL.out; omega))
  replace g2 := Lib.hid (g2.out.touch ht (by have z0 := Z0.out; have z1 := Z1.out; have z2 := Z2.out; have z3 := Z3.out; have z4 := Z4.out; have z5 := Z5.out; have z6 := Z6.out; have z7 := Z7.out; have z8 := Z8.out; have z9 := Z9.out; have z10 := Z10.out; have z11 := Z11.out; have z12 := Z12.out; have z13 := Z13.out; have z14 := Z14.out; have z15 := Z15.out; have z16 := Z16.out; have z17 := Z17.out; have z18 := Z18.out; have z19 := Z19.out; have rr_s := RR_s.out; have rr_g := RR_g.out; have hl := HL.out; omega))
  clear x2; have x2 := Lib.hid hr; clear hr
  have Z20 : Hid (w19.heap.size ≤ w20.heap.size) := Lib.hid ht.size
  replace HC := Lib.hid (fun o => (World.cell?_of_block (w := w19) (a := ⟨w.heap.size, o, none⟩) (ht.block w.heap.size HL.out (.inl (by have z0 := Z0.out; have z1 := Z1.out; have z2 := Z2.out; have z3 := Z3.out; have z4 := Z4.out; have z5 := Z5.out; have z6 := Z6.out; have z7 := Z7.out; have z8 := Z8.out; have z9 := Z9.out; have z10 := Z10.out; have z11 := Z11.out; have z12 := Z12.out; have z13 := Z13.out; have z14 := Z14.out; have z15 := Z15.out; have z16 := Z16.out; have z17 := Z17.out; have z18 := Z18.out; have z19 := Z19.out; have rr_s := RR_s.out; have rr_g := RR_g.out; have hl := HL.out; omega)))).trans (HC.out o))
  replace B := Lib.hid (touch_below B.out ht (by have z0 := Z0.out; have z1 := Z1.out; have z2 := Z2.out; have z3 := Z3.out; have z4 := Z4.out; have z5 := Z5.out; have z6 := Z6.out; have z7 := Z7.out; have z8 := Z8.out; have z9 := Z9.out; have z10 := Z10.out; have z11 := Z11.out; have z12 := Z12.out; have z13 := Z13.out; have z14 := Z14.out; have z15 := Z15.out; have z16 := Z16.out; have z17 := Z17.out; have z18 := Z18.out; have z19 := Z19.out; have rr_s := RR_s.out; have rr_g := RR_g.out; have hl := HL.out; omega))
  replace HL : Hid (w.heap.size < w20.heap.size) := Lib.hid (Nat.lt_of_lt_of_le HL.out ht.size); clear ht
  replace A1 := Lib.hid (A1z.out.below B.out)
  replace A2 := Lib.hid (A2z.out.below B.out)
  replace A3 := Lib.hid (A3z.out.below B.out)
  go_wp2_with fail
  refine (FF_mark _ (1 + l1.length + l2.length) x3.out hnX (by have := HC0.out; omega) HI.out).mono ?_
  rintro e w21 ⟨rfl, hr, ht⟩
  replace s1 := Lib.hid (s1.out.touch ht (by have z0 := Z0.out; have z1 := Z1.out; have z2 := Z2.out; have z3 := Z3.out; have z4 := Z4.out; have z5 := Z5.out; have z6 := Z6.out; have z7 := Z7.out; have z8 := Z8.out; have z9 := Z9.out; have z10 := Z10.out; have z11 := Z11.out; have z12 := Z12.out; have z13 := Z13.out; have z14 := Z14.out; have z15 := Z15.out; have z16 := Z16.out; have z17 := Z17.out; have z18 := Z18.out; have z19 := Z19.out; have z20 := Z20.out; have rr_s := RR_s.out; have rr_g := RR_g.out; have hl := HL.out; omega))
  replace s2 := Lib.hid (s2.out.touch ht (by have z0 := Z0.out; have z1 := Z1.out; have z2 := Z2.out; have z3 := Z3.out; have z4 := Z4.out; have z5 := Z5.out; have z6 := Z6.out; have z7 := Z7.out; have z8 := Z8.out; have z9 := Z9.out; have z10 := Z10.out; have z11 := Z11.out; have z12 := Z12.out; have z13 := Z13.out; have z14 := Z14.out; have z15 := Z15.out; have z16 := Z16.out; have z17 := Z17.out; have z18 := Z18.out; have z19 := Z19.out; have z20 := Z20.out; have rr_s := RR_s.out; have rr_g := RR_g.out; have hl := HL.out; omega))
  replace x1 := Lib.hid (x1.out.touch ht (by have z0 := Z0.out; have z1 := Z1.out; have z2 := Z2.out; have z3 := Z3.out; have z4 := Z4.out; have z5 := Z5.out; have z6 := Z6.out; have z7 := Z7.out; have z8 := Z8.out; have z9 := Z9.out; have z10 := Z10.out; have z11 := Z11.out; have z12 := Z12.out; have z13 := Z13.out; have z14 := Z14.out; have z15 := Z15.out; have z16 := Z16.out; have z17 := Z17.out; have z18 := Z18.out; have z19 := Z19.out; have z20 := Z20.out; have rr_s := RR_s.out; have rr_g := RR_g.out; have hl := HL.out; omega))
  replace x2 := Lib.hid (x2.out.touch ht (by have z0 := Z0.out; have z1 := Z1.out; have z2 := Z2.out; have z3 := Z3.out; have z4 := Z4.out; have z5 := Z5.out; have z6 := Z6.out; have z7 := Z7.out; have z8 := Z8.out; have z9 := Z9.out; have z10 := Z10.out; have z11 := Z11.out; have z12 := Z12.out; have z13 := Z13.out; have z14 := Z14.out; have z15 := Z15.out; have z16 := Z16.out; have z17 := Z17.out; have z18 := Z18.out; have z19 := Z19.out; have z20 := Z20.out; have rr_s := RR_s.out; have rr_g := RR_g.out; have hl := HL.out; omega))
  replace g1 := Lib.hid (g1.out.touch ht (by have z0 := Z0.out; have z1 := Z1.out; have z2 := Z2.out; have z3 := Z3.out; have z4 := Z4.out; have z5 := Z5.out; have z6 := Z6.out; have z7 := Z7.out; have z8 := Z8.out; have z9 := Z9.out; have z10 := Z10.out; have z11 := Z11.out; have z12 := Z12.out; have z13 := Z13.out; have z14 := Z14.out; have z15 := Z15.out; have z16 := Z16.out; have z17 := Z17.out; have z18 := Z18.out; have z19 := Z19.out; have z20 := Z20.out; have rr_s := RR_s.out; have rr_g := RR_g.out; have hl := HL.out; omega))
  replace g2 := Lib.hid (g2.out.touch ht (by have z0 := Z0.out; have z1 := Z1.out; have z2 := Z2.out; have z3 := Z3.out; have z4 := Z4.out; have z5 := Z5.out; have z6 := Z6.out; have z7 := Z7.out; have z8 := Z8.out; have z9 := Z9.out; have z10 := Z10.out; have z11 := Z11.out; have z12 := Z12.out; have z13 := Z13.out; have z14 := Z14.out; have z15 := Z15.out; have z16 := Z16.out; have z17 := Z17.out; have z18 := Z18.out; have z19 := Z19.out; have z20 := Z20.out; have rr_s := RR_s.out; have rr_g := RR_g.out; have hl := HL.out; omega))
  clear x3; obtain ⟨Z_x3, x3, hM_x3⟩ := hr.out; have M_x3 := Lib.hid hM_x3; replace x3 := Lib.hid x3; clear hr hM_x3
  have Z21 : Hid (w20.heap.size ≤ w21.heap.size) := Lib.hid ht.size
  replace HC := Lib.hid (fun o => (World.cell?_of_block (w := w20) (a := ⟨w.heap.size, o, none⟩) (ht.block w.heap.size HL.out (.inl (by have z0 := Z0.out; have z1 := Z1.out; have z2 := Z2.out; have z3 := Z3.out; have z4 := Z4.out; have z5 := Z5.out; have z6 := Z6.out; have z7 := Z7.out; have z8 := Z8.out; have z9 := Z9.out; have z10 := Z10.out; have z11 := Z11.out; have z12 := Z12.out; have z13 := Z13.out; have z14 := Z14.out; have z15 := Z15.out; have z16 := Z16.out; have z17 := Z17.out; have z18 := Z18.out; have z19 := Z19.out; have z20 := Z20.out; have rr_s := RR_s.out; have rr_g := RR_g.out; have hl := HL.out; omega)))).trans (HC.out o))
  replace B := Lib.hid (touch_below B.out ht (by have z0 := Z0.out; have z1 := Z1.out; have z2 := Z2.out; have z3 := Z3.out; have z4 := Z4.out; have z5 := Z5.out; have z6 := Z6.out; have z7 := Z7.out; have z8 := Z8.out; have z9 := Z9.out; have z10 := Z10.out; have z11 := Z11.out; have z12 := Z12.out; have z13 := Z13.out; have z14 := Z14.out; have z15 := Z15.out; have z16 := Z16.out; have z17 := Z17.out; have z18 := Z18.out; have z19 := Z19.out; have z20 := Z20.out; have rr_s := RR_s.out; have rr_g := RR_g.out; have hl := HL.out; omega))
  replace HL : Hid (w.heap.size < w21.heap.size) := Lib.hid (Nat.lt_of_lt_of_le HL.out ht.size); clear ht
  replace A1 := Lib.hid (A1z.out.below B.out)
  replace A2 := Lib.hid (A2z.out.below B.out)
  replace A3 := Lib.hid (A3z.out.below B.out)
  go_wp2_with fail
  refine (F_eq _ g1.out s1.out (by rw [E1_g.out, E1_s.out]) (by omega)).mono ?_
  rintro e w22 ⟨rfl, hb⟩
  replace s1 := Lib.hid (s1.out.below hb)
  replace s2 := Lib.hid (s2.out.below hb)
  replace x1 := Lib.hid (x1.out.below hb)
  replace x2 := Lib.hid (x2.out.below hb)
  replace x3 := Lib.hid (x3.out.below hb)
  replace g1 := Lib.hid (g1.out.below hb)
  replace g2 := Lib.hid (g2.out.below hb)
  replace A1 := Lib.hid (A1.out.below hb)
  replace A2 := Lib.hid (A2.out.below hb)
  replace A3 := Lib.hid (A3.out.below hb)
  replace HC := Lib.hid (fun o => ((bkeep w.heap.size hb HL.out).1 o).trans (HC.out o))
  have Z22 : Hid (w21.heap.size ≤ w22.heap.size) := Lib.hid hb.size
  replace HL := Lib.hid ((bkeep w.heap.size hb HL.out).2.2)
  replace B := Lib.hid (bthen B.out hb); clear hb
  go_wp2_with fail
  refine (FF_eq _ g2.out s2.out (by rw [E2_g.out, E2_s.out]) (by omega) (fun i hi => by have := BI_g.out i hi; omega)).mono ?_
  rintro e w23 ⟨rfl, hb⟩
  replace s1 := Lib.hid (s1.out.below hb)
  replace s2 := Lib.hid (s2.out.below hb)
  replace x1 := Lib.hid (x1.out.below hb)
  replace x2 := Lib.hid (x2.out.below hb)
  replace x3 := Lib.hid (x3.out.below hb)
  replace g1 := Lib.hid (g1.out.below hb)
  replace g2 := Lib.hid (g2.out.below hb)
  replace A1 := Lib.hid (A1.out.below hb)
  replace A2 := Lib.hid (A2.out.below hb)
  replace A3 := Lib.hid (A3.out.below hb)
  replace HC := Lib.hid (fun o => ((bkeep w.heap.size hb HL.out).1 o).trans (HC.out o))
  have Z23 : Hid (w22.heap.size ≤ w23.heap.size) := Lib.hid hb.size
  replace HL := Lib.hid ((bkeep w.heap.size hb HL.out).2.2)
  replace B := Lib.hid (bthen B.out hb); clear hb
  clear x1
  clear x2
  clear x3
  have hcg := cum_two g2.out.len bm_g BI_g.out
  have BI_g2 : Hid (∀ i, i < m_g → (Y_g.getD i []).length ≤ 1048576) := Lib.hid (fun i hi => by have := BI_g.out i hi; omega)
  have HLG := Lib.hid g2.out.len
  go_wp2_with fail
  refine (F_mark _ (1) g1.out (by omega) (by omega)).mono ?_
  rintro e w24 ⟨rfl, hr, ht⟩
  replace s1 := Lib.hid (s1.out.touch ht (by have z0 := Z0.out; have z1 := Z1.out; have z2 := Z2.out; have z3 := Z3.out; have z4 := Z4.out; have z5 := Z5.out; have z6 := Z6.out; have z7 := Z7.out; have z8 := Z8.out; have z9 := Z9.out; have z10 := Z10.out; have z11 := Z11.out; have z12 := Z12.out; have z13 := Z13.out; have z14 := Z14.out; have z15 := Z15.out; have z16 := Z16.out; have z17 := Z17.out; have z18 := Z18.out; have z19 := Z19.out; have z20 := Z20.out; have z21 := Z21.out; have z22 := Z22.out; have z23 := Z23.out; have rr_s := RR_s.out; have rr_g := RR_g.out; have hl := HL.out; omega))
  replace s2 := Lib.hid (s2.out.touch ht (by have z0 := Z0.out; have z1 := Z1.out; have z2 := Z2.out; have z3 := Z3.out; have z4 := Z4.out; have z5 := Z5.out; have z6 := Z6.out; have z7 := Z7.out; have z8 := Z8.out; have z9 := Z9.out; have z10 := Z10.out; have z11 := Z11.out; have z12 := Z12.out; have z13 := Z13.out; have z14 := Z14.out; have z15 := Z15.out; have z16 := Z16.out; have z17 := Z17.out; have z18 := Z18.out; have z19 := Z19.out; have z20 := Z20.out; have z21 := Z21.out; have z22 := Z22.out; have z23 := Z23.out; have rr_s := RR_s.out; have rr_g := RR_g.out; have hl := HL.out; omega))
  replace g2 := Lib.hid (g2.out.touch ht (by have z0 := Z0.out; have z1 := Z1.out; have z2 := Z2.out; have z3 := Z3.out; have z4 := Z4.out; have z5 := Z5.out; have z6 := Z6.out; have z7 := Z7.out; have z8 := Z8.out; have z9 := Z9.out; have z10 := Z10.out; have z11 := Z11.out; have z12 := Z12.out; have z13 := Z13.out; have z14 := Z14.out; have z15 := Z15.out; have z16 := Z16.out; have z17 := Z17.out; have z18 := Z18.out; have z19 := Z19.out; have z20 := Z20.out; have z21 := Z21.out; have z22 := Z22.out; have z23 := Z23.out; have rr_s := RR_s.out; have rr_g := RR_g.out; have hl := HL.out; omega))
  clear g1; have g1 := Lib.hid hr; clear hr
  have Z24 : Hid (w23.heap.size ≤ w24.heap.size) := Lib.hid ht.size
  replace HC := Lib.hid (fun o => (World.cell?_of_block (w := w23) (a := ⟨w.heap.size, o, none⟩) (ht.block w.heap.size HL.out (.inl (by have z0 := Z0.out; have z1 := Z1.out; have z2 := Z2.out; have z3 := Z3.out; have z4 := Z4.out; have z5 := Z5.out; have z6 := Z6.out; have z7 := Z7.out; have z8 := Z8.out; have z9 := Z9.out; have z10 := Z10.out; have z11 := Z11.out; have z12 := Z12.out; have z13 := Z13.out; have z14 := Z14.out; have z15 := Z15.out; have z16 := Z16.out; have z17 := Z17.out; have z18 := Z18.out; have z19 := Z19.out; have z20 := Z20.out; have z21 := Z21.out; have z22 := Z22.out; have z23 := Z23.out; have rr_s := RR_s.out; have rr_g := RR_g.out; have hl := HL.out; omega)))).trans (HC.out o))
  replace B := Lib.hid (touch_below B.out ht (by have z0 := Z0.out; have z1 := Z1.out; have z2 := Z2.out; have z3 := Z3.out; have z4 := Z4.out; have z5 := Z5.out; have z6 := Z6.out; have z7 := Z7.out; have z8 := Z8.out; have z9 := Z9.out; have z10 := Z10.out; have z11 := Z11.out; have z12 := Z12.out; have z13 := Z13.out; have z14 := Z14.out; have z15 := Z15.out; have z16 := Z16.out; have z17 := Z17.out; have z18 := Z18.out; have z19 := Z19.out; have z20 := Z20.out; have z21 := Z21.out; have z22 := Z22.out; have z23 := Z23.out; have rr_s := RR_s.out; have rr_g := RR_g.out; have hl := HL.out; omega))
  replace HL : Hid (w.heap.size < w24.heap.size) := Lib.hid (Nat.lt_of_lt_of_le HL.out ht.size); clear ht
  replace A1 := Lib.hid (A1z.out.below B.out)
  replace A2 := Lib.hid (A2z.out.below B.out)
  replace A3 := Lib.hid (A3z.out.below B.out)
  go_wp2_with fail
  refine (FF_mark _ (1 + n_g) g2.out (by omega) (by omega) BI_g2.out).mono ?_
  rintro e w25 ⟨rfl, hr, ht⟩
  replace s1 := Lib.hid (s1.out.touch ht (by have z0 := Z0.out; have z1 := Z1.out; have z2 := Z2.out; have z3 := Z3.out; have z4 := Z4.out; have z5 := Z5.out; have z6 := Z6.out; have z7 := Z7.out; have z8 := Z8.out; have z9 := Z9.out; have z10 := Z10.out; have z11 := Z11.out; have z12 := Z12.out; have z13 := Z13.out; have z14 := Z14.out; have z15 := Z15.out; have z16 := Z16.out; have z17 := Z17.out; have z18 := Z18.out; have z19 := Z19.out; have z20 := Z20.out; have z21 := Z21.out; have z22 := Z22.out; have z23 := Z23.out; have z24 := Z24.out; have rr_s := RR_s.out; have rr_g := RR_g.out; have hl := HL.out; omega))
  replace s2 := Lib.hid (s2.out.touch ht (by have z0 := Z0.out; have z1 := Z1.out; have z2 := Z2.out; have z3 := Z3.out; have z4 := Z4.out; have z5 := Z5.out; have z6 := Z6.out; have z7 := Z7.out; have z8 := Z8.out; have z9 := Z9.out; have z10 := Z10.out; have z11 := Z11.out; have z12 := Z12.out; have z13 := Z13.out; have z14 := Z14.out; have z15 := Z15.out; have z16 := Z16.out; have z17 := Z17.out; have z18 := Z18.out; have z19 := Z19.out; have z20 := Z20.out; have z21 := Z21.out; have z22 := Z22.out; have z23 := Z23.out; have z24 := Z24.out; have rr_s := RR_s.out; have rr_g := RR_g.out; have hl := HL.out; omega))
  replace g1 := Lib.hid (g1.out.touch ht (by have z0 := Z0.out; have z1 := Z1.out; have z2 := Z2.out; have z3 := Z3.out; have z4 := Z4.out; have z5 := Z5.out; have z6 := Z6.out; have z7 := Z7.out; have z8 := Z8.out; have z9 := Z9.out; have z10 := Z10.out; have z11 := Z11.out; have z12 := Z12.out; have z13 := Z13.out; have z14 := Z14.out; have z15 := Z15.out; have z16 := Z16.out; have z17 := Z17.out; have z18 := Z18.out; have z19 := Z19.out; have z20 := Z20.out; have z21 := Z21.out; have z22 := Z22.out; have z23 := Z23.out; have z24 := Z24.out; have rr_s := RR_s.out; have rr_g := RR_g.out; have hl := HL.out; omega))
  clear g2; obtain ⟨Z_g2, g2, hM_g2⟩ := hr.out; have M_g2 := Lib.hid hM_g2; replace g2 := Lib.hid g2; clear hr hM_g2
  have Z25 : Hid (w24.heap.size ≤ w25.heap.size) := Lib.hid ht.size
  replace HC := Lib.hid (fun o => (World.cell?_of_block (w := w24) (a := ⟨w.heap.size, o, none⟩) (ht.block w.heap.size HL.out (.inl (by have z0 := Z0.out; have z1 := Z1.out; have z2 := Z2.out; have z3 := Z3.out; have z4 := Z4.out; have z5 := Z5.out; have z6 := Z6.out; have z7 := Z7.out; have z8 := Z8.out; have z9 := Z9.out; have z10 := Z10.out; have z11 := Z11.out; have z12 := Z12.out; have z13 := Z13.out; have z14 := Z14.out; have z15 := Z15.out; have z16 := Z16.out; have z17 := Z17.out; have z18 := Z18.out; have z19 := Z19.out; have z20 := Z20.out; have z21 := Z21.out; have z22 := Z22.out; have z23 := Z23.out; have z24 := Z24.out; have rr_s := RR_s.out; have rr_g := RR_g.out; have hl := HL.out; omega)))).trans (HC.out o))
  replace B := Lib.hid (touch_below B.out ht (by have z0 := Z0.out; have z1 := Z1.out; have z2 := Z2.out; have z3 := Z3.out; have z4 := Z4.out; have z5 := Z5.out; have z6 := Z6.out; have z7 := Z7.out; have z8 := Z8.out; have z9 := Z9.out; have z10 := Z10.out; have z11 := Z11.out; have z12 := Z12.out; have z13 := Z13.out; have z14 := Z14.out; have z15 := Z15.out; have z16 := Z16.out; have z17 := Z17.out; have z18 := Z18.out; have z19 := Z19.out; have z20 := Z20.out; have z21 := Z21.out; have z22 := Z22.out; have z23 := Z23.out; have z24 := Z24.out; have rr_s := RR_s.out; have rr_g := RR_g.out; have hl := HL.out; omega))
  replace HL : Hid (w.heap.size < w25.heap.size) := Lib.hid (Nat.lt_of_lt_of_le HL.out ht.size); clear ht
  replace A1 := Lib.hid (A1z.out.below B.out)
  replace A2 := Lib.hid (A2z.out.below B.out)
  replace A3 := Lib.hid (A3z.out.below B.out)
  go_wp2_with fail
  refine (F_held _ (1) g1.out (by omega) (by omega)).mono ?_
  rintro e we ⟨rfl, rfl⟩
  go_wp2_with fail
  refine (FF_held _ (1 + n_g) g2.out M_g2.out HLG.out (by omega) (by omega) BI_g2.out).mono ?_
  rintro e we ⟨rfl, rfl⟩
  have hc := HC.out; have hl := HL.out
  go_wp2_with fail
  clear hc hl
  refine (laws_toOptimizer _ _ _ _ _ _).mono ?_
  rintro e w26 ⟨rfl, hb⟩
  replace s1 := Lib.hid (s1.out.below hb)
  replace s2 := Lib.hid (s2.out.below hb)
  replace g1 := Lib.hid (g1.out.below hb)
  replace g2 := Lib.hid (g2.out.below hb)
  replace A1 := Lib.hid (A1.out.below hb)
  replace A2 := Lib.hid (A2.out.below hb)
  replace A3 := Lib.hid (A3.out.below hb)
  replace HC := Lib.hid (fun o => ((bkeep w.heap.size hb HL.out).1 o).trans (HC.out o))
  have Z26 : Hid (w25.heap.size ≤ w26.heap.size) := Lib.hid hb.size
  replace HL := Lib.hid ((bkeep w.heap.size hb HL.out).2.2)
  replace B := Lib.hid (bthen B.out hb); clear hb
  go_wp2_with fail
  refine (F_to _ a1 c1 l1 A1.out hn1).mono ?_
  rintro e w27 ⟨p_t1, q_t1, rfl, t1, hb⟩
  replace s1 := Lib.hid (s1.out.below hb)
  replace s2 := Lib.hid (s2.out.below hb)
  replace g1 := Lib.hid (g1.out.below hb)
  replace g2 := Lib.hid (g2.out.below hb)
  replace t1 := Lib.hid t1
  replace A1 := Lib.hid (A1.out.below hb)
  replace A2 := Lib.hid (A2.out.below hb)
  replace A3 := Lib.hid (A3.out.below hb)
  replace HC := Lib.hid (fun o => ((bkeep w.heap.size hb HL.out).1 o).trans (HC.out o))
  have Z27 : Hid (w26.heap.size ≤ w27.heap.size) := Lib.hid hb.size
  replace HL := Lib.hid ((bkeep w.heap.size hb HL.out).2.2)
  replace B := Lib.hid (bthen B.out hb); clear hb
  go_wp2_with fail
  refine (F_to _ a2 c2 l2 A2.out hn2).mono ?_
  rintro e w28 ⟨p_t2, q_t2, rfl, t2, hb⟩
  replace s1 := Lib.hid (s1.out.below hb)
  replace s2 := Lib.hid (s2.out.below hb)
  replace g1 := Lib.hid (g1.out.below hb)
  replace g2 := Lib.hid (g2.out.below hb)
  replace t1 := Lib.hid (t1.out.below hb)
  replace t2 := Lib.hid t2
  replace A1 := Lib.hid (A1.out.below hb)
  replace A2 := Lib.hid (A2.out.below hb)
  replace A3 := Lib.hid (A3.out.below hb)
  replace HC := Lib.hid (fun o => ((bkeep w.heap.size hb HL.out).1 o).trans (HC.out o))
  have Z28 : Hid (w27.heap.size ≤ w28.heap.size) := Lib.hid hb.size
  replace HL := Lib.hid ((bkeep w.heap.size hb HL.out).2.2)
  replace B := Lib.hid (bthen B.out hb); clear hb
  go_wp2_with fail
  refine (FF_to _ a3 c3 X A3.out hnX HI.out).mono ?_
  rintro e w29 ⟨p_t3, q_t3, vs_t3, rfl, t3, hb⟩
  replace s1 := Lib.hid (s1.out.below hb)
  replace s2 := Lib.hid (s2.out.below hb)
  replace g1 := Lib.hid (g1.out.below hb)
  replace g2 := Lib.hid (g2.out.below hb)
  replace t1 := Lib.hid (t1.out.below hb)
  replace t2 := Lib.hid (t2.out.below hb)
  replace t3 := Lib.hid t3
  replace A1 := Lib.hid (A1.out.below hb)
  replace A2 := Lib.hid (A2.out.below hb)
  replace A3 := Lib.hid (A3.out.below hb)
  replace HC := Lib.hid (fun o => ((bkeep w.heap.size hb HL.out).1 o).trans (HC.out o))
  have Z29 : Hid (w28.heap.size ≤ w29.heap.size) := Lib.hid hb.size
  replace HL := Lib.hid ((bkeep w.heap.size hb HL.out).2.2)
  replace B := Lib.hid (bthen B.out hb); clear hb
  go_wp2_with fail
  refine (impl_StepParams _ k r b1 b2 ep _ _ l1 t1.out.arg  _ _ l2 t2.out.arg _ _ _ _ X t3.out hnX s).mono ?_
  rintro e w30 ⟨a_h, n_h, c_h, y_h, d_h, m_h, q_h, u_h, Y_h, lo1_h, hi1_h, lo2_h, hi2_h, rfl, h1, h2, e1_h, e2_h, ⟨bn_h, bm_h, bi_h⟩, rr_h, hb⟩
  rw [HOK.out]
  have E1_h := Lib.hid e1_h; clear e1_h
  have E2_h := Lib.hid e2_h; clear e2_h
  have BI_h := Lib.hid bi_h; clear bi_h
  have RR_h := Lib.hid rr_h; clear rr_h
  replace s1 := Lib.hid (s1.out.below hb)
  replace s2 := Lib.hid (s2.out.below hb)
  replace g1 := Lib.hid (g1.out.below hb)
  replace g2 := Lib.hid (g2.out.below hb)
  replace t1 := Lib.hid (t1.out.below hb)
  replace t2 := Lib.hid (t2.out.below hb)
  replace t3 := Lib.hid (t3.out.below hb)
  replace h1 := Lib.hid h1
  replace h2 := Lib.hid h2
  replace A1 := Lib.hid (A1.out.below hb)
  replace A2 := Lib.hid (A2.out.below hb)
  replace A3 := Lib.hid (A3.out.below hb)
  replace HC := Lib.hid (fun o => ((bkeep w.heap.size hb HL.out).1 o).trans (HC.out o))
  have Z30 : Hid (w29.heap.size ≤ w30.heap.size) := Lib.hid hb.size
  replace HL := Lib.hid ((bkeep w.heap.size hb HL.out).2.2)
  replace B := Lib.hid (bthen B.out hb); clear hb
  clear t1
  clear t2
  clear t3
  go_wp2_with fail
  refine (F_eq _ h1.out s1.out (by rw [E1_h.out, E1_s.out]) (by omega)).mono ?_
  rintro e w31 ⟨rfl, hb⟩
  replace s1 := Lib.hid (s1.out.below hb)
  replace s2 := Lib.hid (s2.out.below hb)
  replace g1 := Lib.hid (g1.out.below hb)
  replace g2 := Lib.hid (g2.out.below hb)
  replace h1 := Lib.hid (h1.out.below hb)
  replace h2 := Lib.hid (h2.out.below hb)
  replace A1 := Lib.hid (A1.out.below hb)
  replace A2 := Lib.hid (A2.out.below hb)
  replace A3 := Lib.hid (A3.out.below hb)
  replace HC := Lib.hid (fun o => ((bkeep w.heap.size hb HL.out).1 o).trans (HC.out o))
  have Z31 : Hid (w30.heap.size ≤ w31.heap.size) := Lib.hid hb.size
  replace HL := Lib.hid ((bkeep w.heap.size hb HL.out).2.2)
  replace B := Lib.hid (bthen B.out hb); clear hb
  go_wp2_with fail
  refine (FF_eq _ h2.out s2.out (by rw [E2_h.out, E2_s.out]) (by omega) (fun i hi => by have := BI_h.out i hi; omega)).mono ?_
  rintro e w32 ⟨rfl, hb⟩
  replace s1 := Lib.hid (s1.out.below hb)
  replace s2 := Lib.hid (s2.out.below hb)
  replace g1 := Lib.hid (g1.out.below hb)
  replace g2 := Lib.hid (g2.out.below hb)
  replace h1 := Lib.hid (h1.out.below hb)
  replace h2 := Lib.hid (h2.out.below hb)
  replace A1 := Lib.hid (A1.out.below hb)
  replace A2 := Lib.hid (A2.out.below hb)
  replace A3 := Lib.hid (A3.out.below hb)
  replace HC := Lib.hid (fun o => ((bkeep w.heap.size hb HL.out).1 o).trans (HC.out o))
  have Z32 : Hid (w31.heap.size ≤ w32.heap.size) := Lib.hid hb.size
  replace HL := Lib.hid ((bkeep w.heap.size hb HL.out).2.2)
  replace B := Lib.hid (bthen B.out hb); clear hb
  go_wp2_with fail
  refine (F_held _ (1) g1.out (by omega) (by omega)).mono ?_
  rintro e we ⟨rfl, rfl⟩
  go_wp2_with fail
  refine (FF_held _ (1 + n_g) g2.out M_g2.out HLG.out (by omega) (by omega) BI_g2.out).mono ?_
  rintro e we ⟨rfl, rfl⟩
  go_wp2
  go_ret
  exact ⟨rfl, B.out⟩
end Go.Proofs.Ytaocilimggpdjaa
