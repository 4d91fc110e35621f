/- Joined texts 14: Grs WGrd. Each is told at its own head. No condition. -/
import Derived.Test.YtfjfjgegdaekbaaMc10
import Derived.Test.YtfjfjgegdaekbaaMc13
/- The gradients of a tape: the reference's function; bounds. No condition. -/
namespace Go.Proofs.Ytfjfjgegdaekbaa
open Go Go.RowKit
set_option linter.unusedVariables false
set_option linter.unusedSimpArgs false
theorem spec_Gradients (w : World) (ad : Option Addr) (cap : Nat) (os : List OpD) (h : SeeR opR w ad cap os) (hno : nilOK os) (hi2 : ∀ o ∈ os, o.xs.length ≤ 1048576) :
    Calls Try.prog 5 #[.slice ad os.length cap] w (TTPost (gradO (os.map OpD.toOpP)) w) := by
  have K := Lib.hid (spec_l04Is w ad cap os h)
  have H := Lib.hid h; have HNO := Lib.hid hno; have HI2 := Lib.hid hi2
  obtain ⟨n, hN⟩ : ∃ n, n = os.length := ⟨_, rfl⟩
  rw [← hN] at K ⊢
  have HN := Lib.hid hN
  clear h hno hi2 hN
  cases hs : shapesP (os.map OpD.toOpP) with
  | none =>
    rw [hs] at K
    have HS := Lib.hid (show gradO (os.map OpD.toOpP) = none by unfold gradO; rw [hs]; rfl)
    clear hs
    go_enter Try.func5, Try.ntmps5
    go_wp2_with fail
    refine K.out.mono ?_
    rintro e w1 ⟨rfl, hb⟩
    go_wp2
    go_ret2
    exact ⟨none, 0, 0, _, [], rfl, Lib.hid ⟨⟨by rw [HS.out]; rfl, by rw [HS.out]; rfl⟩, OwnR.nil _ _ _ _⟩, hb⟩
  | some S =>
    rw [hs] at K
    have K2 := Lib.hid (fun W (hb : Below w.heap.size w W) => spec_l04Run W ad cap os (H.out.below hb) HNO.out S hs HI2.out)
    have K3 := Lib.hid (fun W (hb : Below w.heap.size w W) a2 c2 us h1 h2 => spec_l04Gradients W ad a2 cap c2 os us (H.out.below hb) h1 S hs h2)
    rw [← HN.out] at K2 K3
    have HS := Lib.hid (show gradO (os.map OpD.toOpP) = some (gradP (os.map OpD.toOpP)) by unfold gradO; rw [hs]; rfl)
    clear hs
    go_enter Try.func5, Try.ntmps5
    go_wp2_with fail
    refine K.out.mono ?_
    rintro e w1 ⟨rfl, hb⟩
    have HB := Lib.hid hb
    have hzb := hb.size
    clear hb
    go_wp2_with fail
    refine (K2.out _ HB.out).mono ?_
    rintro e w2 ⟨a2, c2, us, rfl, HU, hb2⟩
    have HB2 := Lib.hid (bthen HB.out hb2)
    have hz2 := hb2.size
    clear hb2
    have K4 := Lib.hid (K3.out w2 HB2.out a2 c2 us HU.out.1.see HU.out.2)
    clear K3 HU
    go_wp2_with fail
    refine K4.out.mono ?_
    rintro e w3 ⟨a3, c3, vs, rfl, HV, hb3⟩
    have HB3 := Lib.hid (bthen HB2.out hb3); clear hb3
    go_wp2
    go_ret2
    exact ⟨_, _, _, _, vs, rfl, Lib.hid ⟨⟨by rw [HS.out]; rfl, by rw [HS.out]; exact HV.out.2⟩, HV.out.1.bounds (Nat.le_trans hzb hz2) (Nat.le_refl _)⟩, HB3.out⟩
/-- the gradients of a valid tape have the shapes of its values -/
theorem gradP_ok {os : List OpP} {S : List Sh} (hS : shapesP os = some S) : (gradP os).length ≤ 48 ∧ ∀ t ∈ gradP os, t.xs.length ≤ 256 := by
  have hp := shapesP_some hS
  have hv := valsN_ok (Nat.le_refl _) hp.2.1
  have hVl : (valsP os).length = os.length := by have := congrArg List.length hv.1; rw [List.length_map, hp.2.2.1] at this; exact this
  have hok : ∀ m, m ≤ os.length → OkG (valsP os) (usedM os m) (gradM os (valsP os) m) := OkG.at hS
  have h1 := hok os.length (Nat.le_refl _)
  refine ⟨?_, fun t ht => ?_⟩
  · show (gradM os (valsP os) os.length).length ≤ 48
    rw [h1.1, hVl]; exact hp.1.2
  · obtain ⟨j, hj, rfl⟩ := List.mem_iff_getElem.1 ht
    have hj2 : j < (valsP os).length := by rw [← h1.1]; exact hj
    have h2 : okT (vGet (gradP os) (j : Int)) := (h1.2 j hj2).1.1
    rw [vGet_nat hj] at h2
    exact h2.le
theorem gr_bounds {us : List Ten} {P : List OpP} (h : us.map (fun t => t.toTenP.can) = (gradO P).getD []) : us.length ≤ 1048576 ∧ totT us ≤ 9000000 ∧ ∀ u ∈ us, u.xs.length ≤ 1048576 := by
  have hV : (∀ t ∈ (gradO P).getD [], t.xs.length ≤ 256) ∧ ((gradO P).getD []).length ≤ 48 := by
    unfold gradO
    cases e : shapesP P with
    | none => exact ⟨fun t ht => (nomatch ht), by simp⟩
    | some S =>
      have h0 := gradP_ok e
      exact ⟨fun t ht => h0.2 t ht, h0.1⟩
  have hl : us.length ≤ 48 := by have := congrArg List.length h; rw [List.length_map] at this; rw [this]; exact hV.2
  have hx : ∀ u ∈ us, u.xs.length ≤ 256 := by
    intro u hu
    have := hV.1 u.toTenP.can (by rw [← h]; exact List.mem_map_of_mem hu)
    simpa [TenP.can] using this
  have ht : totT us ≤ 258 * us.length := by
    clear h hl
    induction us with
    | nil => simp [totT]
    | cons a us ih =>
      rw [totT_cons, List.length_cons]
      have h1 := hx a (List.mem_cons_self ..)
      have h2 := ih (fun u hu => hx u (List.mem_cons_of_mem _ hu))
      unfold Ten.w; omega
  exact ⟨by omega, by omega, fun u hu => by have := hx u hu; omega⟩
theorem spec_GradientsW (w : World) (ad : Option Addr) (cap : Nat) (os : List OpD) {lo hi n : Nat} (h : OwnR opR w lo hi ad n cap os) (hi2 : ∀ o ∈ os, o.xs.length ≤ 1048576) :
    Calls Try.prog 5 #[.slice ad os.length cap] w (TTPost (gradO (os.map OpD.toOpP)) w) := spec_Gradients w ad cap os h.see h.nilOK hi2
theorem impl_GradientsW (w : World) (ad : Option Addr) (cap : Nat) (os : List OpD) {lo hi n : Nat} (h : OwnR opR w lo hi ad n cap os) (hi2 : ∀ o ∈ os, o.xs.length ≤ 1048576) :
    Calls Try.prog 7 #[.slice ad os.length cap] w (TTPost (gradO (os.map OpD.toOpP)) w) := impl_Gradients w ad cap os h.see h.nilOK hi2
end Go.Proofs.Ytfjfjgegdaekbaa
/- The law of Gradients, walked. No condition. -/
namespace Go.Proofs.Ytfjfjgegdaekbaa
open Go Go.RowKit
set_option linter.unusedVariables false
set_option linter.unusedSimpArgs false
set_option maxHeartbeats 40000000 in
set_option maxRecDepth 100000 in
theorem fnExactGradients_walk (w : World) (a0 : Option Addr) (c0 : Nat) (l0 : List OpD) (A0 : SeeR opR w a0 c0 l0) :
    Calls Try.prog 3 #[.slice a0 l0.length c0] w fun e w' => e = .returned (.bool true) ∧ Below w.heap.size w w' := by
  replace A0 := Lib.hid A0
  have B0 := A0
  obtain ⟨L0, hL0⟩ : ∃ L, L = leftBy OpD.n l0 1048576 := ⟨_, rfl⟩
  have KS0 := Lib.hid (fun W (h : SeeR opR W a0 c0 l0) => OS_sz W a0 c0 l0 h 1048576 (by decide) (by decide))
  rw [← hL0] at KS0
  have HL0 := Lib.hid hL0; clear hL0
  go_enter Try.func3, Try.ntmps3
  go_wp2_with fail
  refine (KS0.out _ A0.out).mono ?_
  rintro e w1 ⟨rfl, hb⟩
  replace A0 := Lib.hid (A0.out.below hb)
  have z1 : w.heap.size ≤ w1.heap.size := hb.size
  have b1 := Lib.hid hb
  clear hb
  by_cases hp0 : 0 ≤ L0
  rotate_left
  · have hp0 : L0 < 0 := by omega
    go_wp2
    go_ret
    exact ⟨rfl, b1.out⟩
  have hS0 := left_bounds HL0.out hp0 (by decide)
  have hn0 := hS0.1; have hq0 := hS0.2.1; have HI0 := Lib.hid hS0.2.2.1; have ht0 := hS0.2.2.2; clear hS0
  go_wp2_with fail
  refine (OS_to _ a0 c0 l0 A0.out hn0 HI0.out).mono ?_
  rintro e w2 ⟨p_t0, q_t0, o_t0, rfl, he_t0, t0, hb⟩
  have E_t0 := Lib.hid he_t0
  have hlen_t0 : o_t0.length = l0.length := by have := congrArg List.length he_t0; simpa using this
  have N_t0 := Lib.hid hlen_t0; clear he_t0 hlen_t0
  replace A0 := Lib.hid (A0.out.below hb)
  have z2 : w1.heap.size ≤ w2.heap.size := hb.size
  have b2 := Lib.hid (bthen b1.out hb); clear b1
  clear hb
  go_wp2_with fail
  have hK := spec_GradientsW w2 p_t0 q_t0 o_t0 t0.out (lens_of E_t0.out HI0.out)
  rw [N_t0.out, E_t0.out] at hK
  have HK := Lib.hid hK; clear hK
  refine HK.out.mono ?_
  rintro e w3 ⟨ad_s0, n_s0, cp_s0, v_s1, y_s0, rfl, HO_s, hb⟩
  clear HK
  have Q_s0 := Lib.hid HO_s.out.1.2
  have s0 := Lib.hid HO_s.out.2
  have V_s := Lib.hid HO_s.out.1.1
  have M_s0 := Lib.hid (show n_s0 ≤ 1048576 ∧ totT y_s0 ≤ 9000000 ∧ ∀ u ∈ y_s0, u.xs.length ≤ 1048576 from by have h1 := HO_s.out.2.len; have h2 := gr_bounds HO_s.out.1.2; rw [← h1]; exact h2)
  clear HO_s
  replace t0 := Lib.hid (t0.out.below hb)
  replace A0 := Lib.hid (A0.out.below hb)
  have z3 : w2.heap.size ≤ w3.heap.size := hb.size
  have b3 := Lib.hid (bthen b2.out hb); clear b2
  clear hb
  clear t0
  try clear E_t0 N_t0
  go_wp2_with fail
  refine (OS_to _ a0 c0 l0 A0.out hn0 HI0.out).mono ?_
  rintro e w4 ⟨p_x0, q_x0, o_x0, rfl, he_x0, x0, hb⟩
  have E_x0 := Lib.hid he_x0
  have hlen_x0 : o_x0.length = l0.length := by have := congrArg List.length he_x0; simpa using this
  have N_x0 := Lib.hid hlen_x0; clear he_x0 hlen_x0
  replace s0 := Lib.hid (s0.out.below hb)
  replace A0 := Lib.hid (A0.out.below hb)
  have z4 : w3.heap.size ≤ w4.heap.size := hb.size
  have b4 := Lib.hid (bthen b3.out hb); clear b3
  clear hb
  go_wp2_with fail
  have hK := impl_GradientsW w4 p_x0 q_x0 o_x0 x0.out (lens_of E_x0.out HI0.out)
  rw [N_x0.out, E_x0.out] at hK
  have HK := Lib.hid hK; clear hK
  refine HK.out.mono ?_
  rintro e w5 ⟨ad_g0, n_g0, cp_g0, v_g1, y_g0, rfl, HO_g, hb⟩
  clear HK
  have Q_g0 := Lib.hid HO_g.out.1.2
  have g0 := Lib.hid HO_g.out.2
  have V_g := Lib.hid HO_g.out.1.1
  have M_g0 := Lib.hid (show n_g0 ≤ 1048576 ∧ totT y_g0 ≤ 9000000 ∧ ∀ u ∈ y_g0, u.xs.length ≤ 1048576 from by have h1 := HO_g.out.2.len; have h2 := gr_bounds HO_g.out.1.2; rw [← h1]; exact h2)
  clear HO_g
  replace s0 := Lib.hid (s0.out.below hb)
  replace x0 := Lib.hid (x0.out.below hb)
  replace A0 := Lib.hid (A0.out.below hb)
  have z5 : w4.heap.size ≤ w5.heap.size := hb.size
  have b5 := Lib.hid (bthen b4.out hb); clear b4
  clear hb
  obtain rfl : v_s1 = v_g1 := V_s.out.trans V_g.out.symm
  go_wp2_with fail
  refine (TT_eq2 _ g0.out s0.out (by rw [Q_g0.out, Q_s0.out]) M_g0.out).mono ?_
  rintro e w6 ⟨rfl, hb⟩
  replace s0 := Lib.hid (s0.out.below hb)
  replace x0 := Lib.hid (x0.out.below hb)
  replace g0 := Lib.hid (g0.out.below hb)
  replace A0 := Lib.hid (A0.out.below hb)
  have z6 : w5.heap.size ≤ w6.heap.size := hb.size
  have b6 := Lib.hid (bthen b5.out hb); clear b5
  clear hb
  go_wp2_with fail
  refine (OS_to _ a0 c0 l0 A0.out hn0 HI0.out).mono ?_
  rintro e w7 ⟨p_t0, q_t0, o_t0, rfl, he_t0, t0, hb⟩
  have E_t0 := Lib.hid he_t0
  have hlen_t0 : o_t0.length = l0.length := by have := congrArg List.length he_t0; simpa using this
  have N_t0 := Lib.hid hlen_t0; clear he_t0 hlen_t0
  replace s0 := Lib.hid (s0.out.below hb)
  replace x0 := Lib.hid (x0.out.below hb)
  replace g0 := Lib.hid (g0.out.below hb)
  replace A0 := Lib.hid (A0.out.below hb)
  have z7 : w6.heap.size ≤ w7.heap.size := hb.size
  have b7 := Lib.hid (bthen b6.out hb); clear b6
  clear hb
  go_wp2_with fail
  have hq := OS_eq w7 x0.out.see t0.out.see (by rw [can_of E_x0.out, can_of E_t0.out]) (by rw [N_x0.out]; exact hn0) (lens_of E_x0.out HI0.out)
  rw [N_x0.out, N_t0.out] at hq
  refine hq.mono ?_
  rintro e w8 ⟨rfl, hb⟩
  replace s0 := Lib.hid (s0.out.below hb)
  replace x0 := Lib.hid (x0.out.below hb)
  replace g0 := Lib.hid (g0.out.below hb)
  replace t0 := Lib.hid (t0.out.below hb)
  replace A0 := Lib.hid (A0.out.below hb)
  have z8 : w7.heap.size ≤ w8.heap.size := hb.size
  have b8 := Lib.hid (bthen b7.out hb); clear b7
  clear hb
  clear hq
  clear t0
  try clear E_t0 N_t0
  go_wp2_with fail
  refine (OS_mark _ (1) x0.out (by omega) hn0 (by rw [tot_of E_x0.out]; omega) (lens_of E_x0.out HI0.out)).mono ?_
  rintro e w9 ⟨rfl, -, ht⟩
  rw [tot_of E_x0.out]
  clear x0
  replace s0 := Lib.hid (s0.out.touch ht (by omega))
  replace g0 := Lib.hid (g0.out.touch ht (by omega))
  have z9 : w8.heap.size ≤ w9.heap.size := ht.size
  have b9 := Lib.hid (touch_below b8.out ht (by omega)); clear b8 ht
  replace A0 := Lib.hid (B0.out.below b9.out)
  go_wp2_with fail
  refine (TT_eq2 _ g0.out s0.out (by rw [Q_g0.out, Q_s0.out]) M_g0.out).mono ?_
  rintro e w10 ⟨rfl, hb⟩
  replace s0 := Lib.hid (s0.out.below hb)
  replace g0 := Lib.hid (g0.out.below hb)
  replace A0 := Lib.hid (A0.out.below hb)
  have z10 : w9.heap.size ≤ w10.heap.size := hb.size
  have b10 := Lib.hid (bthen b9.out hb); clear b9
  clear hb
  go_wp2_with fail
  refine (TT_mark2 _ (1) g0.out (by omega) M_g0.out (by have := M_g0.out; omega)).mono ?_
  rintro e w11 ⟨rfl, hr, ht⟩
  clear g0; have g0 := hr; clear hr
  replace s0 := Lib.hid (s0.out.touch ht (by omega))
  have z11 : w10.heap.size ≤ w11.heap.size := ht.size
  have b11 := Lib.hid (touch_below b10.out ht (by omega)); clear b10 ht
  replace A0 := Lib.hid (B0.out.below b11.out)
  go_wp2_with fail
  refine (TT_held2 _ (1) g0.out M_g0.out (by have := M_g0.out; omega)).mono ?_
  rintro e we ⟨rfl, rfl⟩
  go_wp2_with fail
  refine (OS_to _ a0 c0 l0 A0.out hn0 HI0.out).mono ?_
  rintro e w12 ⟨p_t0, q_t0, o_t0, rfl, he_t0, t0, hb⟩
  have E_t0 := Lib.hid he_t0
  have hlen_t0 : o_t0.length = l0.length := by have := congrArg List.length he_t0; simpa using this
  have N_t0 := Lib.hid hlen_t0; clear he_t0 hlen_t0
  replace s0 := Lib.hid (s0.out.below hb)
  replace g0 := Lib.hid (g0.out.below hb)
  replace A0 := Lib.hid (A0.out.below hb)
  have z12 : w11.heap.size ≤ w12.heap.size := hb.size
  have b12 := Lib.hid (bthen b11.out hb); clear b11
  clear hb
  go_wp2_with fail
  have hK := impl_GradientsW w12 p_t0 q_t0 o_t0 t0.out (lens_of E_t0.out HI0.out)
  rw [N_t0.out, E_t0.out] at hK
  have HK := Lib.hid hK; clear hK
  refine HK.out.mono ?_
  rintro e w13 ⟨ad_h0, n_h0, cp_h0, v_h1, y_h0, rfl, HO_h, hb⟩
  clear HK
  have Q_h0 := Lib.hid HO_h.out.1.2
  have h0 := Lib.hid HO_h.out.2
  have V_h := Lib.hid HO_h.out.1.1
  have M_h0 := Lib.hid (show n_h0 ≤ 1048576 ∧ totT y_h0 ≤ 9000000 ∧ ∀ u ∈ y_h0, u.xs.length ≤ 1048576 from by have h1 := HO_h.out.2.len; have h2 := gr_bounds HO_h.out.1.2; rw [← h1]; exact h2)
  clear HO_h
  replace s0 := Lib.hid (s0.out.below hb)
  replace g0 := Lib.hid (g0.out.below hb)
  replace t0 := Lib.hid (t0.out.below hb)
  replace A0 := Lib.hid (A0.out.below hb)
  have z13 : w12.heap.size ≤ w13.heap.size := hb.size
  have b13 := Lib.hid (bthen b12.out hb); clear b12
  clear hb
  obtain rfl : v_s1 = v_h1 := V_s.out.trans V_h.out.symm
  go_wp2_with fail
  refine (TT_eq2 _ h0.out s0.out (by rw [Q_h0.out, Q_s0.out]) M_h0.out).mono ?_
  rintro e w14 ⟨rfl, hb⟩
  replace s0 := Lib.hid (s0.out.below hb)
  replace g0 := Lib.hid (g0.out.below hb)
  replace t0 := Lib.hid (t0.out.below hb)
  replace h0 := Lib.hid (h0.out.below hb)
  replace A0 := Lib.hid (A0.out.below hb)
  have z14 : w13.heap.size ≤ w14.heap.size := hb.size
  have b14 := Lib.hid (bthen b13.out hb); clear b13
  clear hb
  go_wp2_with fail
  refine (TT_held2 _ (1) g0.out M_g0.out (by have := M_g0.out; omega)).mono ?_
  rintro e we ⟨rfl, rfl⟩
  go_wp2
  go_ret
  exact ⟨rfl, b14.out⟩
end Go.Proofs.Ytfjfjgegdaekbaa
