/- The law of narrowed numbers, walked. No condition. -/
import Derived.Test.YtnnefcakfaifmaaNar
import Derived.Test.YtnnefcakfaifmaaDrl
import Derived.Test.YtnnefcakfaifmaaTen
namespace Go.Proofs.Ytnnefcakfaifmaa
open Go Go.RowKit Ieee
set_option linter.unusedVariables false
set_option linter.unusedSimpArgs false
theorem fin_of_finB {x : Nat} (hx : x < 4294967296) (h : finB x = true) : Fin single x := by
  obtain ⟨s, r, e, hr⟩ := word_of single (x := x) (by rw [s_sw]; omega)
  subst e
  exact ⟨s, r, rfl, fin_rung hr h⟩
theorem wide_word {x : Nat} (h : Fin single x) : ∀ w, cvbits .f32 x .f64 w = fcv .f32 x .f64 := by
  intro w
  have hn := Fin.not (k := .f32) h
  have e := cn_wide x w
  rw [cn_not hn] at e
  have hf := (wide_val h).1
  exact (eq_of_cn (by rw [e, cn_not (Fin.not (k := .f64) hf)]) (Fin.not (k := .f64) hf)).symm
set_option exponentiation.threshold 2000 in
theorem narrow_wide {x : Nat} (hx : x < 4294967296) (w w' : World) : cvWide .f64 (cvbits .f32 x .f64 w) .f32 = false ∧ cn .f32 (cvbits .f64 (cvbits .f32 x .f64 w) .f32 w') = cn .f32 x := by
  cases hn : isN .f32 x
  · cases hf : finB x
    · have hk := (isN_iff hx).1 hn
      have : x = 2139095040 ∨ x = 4286578688 := by
        have h1 := finB_iff hx
        rw [hf] at h1
        have h2 : ¬ (-2139095040 < kf x ∧ kf x < 2139095040) := fun h => by have := h1.2 h; cases this
        have h3 : kf x = 2139095040 ∨ kf x = -2139095040 := by omega
        unfold kf at h3
        split at h3 <;> omega
      rcases this with h | h
      · subst h
        have e : cvbits .f32 2139095040 .f64 w = 9218868437227405312 := by
          unfold cvbits
          rw [if_neg (by decide)]
          have : FloatKind.f32.decode 2139095040 = .infinity false := by decide +kernel
          rw [this]; show FloatKind.f64.encode (.infinity false) = _; decide +kernel
        rw [e, cv_inf]
        exact ⟨by decide +kernel, rfl⟩
      · subst h
        have e : cvbits .f32 4286578688 .f64 w = 18442240474082181120 := by
          unfold cvbits
          rw [if_neg (by decide)]
          have : FloatKind.f32.decode 4286578688 = .infinity true := by decide +kernel
          rw [this]; show FloatKind.f64.encode (.infinity true) = _; decide +kernel
        rw [e]
        have e2 : cvbits .f64 18442240474082181120 .f32 w' = 4286578688 := by
          unfold cvbits
          rw [if_neg (by decide)]
          have : FloatKind.f64.decode 18442240474082181120 = .infinity true := by decide +kernel
          rw [this]; show FloatKind.f32.encode (.infinity true) = _; decide +kernel
        rw [e2]
        exact ⟨by decide +kernel, rfl⟩
    · obtain ⟨s, r, e, hr⟩ := fin_of_finB hx hf
      subst e
      obtain ⟨q, h1, h2, h3⟩ := wide_fin s hr
      rw [h2]
      obtain ⟨h4, h5⟩ := narrow_fin s hr h1 h3 w'
      exact ⟨h5, by rw [h4]⟩
  · have h1 := isN_wide x w hn
    have h2 := wide_nan h1
    refine ⟨h2, ?_⟩
    rw [cn_cvbits w' h2, cn_nan h1, cn_nan hn]
    decide +kernel
theorem impl_NarrowNumber (x : Nat) (w : World) : Calls Try.prog 27 #[.float .f64 x] w fun e w' => e = .returned (.float .f32 (cvbits .f64 x .f32 w)) ∧ Dr w w' := by
  go_enter Try.func27, Try.ntmps27
  go_wp2
  go_ret
  exact ⟨rfl, _, rfl⟩
theorem impl_WideBitsOf (x : Nat) (hn : isN .f64 x = false) (w : World) : Calls Try.prog 31 #[.float .f64 x] w fun e w' => e = .returned (.int .i64 (wrap64 x)) ∧ w = w' := by
  have hd := run_f64bits
  have ho : FloatKind.f64.format.order x x = some .eq := by rw [order_self, hn]; rfl
  clear hn
  go_enter Try.func31, Try.ntmps31
  go_wp2
  go_ret
  exact ⟨rfl, rfl⟩
theorem spec_WideBitsOf (x : Nat) (hn : isN .f64 x = false) (w : World) : Calls Try.prog 32 #[.float .f64 x] w fun e w' => e = .returned (.int .i64 (wrap64 x)) ∧ w = w' := by
  have hd := run_f64bits
  have ho : FloatKind.f64.format.order x x = some .eq := by rw [order_self, hn]; rfl
  clear hn
  go_enter Try.func32, Try.ntmps32
  go_wp2
  go_ret
  exact ⟨rfl, rfl⟩
theorem spec_l01Same (a b : Nat) (ha : a < 4294967296) (hb : b < 4294967296) (w : World) : Calls Try.prog 82 #[.float .f32 a, .float .f32 b] w fun e w' => e = .returned (.bool (decide (cn .f32 a = cn .f32 b))) ∧ w = w' := by
  have h1 := fun W => spec_l01Bits a ha W
  have h2 := fun W => spec_l01Bits b hb W
  obtain ⟨c, hc⟩ : ∃ c, c = cn .f32 a := ⟨_, rfl⟩
  obtain ⟨d, hd⟩ : ∃ c, c = cn .f32 b := ⟨_, rfl⟩
  rw [← hc] at h1 ⊢
  rw [← hd] at h2 ⊢
  have H1 := Lib.hid h1; have H2 := Lib.hid h2; clear h1 h2 hc hd
  go_enter Try.func82, Try.ntmps82
  go_wp2_with fail
  refine (H1.out _).mono ?_
  rintro e w1 ⟨rfl, rfl⟩
  go_wp2_with fail
  refine (H2.out _).mono ?_
  rintro e w1 ⟨rfl, rfl⟩
  go_wp2
  go_ret
  have e : ((c : Int) == (d : Int)) = decide (c = d) := by rw [Bool.eq_iff_iff]; simp; omega
  exact ⟨by rw [← e]; rfl, rfl⟩
theorem spec_SameNumber (a b : Nat) (ha : a < 4294967296) (hb : b < 4294967296) (w : World) : Calls Try.prog 26 #[.float .f32 a, .float .f32 b] w fun e w' => e = .returned (.bool (decide (cn .f32 a = cn .f32 b))) ∧ w = w' := by
  have h1 := fun W => spec_l01Same a b ha hb W
  have H1 := Lib.hid h1; clear h1
  go_enter Try.func26, Try.ntmps26
  go_wp2_with fail
  refine (H1.out _).mono ?_
  rintro e w1 ⟨rfl, rfl⟩
  go_wp2
  go_ret
  exact ⟨rfl, rfl⟩
theorem spec_NextUp (x : Nat) (hx : x < 4294967296) (hn : isN .f32 x = false) (w : World) : Calls Try.prog 28 #[.float .f32 x] w fun e w' => e = .returned (.float .f32 (nup x)) ∧ Dr w w' := by
  have h := fun W => spec_l01Next x hx hn W
  have H := Lib.hid h; clear h hn hx
  go_enter Try.func28, Try.ntmps28
  go_wp2_with fail
  refine (H.out _).mono ?_
  rintro e w1 ⟨rfl, q, rfl⟩
  go_wp2
  go_ret
  exact ⟨rfl, _, rfl⟩
theorem spec_NextUp_nan (x : Nat) (hx : x < 4294967296) (hn : isN .f32 x = true) (w : World) : Calls Try.prog 28 #[.float .f32 x] w fun e w' => e = .returned (.float .f32 x) ∧ Dr w w' := by
  have ho := order_nan hn
  have hb := fun W => spec_l01Bits x hx W
  obtain ⟨c, hc⟩ : ∃ c, c = cn .f32 x := ⟨_, rfl⟩
  rw [← hc] at hb
  have HB := Lib.hid hb; clear hb hn hx hc
  go_enter Try.func28, Try.ntmps28
  go_wp2_with (first | (go_at_call 85; refine (HB.out _).mono ?_; rintro e w' ⟨rfl, rfl⟩) | go_in)
  go_ret
  exact ⟨rfl, Dr.refl _⟩
theorem spec_BitsOf (x : Nat) (hx : x < 4294967296) (w : World) : Calls Try.prog 30 #[.float .f32 x] w fun e w' => e = .returned (.int .i64 (cn .f32 x : Nat)) ∧ w = w' := by
  have h := fun W => spec_l01Bits x hx W
  have H := Lib.hid h; clear h hx
  go_enter Try.func30, Try.ntmps30
  go_wp2_with fail
  refine (H.out _).mono ?_
  rintro e w1 ⟨rfl, rfl⟩
  go_wp2
  go_ret
  exact ⟨rfl, rfl⟩
theorem spec_IsFinite (x : Nat) (w : World) : Calls Try.prog 29 #[.float .f32 x] w fun e w' => e = .returned (.bool (finB x)) ∧ Dr w w' := by
  have h := fun W => spec_l01Finite x W
  have H := Lib.hid h; clear h
  go_enter Try.func29, Try.ntmps29
  go_wp2_with fail
  refine (H.out _).mono ?_
  rintro e w1 ⟨rfl, q, rfl⟩
  go_wp2
  go_ret
  exact ⟨rfl, _, rfl⟩
theorem nar_eq {k x : Nat} {s : Bool} {r : Nat} (hr : r < single.infRung) (hk : k = single.word s r) (hx : Fin single x) (hv : val single x = sg s * ((nval single r : Rat) * (2 : Rat) ^ (-149 : Int))) : FloatKind.f32.format.order k x = some .eq := by
  have hf : Fin single k := ⟨s, r, hk, hr⟩
  rw [(order_val (k := .f32) hf hx).2.2]
  rw [hk]
  show val single _ = val single x
  rw [val_word single s hr, hv, s_lp]
/-- what the law finds of two neighbours -/
theorem nar_facts {x : Nat} (hx : x < 4294967296) (h1 : finB x = true) (h2 : finB (nup x) = true) :
    ∃ m h m1 l m2 g, (∀ w w1 w2, fbits .add .f64 (cvbits .f32 x .f64 w) (cvbits .f32 (nup x) .f64 w1) w2 = m) ∧ (∀ w, fbits .quo .f64 m 4611686018427387904 w = h) ∧ isN .f64 h = false ∧
      (∀ w w1, fbits .add .f64 (cvbits .f32 x .f64 w) h w1 = m1) ∧ (∀ w, fbits .quo .f64 m1 4611686018427387904 w = l) ∧
      (∀ w w1, fbits .add .f64 (cvbits .f32 (nup x) .f64 w) h w1 = m2) ∧ (∀ w, fbits .quo .f64 m2 4611686018427387904 w = g) ∧
      (∀ w, FloatKind.f32.format.order (cvbits .f64 h .f32 w) (if x % 2 = 1 then nup x else x) = some .eq) ∧ (∀ w, FloatKind.f32.format.order (cvbits .f64 l .f32 w) x = some .eq) ∧ (∀ w, FloatKind.f32.format.order (cvbits .f64 g .f32 w) (nup x) = some .eq) := by
  have fx := fin_of_finB hx h1
  have nx := finB_not h1
  obtain ⟨u1, u2⟩ := nup_ok hx nx
  have fy := fin_of_finB u1 h2
  have kx := (finB_iff hx).1 h1
  have ky := (finB_iff u1).1 h2
  have wx := wide_word fx
  have wy := wide_word fy
  obtain ⟨ax, vx⟩ := wide_val fx
  obtain ⟨ay, vy⟩ := wide_val fy
  have hi := s_ir
  by_cases hp : 0 ≤ kf x
  · -- towards greater ones
    obtain ⟨r, hr⟩ : ∃ r : Nat, kf x = r := ⟨(kf x).toNat, by omega⟩
    have hvx : val single x = sg false * ((nval single r : Rat) * (2 : Rat) ^ (-149 : Int)) := by
      have : x = single.word false r ∨ (x = single.word true r ∧ r = 0) := by
        unfold kf at hr
        unfold Format.word
        rw [s_sw]
        split at hr
        · left; simp; omega
        · right; simp; unfold kf at hp; split at hp <;> omega
      rcases this with e | ⟨e, e0⟩
      · rw [e, val_word single false (by omega), s_lp]
      · subst e0
        rw [e, val_word single true (by omega), s_lp, nval_zero]
        have : ((0 : Nat) : Rat) = 0 := rfl
        rw [this]; unfold sg; simp
    have hy : nup x = single.word false (r + 1) := by
      rw [if_neg (by omega)] at u2
      rw [hr] at u2
      unfold kf at u2
      unfold Format.word
      simp
      split at u2 <;> omega
    have hvy : val single (nup x) = sg false * ((nval single (r + 1) : Rat) * (2 : Rat) ^ (-149 : Int)) := by rw [hy, val_word single false (by omega), s_lp]
    have hpar : x % 2 = r % 2 := by unfold kf at hr; split at hr <;> omega
    obtain ⟨⟨m, h, a1, a2, a3, _, a4, ⟨m1, l, b1, b2, b3⟩, ⟨m2, g, c1, c2, c3⟩⟩⟩ := means (flip := false) ax ay (s := false) (r := r) (by omega) (by rw [vx]; exact hvx) (by rw [vy]; exact hvy)
    refine ⟨m, h, m1, l, m2, g, fun w w1 w2 => by rw [wx, wy]; exact fbits_some a1 _, fun w => fbits_some a2 _, a3, fun w w1 => by rw [wx]; exact fbits_some b1 _, fun w => fbits_some b2 _, fun w w1 => by rw [wy]; exact fbits_some c1 _, fun w => fbits_some c2 _, ?_, ?_, ?_⟩
    · intro w
      by_cases h0 : r % 2 = 0
      · rw [if_neg (by omega)]
        exact nar_eq (r := r) (by omega) (by rw [a4, if_pos h0]) fx hvx
      · rw [if_pos (by omega)]
        exact nar_eq (r := r + 1) (by omega) (by rw [a4, if_neg h0]) fy hvy
    · intro w; exact nar_eq (r := r) (by omega) (b3 w) fx hvx
    · intro w; exact nar_eq (r := r + 1) (by omega) (c3 w) fy hvy
  · obtain ⟨r, hr⟩ : ∃ r : Nat, kf x = -((r : Int) + 1) := ⟨(-(kf x) - 1).toNat, by omega⟩
    have ex : x = single.word true (r + 1) := by
      unfold kf at hr
      unfold Format.word
      rw [s_sw]
      simp
      split at hr <;> omega
    have hvx : val single x = sg true * ((nval single (r + 1) : Rat) * (2 : Rat) ^ (-149 : Int)) := by rw [ex, val_word single true (by omega), s_lp]
    have hy : nup x = single.word true r := by
      have e1 : nup x = x - 1 := by unfold nup; rw [if_neg (by omega), if_neg (by omega), if_neg (by omega)]
      rw [e1]
      unfold kf at hr
      unfold Format.word
      rw [s_sw]
      simp
      split at hr <;> omega
    have hvy : val single (nup x) = sg true * ((nval single r : Rat) * (2 : Rat) ^ (-149 : Int)) := by rw [hy, val_word single true (by omega), s_lp]
    have hpar : x % 2 = (r + 1) % 2 := by unfold kf at hr; split at hr <;> omega
    obtain ⟨⟨m, h, a1, a2, a3, _, a4, ⟨m1, l, b1, b2, b3⟩, ⟨m2, g, c1, c2, c3⟩⟩⟩ := means (flip := true) ax ay (s := true) (r := r) (by omega) (by rw [vx]; exact hvx) (by rw [vy]; exact hvy)
    refine ⟨m, h, m1, l, m2, g, fun w w1 w2 => by rw [wx, wy]; exact fbits_some a1 _, fun w => fbits_some a2 _, a3, fun w w1 => by rw [wx]; exact fbits_some b1 _, fun w => fbits_some b2 _, fun w w1 => by rw [wy]; exact fbits_some c1 _, fun w => fbits_some c2 _, ?_, ?_, ?_⟩
    · intro w
      by_cases h0 : r % 2 = 0
      · rw [if_pos (by omega)]
        exact nar_eq (r := r) (by omega) (by rw [a4, if_pos h0]) fy hvy
      · rw [if_neg (by omega)]
        exact nar_eq (r := r + 1) (by omega) (by rw [a4, if_neg h0]) fx hvx
    · intro w; exact nar_eq (r := r + 1) (by omega) (b3 w) fx hvx
    · intro w; exact nar_eq (r := r) (by omega) (c3 w) fy hvy
set_option maxHeartbeats 16000000 in
set_option maxRecDepth 100000 in
theorem fnNarrowed_walk (w : World) (a0 : Option Addr) (c0 : Nat) (l0 : List Int) (A0 : Ints .u8 w a0 c0 l0) (a1 : Option Addr) (c1 : Nat) (l1 : List Int) (A1 : Ints .u8 w a1 c1 l1) :
    Calls Try.prog 6 #[.slice a0 l0.length c0, .slice a1 l1.length c1] w fun e w' => e = .returned (.bool true) ∧ Below w.heap.size w w' := by
  by_cases hlong : l0.length ≤ 1048576 ∧ l1.length ≤ 1048576
  rotate_left
  · go_enter Try.func6, Try.ntmps6
    go_wp2_with fail
    refine (b10Long_yes _ _ _ _ _ _ _ hlong).mono ?_
    rintro e w1 ⟨rfl, rfl⟩
    go_wp2
    go_ret
    exact ⟨rfl, Below.refl _ _⟩
  obtain ⟨hl0, hl1⟩ := hlong
  go_enter Try.func6, Try.ntmps6
  go_wp2_with fail
  refine (b10Long_no _ _ _ _ _ _ _ hl0 hl1).mono ?_
  rintro e w1 ⟨rfl, rfl⟩
  go_wp2_with fail
  refine (b10_number _ _ _ _ A0).mono ?_
  rintro e w1 ⟨x, rfl, hx, hb1⟩
  have HB := Lib.hid hb1
  clear A0 A1 hb1 hl0 hl1
  have hnw := fun w w' => narrow_wide hx w w'
  have HNW := Lib.hid hnw; clear hnw
  go_wp2_with fail
  refine (impl_NarrowNumber _ _).mono ?_
  rintro e w2 ⟨rfl, q2, rfl⟩
  go_wp2_with fail
  refine (spec_SameNumber _ x ?_ hx _).mono ?_
  · exact cv_lt32 _ (HNW.out _ w1).1
  rw [show decide (cn .f32 (cvbits .f64 (cvbits .f32 x .f64 w1) .f32 (w1.drewN (cvdr .f32 x .f64))) = cn .f32 x) = true from by rw [(HNW.out _ _).2]; simp]
  rintro e w3 ⟨rfl, rfl⟩
  clear HNW
  cases hn : isN .f32 x
  rotate_left
  · have hf : finB x = false := by
      cases hf : finB x
      · rfl
      · rw [finB_not hf] at hn; cases hn
    have HN := Lib.hid hn; clear hn
    go_wp2_with fail
    refine (spec_NextUp_nan x hx HN.out _).mono ?_
    rintro e w4 ⟨rfl, q4, rfl⟩
    go_wp2_with fail
    refine (spec_IsFinite x _).mono ?_
    rw [hf]
    rintro e w5 ⟨rfl, q5, rfl⟩
    go_wp2
    go_ret
    exact ⟨rfl, below_drewN HB.out _⟩
  have HN := Lib.hid hn
  obtain ⟨u1, _⟩ := nup_ok hx hn
  clear hn
  go_wp2_with fail
  refine (spec_NextUp x hx HN.out _).mono ?_
  rintro e w4 ⟨rfl, q4, rfl⟩
  cases hf : finB x
  · have HF := Lib.hid hf; clear hf
    go_wp2_with fail
    refine (spec_IsFinite x _).mono ?_
    rw [HF.out]
    rintro e w5 ⟨rfl, q5, rfl⟩
    go_wp2
    go_ret
    exact ⟨rfl, below_drewN HB.out _⟩
  cases hg : finB (nup x)
  · have HF := Lib.hid hf; have HG := Lib.hid hg; clear hf hg
    go_wp2_with fail
    refine (spec_IsFinite x _).mono ?_
    rw [HF.out]
    rintro e w5 ⟨rfl, q5, rfl⟩
    go_wp2_with fail
    refine (spec_IsFinite (nup x) _).mono ?_
    rw [HG.out]
    rintro e w6 ⟨rfl, q6, rfl⟩
    go_wp2
    go_ret
    exact ⟨rfl, below_drewN HB.out _⟩
  obtain ⟨m, h, m1, l, m2, g, k1, k2, k3, k4, k5, k6, k7, k8, k9, k10⟩ := nar_facts hx hf hg
  have HF := Lib.hid hf; have HG := Lib.hid hg; have K3 := Lib.hid k3; clear hf hg k3
  have hbits := fun W => spec_BitsOf x hx W
  rw [cn_not HN.out] at hbits
  have HBI := Lib.hid hbits; clear hbits
  obtain ⟨y, hy⟩ : ∃ y, y = nup x := ⟨_, rfl⟩
  rw [← hy] at k1 k6 k8 k10 HG u1 ⊢
  clear hy
  go_wp2_with fail
  refine (spec_IsFinite x _).mono ?_
  rw [HF.out]
  rintro e w5 ⟨rfl, q5, rfl⟩
  go_wp2_with fail
  refine (spec_IsFinite y _).mono ?_
  rw [HG.out]
  rintro e w6 ⟨rfl, q6, rfl⟩
  go_wp2_with fail
  refine (HBI.out _).mono ?_
  rintro e w7 ⟨rfl, rfl⟩
  by_cases hodd : x % 2 = 1
  · have h2 : ((x : Int) % 2 == 1) = true := by simp; omega
    rw [if_pos hodd] at k8
    clear hodd
    go_wp2_with fail
    refine (impl_NarrowNumber _ _).mono ?_
    rintro e w8 ⟨rfl, q8, rfl⟩
    go_wp2_with fail
    refine (impl_NarrowNumber _ _).mono ?_
    rintro e w9 ⟨rfl, q9, rfl⟩
    go_wp2_with fail
    refine (impl_NarrowNumber _ _).mono ?_
    rintro e w10 ⟨rfl, q10, rfl⟩
    go_wp2_with fail
    refine (impl_WideBitsOf _ K3.out _).mono ?_
    rintro e w11 ⟨rfl, rfl⟩
    go_wp2_with fail
    refine (spec_WideBitsOf _ K3.out _).mono ?_
    rintro e w12 ⟨rfl, rfl⟩
    go_wp2
    go_ret
    exact ⟨by simp, below_drewN HB.out _⟩
  · have h2 : ((x : Int) % 2 == 1) = false := by simp; omega
    rw [if_neg hodd] at k8
    clear hodd
    go_wp2_with fail
    refine (impl_NarrowNumber _ _).mono ?_
    rintro e w8 ⟨rfl, q8, rfl⟩
    go_wp2_with fail
    refine (impl_NarrowNumber _ _).mono ?_
    rintro e w9 ⟨rfl, q9, rfl⟩
    go_wp2_with fail
    refine (impl_NarrowNumber _ _).mono ?_
    rintro e w10 ⟨rfl, q10, rfl⟩
    go_wp2_with fail
    refine (impl_WideBitsOf _ K3.out _).mono ?_
    rintro e w11 ⟨rfl, rfl⟩
    go_wp2_with fail
    refine (spec_WideBitsOf _ K3.out _).mono ?_
    rintro e w12 ⟨rfl, rfl⟩
    go_wp2
    go_ret
    exact ⟨by simp, below_drewN HB.out _⟩
end Go.Proofs.Ytnnefcakfaifmaa
