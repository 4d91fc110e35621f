/- The law of bits, walked. No condition. -/
import Derived.Test.YtnnefcakfaifmaaNup
import Derived.Test.YtnnefcakfaifmaaDrl
import Derived.Test.YtnnefcakfaifmaaTen
namespace Go.Proofs.Ytnnefcakfaifmaa
open Go Go.RowKit
set_option linter.unusedVariables false
set_option linter.unusedSimpArgs false
theorem andm (c : Nat) (hc : c < 4294967296) : bits .and .i64 (c : Int) 2139095040 = ((c &&& 2139095040 : Nat) : Int) := by
  have h1 : (BitVec.ofInt 64 (c : Int)).toNat = c := by rw [BitVec.ofInt_natCast, BitVec.toNat_ofNat]; exact Nat.mod_eq_of_lt (by omega)
  have h2 : (BitVec.ofInt 64 2139095040).toNat = 2139095040 := by decide
  show IntKind.i64.wrap ((BitVec.ofInt 64 (c : Int) &&& BitVec.ofInt 64 2139095040).toNat : Int) = _
  rw [BitVec.toNat_and, h1, h2]
  have h3 : c &&& 2139095040 ≤ 2139095040 := Nat.and_le_right
  unfold IntKind.wrap
  simp [IntKind.signed, IntKind.bits]
  omega
/-- the exponent's bits all set or not -/
theorem mask_iff {c : Nat} (hc : c < 4294967296) : (c &&& 2139095040 = 2139095040) ↔ 2139095040 ≤ c % 2147483648 := by
  have e : c &&& 2139095040 = (c % 2147483648) / 8388608 * 8388608 := by
    apply Nat.eq_of_testBit_eq
    intro i
    rw [Nat.testBit_and, show (2139095040 : Nat) = (2 ^ 8 - 1) * 2 ^ 23 from rfl, Nat.testBit_mul_two_pow, Nat.testBit_two_pow_sub_one, show (8388608 : Nat) = 2 ^ 23 from rfl, Nat.testBit_mul_two_pow, Nat.testBit_div_two_pow, show (2147483648 : Nat) = 2 ^ 31 from rfl, Nat.testBit_mod_two_pow]
    by_cases h1 : 23 ≤ i
    · rw [Nat.sub_add_cancel h1]
      by_cases h2 : i < 31
      · have : i - 23 < 8 := by omega
        simp [h1, h2, this]
      · have : ¬ (i - 23 < 8) := by omega
        simp [h2, this]
    · simp [h1]
  rw [e]
  omega
theorem fin_mask {x : Nat} (hx : x < 4294967296) : finB x = !(decide (cn .f32 x &&& 2139095040 = 2139095040)) := by
  have hm := mask_iff (cn_lt hx)
  cases hn : isN .f32 x
  · rw [cn_not hn] at hm ⊢
    have h1 := finB_iff hx
    have h2 := (isN_iff hx).1 hn
    have key : (-2139095040 < kf x ∧ kf x < 2139095040) ↔ ¬ (2139095040 ≤ x % 2147483648) := by unfold kf; split <;> omega
    cases hf : finB x
    · rw [hf] at h1
      have : ¬ (-2139095040 < kf x ∧ kf x < 2139095040) := fun h => by have := h1.2 h; cases this
      rw [key] at this
      have : x &&& 2139095040 = 2139095040 := hm.2 (by omega)
      simp [this]
    · have := key.1 (h1.1 hf)
      have : ¬ (x &&& 2139095040 = 2139095040) := fun h => this (hm.1 h)
      simp [this]
  · have hf : finB x = false := by
      cases hf : finB x
      · rfl
      · rw [finB_not hf] at hn; cases hn
    rw [hf, cn_nan hn]; decide +kernel
theorem nan_iff {x : Nat} (hx : x < 4294967296) : isN .f32 x = decide (cn .f32 x = 2143289344) := by
  cases hn : isN .f32 x
  · have : cn .f32 x ≠ 2143289344 := by
      intro h
      have := isN_cn .f32 x
      rw [h, hn] at this
      exact absurd this (by decide +kernel)
    simp [this]
  · rw [cn_nan hn]; rfl
set_option maxHeartbeats 16000000 in
set_option maxRecDepth 100000 in
theorem fnBits_walk (w : World) (a0 : Option Addr) (c0 : Nat) (l0 : List Int) (A0 : Ints .u8 w a0 c0 l0) (a1 : Option Addr) (c1 : Nat) (l1 : List Int) (A1 : Ints .u8 w a1 c1 l1) :
    Calls Try.prog 8 #[.slice a0 l0.length c0, .slice a1 l1.length c1] w fun e w' => e = .returned (.bool true) ∧ Below w.heap.size w w' := by
  by_cases hlong : l0.length ≤ 1048576 ∧ l1.length ≤ 1048576
  rotate_left
  · go_enter Try.func8, Try.ntmps8
    go_wp2_with fail
    refine (b10Long_yes _ _ _ _ _ _ _ hlong).mono ?_
    rintro e w1 ⟨rfl, rfl⟩
    go_wp2
    go_ret
    exact ⟨rfl, Below.refl _ _⟩
  obtain ⟨hl0, hl1⟩ := hlong
  go_enter Try.func8, Try.ntmps8
  go_wp2_with fail
  refine (b10Long_no _ _ _ _ _ _ _ hl0 hl1).mono ?_
  rintro e w1 ⟨rfl, rfl⟩
  go_wp2_with fail
  refine (b10_number _ _ _ _ A0).mono ?_
  rintro e w1 ⟨x, rfl, hx, hb1⟩
  have A1 := A1.below hb1
  go_wp2_with fail
  refine (b10_number _ _ _ _ A1).mono ?_
  rintro e w2 ⟨y, rfl, hy, hb2⟩
  have HB := Lib.hid (bthen hb1 hb2)
  clear A0 A1 hb1 hb2 hl0 hl1
  go_wp2_with fail
  refine (impl_BitsOf x hx _).mono ?_
  rintro e w3 ⟨rfl, rfl⟩
  have hcx := cn_lt hx
  have hcy := cn_lt hy
  have hs : decide (cn .f32 (cn .f32 x) = cn .f32 x) = true := by rw [cn_cn]; simp
  have hk := nan_iff hx
  have hm := fin_mask hx
  have hand := andm (cn .f32 x) hcx
  obtain ⟨c, hc⟩ : ∃ c, c = cn .f32 x := ⟨_, rfl⟩
  obtain ⟨d, hd⟩ : ∃ d, d = cn .f32 y := ⟨_, rfl⟩
  rw [← hc] at hcx hs hk hm hand ⊢
  rw [← hd] at hcy
  obtain ⟨bxy, hb1, hb2⟩ : ∃ b, decide (c = d) = b ∧ ((c : Int) == (d : Int)) = b := ⟨decide (c = d), rfl, by rw [Bool.eq_iff_iff]; simp; omega⟩
  have hk2 : ((c : Int) == 2143289344) = isN .f32 x := by rw [hk, Bool.eq_iff_iff]; simp; omega
  have hm2 : (((c &&& 2139095040 : Nat) : Int) != 2139095040) = finB x := by rw [hm, Bool.eq_iff_iff]; simp; omega
  have hc0 : decide ((c : Int) < 0) = false := by simp
  have hc1 : decide (4294967295 < (c : Int)) = false := by simp; omega
  have HC := Lib.hid hc; have HS := Lib.hid hs; have HD := Lib.hid hd; have HB1 := Lib.hid hb1
  have hfin := fun W => impl_IsFinite x W
  obtain ⟨fb, hfb⟩ : ∃ b, b = finB x := ⟨_, rfl⟩
  obtain ⟨nb, hnb⟩ : ∃ b, b = isN .f32 x := ⟨_, rfl⟩
  have hox : FloatKind.f32.format.order x x = if nb = true then none else some .eq := by rw [hnb]; exact order_self _ _
  rw [← hfb] at hm2 hfin
  rw [← hnb] at hk2
  have HF := Lib.hid hfin; have HFB := Lib.hid hfb; have HNB := Lib.hid hnb
  clear hs hk hc hm hd hb1 hfin hfb hnb
  go_wp2_with fail
  refine (impl_FromBits c hcx _).mono ?_
  rintro e w3 ⟨rfl, rfl⟩
  go_wp2_with fail
  refine (impl_SameNumber c x hcx hx _).mono ?_
  rw [← HC.out, HS.out]
  rintro e w3 ⟨rfl, hd3⟩
  go_wp2_with fail
  refine (impl_SameNumber x y hx hy _).mono ?_
  rw [← HC.out, ← HD.out, HB1.out]
  rintro e w4 ⟨rfl, hd4⟩
  go_wp2_with fail
  refine (impl_BitsOf y hy _).mono ?_
  rw [← HD.out]
  rintro e w5 ⟨rfl, rfl⟩
  have HB2 := Lib.hid (bthen (bthen HB.out hd3.below) hd4.below)
  clear hd3 hd4
  cases nb
  · have hox : FloatKind.f32.format.order x x = some .eq := hox
    have nx : isN .f32 x = false := HNB.out.symm
    have kx := (isN_iff hx).1 nx
    obtain ⟨u1, u2⟩ := nup_ok hx nx
    obtain ⟨d1, d2⟩ := ndn_ok hx nx
    have nu : isN .f32 (nup x) = false := (isN_iff u1).2 (by rw [u2]; split <;> omega)
    have nd : isN .f32 (ndn x) = false := (isN_iff d1).2 (by rw [d2]; split <;> omega)
    have NX := Lib.hid nx; have NU := Lib.hid nu; have ND := Lib.hid nd
    have KX := Lib.hid kx; have U2 := Lib.hid u2; have D2 := Lib.hid d2
    clear nx nu nd kx u2 d2
    cases fb
    · have hfk := finB_iff hx
      have hnf : kf x = 2139095040 ∨ kf x = -2139095040 := by
        have := HFB.out
        rw [← this] at hfk
        have h1 : ¬ (-2139095040 < kf x ∧ kf x < 2139095040) := fun h => by have := hfk.2 h; cases this
        have := KX.out
        omega
      clear hfk
      rcases hnf with hk | hk
      · have ku := U2.out
        rw [if_pos hk] at ku
        have kd := D2.out
        rw [if_neg (by omega), hk] at kd
        have o1 := ord_gt hx (by decide) NX.out n_zero (show kf 0 < kf x by rw [kf_zero, hk]; decide)
        have o2 := ord_eq u1 hx NU.out NX.out (by rw [ku, hk])
        have o3 := ord_lt d1 hx ND.out NX.out (by rw [kd, hk]; decide)
        have HK1 := Lib.hid hk; clear hk ku kd
        go_wp2_with fail
        refine (HF.out _).mono ?_
        rintro e w6 ⟨rfl, q6, rfl⟩
        go_wp2_with fail
        refine (impl_NextUp x hx NX.out _).mono ?_
        rintro e w7 ⟨rfl, q7, rfl⟩
        go_wp2_with fail
        refine (impl_NextDown x hx NX.out _).mono ?_
        rintro e w8 ⟨rfl, q8, rfl⟩
        go_wp2_with fail
        refine (HF.out _).mono ?_
        rintro e w9 ⟨rfl, q9, rfl⟩
        go_wp2
        go_ret
        exact ⟨rfl, below_drewN HB2.out _⟩
      · have ku := U2.out
        rw [if_neg (by omega), hk] at ku
        have kd := D2.out
        rw [if_pos hk] at kd
        have o1 := ord_lt hx (by decide) NX.out n_zero (show kf x < kf 0 by rw [kf_zero, hk]; decide)
        have o2 := ord_gt u1 hx NU.out NX.out (by rw [ku, hk]; decide)
        have o3 := ord_eq d1 hx ND.out NX.out (by rw [kd, hk])
        have HK1 := Lib.hid hk; clear hk ku kd
        go_wp2_with fail
        refine (HF.out _).mono ?_
        rintro e w6 ⟨rfl, q6, rfl⟩
        go_wp2_with fail
        refine (impl_NextUp x hx NX.out _).mono ?_
        rintro e w7 ⟨rfl, q7, rfl⟩
        go_wp2_with fail
        refine (impl_NextDown x hx NX.out _).mono ?_
        rintro e w8 ⟨rfl, q8, rfl⟩
        go_wp2_with fail
        refine (HF.out _).mono ?_
        rintro e w9 ⟨rfl, q9, rfl⟩
        go_wp2
        go_ret
        exact ⟨rfl, below_drewN HB2.out _⟩
    · have hfk := (finB_iff hx).1 HFB.out.symm
      have ku := U2.out
      rw [if_neg (by omega)] at ku
      have kd := D2.out
      rw [if_neg (by omega)] at kd
      have o1 := ord_gt u1 hx NU.out NX.out (by rw [ku]; omega)
      have o2 := ord_lt d1 hx ND.out NX.out (by rw [kd]; omega)
      obtain ⟨v1, v2⟩ := ndn_ok u1 NU.out
      obtain ⟨t1, t2⟩ := nup_ok d1 ND.out
      rw [if_neg (by omega)] at v2 t2
      have nv : isN .f32 (ndn (nup x)) = false := (isN_iff v1).2 (by omega)
      have nt : isN .f32 (nup (ndn x)) = false := (isN_iff t1).2 (by omega)
      have o3 := ord_eq v1 hx nv NX.out (by omega)
      have o4 := ord_eq t1 hx nt NX.out (by omega)
      have hyc : (FloatKind.f32.format.order y x = none) ∨ (FloatKind.f32.format.order y x = some .eq) ∨ (FloatKind.f32.format.order y x = some .gt ∧ (FloatKind.f32.format.order y (nup x) == some .lt) = false) ∨ (FloatKind.f32.format.order y x = some .lt ∧ (FloatKind.f32.format.order y (ndn x) == some .gt) = false) := by
        cases ny : isN .f32 y
        · rcases Int.lt_trichotomy (kf y) (kf x) with h | h | h
          · refine .inr (.inr (.inr ⟨ord_lt hy hx ny NX.out h, ?_⟩))
            rcases Int.lt_or_le (kf y) (kf (ndn x)) with g | g
            · rw [ord_lt hy d1 ny ND.out g]; rfl
            · rw [ord_eq hy d1 ny ND.out (by omega)]; rfl
          · exact .inr (.inl (ord_eq hy hx ny NX.out h))
          · refine .inr (.inr (.inl ⟨ord_gt hy hx ny NX.out h, ?_⟩))
            rcases Int.lt_or_le (kf (nup x)) (kf y) with g | g
            · rw [ord_gt hy u1 ny NU.out g]; rfl
            · rw [ord_eq hy u1 ny NU.out (by omega)]; rfl
        · exact .inl (order_none (.inl ny))
      have NV := Lib.hid nv; have NT := Lib.hid nt
      clear hfk ku kd v2 t2 nv nt
      rcases hyc with h | h | ⟨h, h'⟩ | ⟨h, h'⟩
      all_goals
        go_wp2_with fail
        refine (HF.out _).mono ?_
        rintro e w6 ⟨rfl, q6, rfl⟩
        go_wp2_with fail
        refine (impl_NextUp x hx NX.out _).mono ?_
        rintro e w7 ⟨rfl, q7, rfl⟩
        go_wp2_with fail
        refine (impl_NextDown x hx NX.out _).mono ?_
        rintro e w8 ⟨rfl, q8, rfl⟩
        go_wp2_with fail
        refine (HF.out _).mono ?_
        rintro e w9 ⟨rfl, q9, rfl⟩
        go_wp2_with fail
        refine (impl_NextDown (nup x) u1 NU.out _).mono ?_
        rintro e w10 ⟨rfl, q10, rfl⟩
        go_wp2_with fail
        refine (impl_NextUp (ndn x) d1 ND.out _).mono ?_
        rintro e w11 ⟨rfl, q11, rfl⟩
        go_wp2
        go_ret
        exact ⟨rfl, below_drewN HB2.out _⟩
  · have hox : FloatKind.f32.format.order x x = none := hox
    have nx : isN .f32 x = true := HNB.out.symm
    have hfb : fb = false := by
      rw [HFB.out]
      cases hf : finB x
      · rfl
      · rw [finB_not hf] at nx; cases nx
    subst hfb
    have NX := Lib.hid nx; clear nx
    go_wp2_with fail
    refine (HF.out _).mono ?_
    rintro e w6 ⟨rfl, q6, rfl⟩
    go_wp2_with fail
    refine (impl_NextUp_nan x NX.out _).mono ?_
    rintro e w7 ⟨u, rfl, hu, q7, rfl⟩
    have ou := order_nan hu.out.1
    go_wp2_with fail
    refine (impl_NextDown_nan x hx NX.out _).mono ?_
    rintro e w8 ⟨v, rfl, hv, q8, rfl⟩
    have ov := order_nan hv.out.1
    go_wp2
    go_ret
    exact ⟨rfl, below_drewN HB2.out _⟩
end Go.Proofs.Ytnnefcakfaifmaa
