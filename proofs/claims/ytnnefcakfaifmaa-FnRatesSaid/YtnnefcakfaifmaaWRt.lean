/- The law of rates, walked. No condition. -/
import Derived.Test.YtnnefcakfaifmaaRu
namespace Go.Proofs.Ytnnefcakfaifmaa
open Go Go.RowKit
set_option linter.unusedVariables false
set_option maxHeartbeats 8000000 in
set_option maxRecDepth 100000 in
theorem fnRates_walk (w : World) (a0 : Option Addr) (c0 : Nat) (l0 : List Int) (A0 : Ints .u8 w a0 c0 l0) (a1 : Option Addr) (c1 : Nat) (l1 : List Int) (A1 : Ints .u8 w a1 c1 l1) :
    Calls Try.prog 3 #[.slice a0 l0.length c0, .slice a1 l1.length c1] w fun e w' => e = .returned (.bool true) ∧ Below w.heap.size w w' := by
  by_cases hlong : l0.length ≤ 1048576 ∧ l1.length ≤ 1048576
  rotate_left
  · go_enter Try.func3, Try.ntmps3
    go_wp2_with fail
    refine (b10Long_yes _ _ _ _ _ _ _ hlong).mono ?_
    rintro e w1 ⟨rfl, rfl⟩
    go_wp2
    go_ret
    exact ⟨rfl, Below.refl _ _⟩
  obtain ⟨hl0, hl1⟩ := hlong
  go_enter Try.func3, Try.ntmps3
  go_wp2_with fail
  refine (b10Long_no _ _ _ _ _ _ _ hl0 hl1).mono ?_
  rintro e w1 ⟨rfl, rfl⟩
  clear hl0 hl1
  go_wp2_with fail
  refine (b10At_any _ _ _ _ A0 0 64 (by decide) (by decide) (by decide) (by decide)).mono ?_
  rintro e w1 ⟨x, rfl, hx, rfl⟩
  have hx := Int.ofNat_lt.1 hx
  obtain ⟨hb1, hb2, hb3, hb4, hb5, hb6, hb7⟩ := base_at hx
  have HB5 := Lib.hid hb5; have HB6 := Lib.hid hb6; have HB7 := Lib.hid hb7; clear hb5 hb6 hb7
  have hz := World.drewN_none
  go_wp2_with fail
  refine (b10At_any _ _ _ _ A0 1 10 (by decide) (by decide) (by decide) (by decide)).mono ?_
  rintro e w1 ⟨warm, rfl, hwarm, rfl⟩
  have hwarm := Int.ofNat_lt.1 hwarm
  go_wp2_with fail
  refine (b10At_any _ _ _ _ A1 0 10 (by decide) (by decide) (by decide) (by decide)).mono ?_
  rintro e w1 ⟨hh, rfl, hhh, rfl⟩
  have hhh := Int.ofNat_lt.1 hhh
  go_wp2_with fail
  refine (b10At_any _ _ _ _ A1 1 60 (by decide) (by decide) (by decide) (by decide)).mono ?_
  rintro e w1 ⟨s, rfl, hs, rfl⟩
  have hs := Int.ofNat_lt.1 hs
  clear A0 A1
  go_wp2_with fail
  refine (impl_RateAt_yes _ _ _ _ _ (inB_iff.2 (by omega)) (inB_iff.2 (by omega)) (inB_iff.2 (by omega))).mono ?_
  rintro e w1 ⟨a, rfl, ha, m1, rfl⟩
  have ha := Lib.hid ha
  go_wp2_with fail
  refine (impl_RateAt_yes _ _ _ _ _ (inB_iff.2 (by omega)) (inB_iff.2 (by omega)) (inB_iff.2 (by omega))).mono ?_
  rintro e w1 ⟨b, rfl, hb, m2, rfl⟩
  have hb := Lib.hid hb
  go_wp2_with fail
  refine (impl_RateAt_yes _ _ _ _ _ (inB_iff.2 (by omega)) (inB_iff.2 (by omega)) (inB_iff.2 (by omega))).mono ?_
  rintro e w1 ⟨c, rfl, hc, m3, rfl⟩
  have hc := Lib.hid hc
  go_wp2_with fail
  refine (impl_RateAt_yes _ _ _ _ _ (inB_iff.2 (by omega)) (inB_iff.2 (by omega)) (inB_iff.2 (by omega))).mono ?_
  rintro e w1 ⟨d, rfl, hd, m4, rfl⟩
  have hd := Lib.hid hd
  have ga := rate_gt (hh := hh) hx hwarm (show s ≤ 60 by omega)
  have gb := rate_gt (hh := hh) hx hwarm (show s + 1 ≤ 60 by omega)
  have gc := rate_gt (hh := hh) hx hwarm (show warm ≤ 60 by omega)
  have gd := rate_gt (hh := hh) (s := warm + (1 + hh)) hx hwarm (by omega)
  have ea := raw_of (by rw [ha.out, HB5.out]) ga
  have eb := raw_of (by rw [hb.out, HB5.out]) (by simpa using gb)
  have ec := raw_of (by rw [hc.out, HB5.out]) gc
  have ed := raw_of (by rw [hd.out, HB5.out]) (by simpa using gd)
  rw [rate_warm] at ec
  rw [rate_half] at ed
  have fc : FloatKind.f32.format.order c (baseW x) = some .eq := by rw [ec, order_self, HB6.out]; rfl
  have fd : FloatKind.f32.format.order d (halfW (baseW x)) = some .eq := by rw [ed, order_self, HB7.out]; rfl
  have fa : FloatKind.f32.format.order a 0 = some .gt := by rw [← ea] at ga; simpa [gt0] using ga
  have ha := Lib.hid ea; have hb := Lib.hid eb
  clear ga gb gc gd ea eb ec ed hc hd
  by_cases h1 : s + 1 < warm
  · obtain ⟨k1, k2⟩ := rate_next (hh := hh) hx hwarm hs h1
    rw [← hb.out, ← ha.out] at k1
    rw [← hb.out] at k2
    unfold gq at k1
    unfold lq at k2
    go_wp2
    all_goals
      go_ret
      refine ⟨?_, below_drewN (Below.refl _ _) _⟩
      simp [k1, k2]
  · by_cases h2 : s < warm
    · go_wp2
      all_goals
        go_ret
        refine ⟨?_, below_drewN (Below.refl _ _) _⟩
        simp [h2]
    · have k1 := rate_fall (hh := hh) hx hwarm hs h2
      rw [← hb.out, ← ha.out] at k1
      unfold lq at k1
      go_wp2
      all_goals
        go_ret
        refine ⟨?_, below_drewN (Below.refl _ _) _⟩
        simp [k1]
end Go.Proofs.Ytnnefcakfaifmaa
