/- The law of gathered roundings, walked. No condition. -/
import Derived.Test.YtnnefcakfaifmaaGat
import Derived.Test.YtnnefcakfaifmaaSnm
import Derived.Test.YtnnefcakfaifmaaDrl
import Derived.Test.YtnnefcakfaifmaaEat
namespace Go.Proofs.Ytnnefcakfaifmaa
open Go Go.RowKit
set_option linter.unusedVariables false
set_option linter.unusedSimpArgs false
set_option maxHeartbeats 8000000 in
set_option maxRecDepth 100000 in
theorem fnGathered_walk (w : World) (a0 : Option Addr) (c0 : Nat) (l0 : List Int) (A0 : Ints .u8 w a0 c0 l0) (a1 : Option Addr) (c1 : Nat) (l1 : List Int) (A1 : Ints .u8 w a1 c1 l1) :
    Calls Try.prog 9 #[.slice a0 l0.length c0, .slice a1 l1.length c1] w fun e w' => e = .returned (.bool true) ∧ Below w.heap.size w w' := by
  by_cases hlong : l0.length ≤ 48 ∧ l1.length ≤ 48
  rotate_left
  · go_enter Try.func9, Try.ntmps9
    go_wp2_with fail
    refine (r8Long_yes _ _ _ _ _ _ _ hlong).mono ?_
    rintro e w1 ⟨rfl, rfl⟩
    go_wp2
    go_ret
    exact ⟨rfl, Below.refl _ _⟩
  obtain ⟨hl0, hl1⟩ := hlong
  have hr := r8_numbers w a0 c0 l0 A0 8 (by decide)
  have HR := Lib.hid hr; clear hr A0
  go_enter Try.func9, Try.ntmps9
  go_wp2_with fail
  refine (r8Long_no _ _ _ _ _ _ _ hl0 hl1).mono ?_
  rintro e w1 ⟨rfl, rfl⟩
  clear hl0 hl1
  go_wp2_with fail
  refine HR.out.mono ?_
  rintro e w1 ⟨ad, n, cap, xs, rfl, hn, hx, hb1⟩
  have A1 := A1.below hb1
  have HX := Lib.hid hx; have HB := Lib.hid hb1; clear hx hb1
  go_wp2_with fail
  refine (r8At_any _ _ _ _ A1 0 9 (by decide) (by decide) (by decide) (by decide)).mono ?_
  rintro e w2 ⟨R, rfl, hR, rfl⟩
  have hR := Int.ofNat_lt.1 hR
  clear A1
  have hg := impl_GatherRounding_yes _ ad cap xs HX.out.arg R (by have := HX.out.len; omega) (inB_iff.2 ⟨by omega, by omega⟩)
  rw [HX.out.len, Int.toNat_natCast] at hg
  have HG := Lib.hid hg; clear hg
  go_wp2_with fail
  refine HG.out.mono ?_
  rintro e w3 ⟨b1, n1, d1, ss, b2, n2, d2, rs, lo1, hi1, lo2, hi2, rfl, hs, hse, hn1, ht, hte, hn2, hD, hb3⟩
  obtain rfl : n = n1 := by have := len_of hse; rw [← hs.len, this]
  obtain rfl : n = n2 := by have := len_of hte; rw [← ht.len, this]
  have HX := Lib.hid (HX.out.below hb3)
  have HB := Lib.hid (bthen HB.out hb3)
  have HS := Lib.hid hs; have HT := Lib.hid ht; have HSE := Lib.hid hse; have HTE := Lib.hid hte
  clear hs ht hse hte hb3 hD HG HR
  go_wp2
  go_loopw [10] (fun i wr => ∃ k : Nat, i = .int .i64 k ∧ k ≤ n ∧ Dr w3 wr) (fun i _ => n - (intOf i).toNat)
  case atStart => exact ⟨0, rfl, Nat.zero_le _, Dr.refl _⟩
  case round =>
    obtain ⟨k, rfl, hk, hd⟩ := hrel
    have HD := Lib.hid hd; clear hd
    by_cases hlt : k < n
    · have hx1 := HX.out.arg.below HD.out.below
      obtain ⟨b, off, rfl, _, hq⟩ := hx1.spot (k := k) (by rw [HX.out.len]; exact hlt)
      have hc := hq k (by rw [HX.out.len]; exact hlt)
      have hs1 := HS.out.arg.below HD.out.below
      obtain ⟨bs, offs, rfl, _, hqs⟩ := hs1.spot (k := k) (by rw [HS.out.len]; exact hlt)
      have hcs := hqs k (by rw [HS.out.len]; exact hlt)
      have ht1 := HT.out.arg.below HD.out.below
      obtain ⟨bt, offt, rfl, _, hqt⟩ := ht1.spot (k := k) (by rw [HT.out.len]; exact hlt)
      have hct := hqt k (by rw [HT.out.len]; exact hlt)
      have gs := cn_at HSE.out hlt
      have gt := cn_at HTE.out hlt
      have ls := hs1.lt (ss.getD k 0) (by rw [List.getD_eq_getElem?_getD, List.getElem?_eq_getElem (by rw [HS.out.len]; exact hlt)]; exact List.getElem_mem _)
      have lt := ht1.lt (rs.getD k 0) (by rw [List.getD_eq_getElem?_getD, List.getElem?_eq_getElem (by rw [HT.out.len]; exact hlt)]; exact List.getElem_mem _)
      obtain ⟨x, px⟩ : ∃ x, x = xs.getD k 0 := ⟨_, rfl⟩
      obtain ⟨y, py⟩ : ∃ x, x = ss.getD k 0 := ⟨_, rfl⟩
      obtain ⟨z, pz⟩ : ∃ x, x = rs.getD k 0 := ⟨_, rfl⟩
      rw [← px] at hc
      rw [← py] at hcs gs ls
      rw [← pz] at hct gt lt
      have gx : cn .f32 x = (xs.map (cn .f32)).getD k 0 := by rw [px, cn_getD]
      obtain ⟨X, hX⟩ : ∃ X, X = xs.map (cn .f32) := ⟨_, rfl⟩
      rw [← hX] at gs gt gx
      have GS := Lib.hid gs; have GT := Lib.hid gt; have GX := Lib.hid gx
      clear gs gt gx hX px py pz hq hqs hqt hx1 hs1 ht1
      obtain ⟨wo, hwo⟩ : ∃ wo : World, wo = wr := ⟨_, rfl⟩
      subst hwo
      go_wp2
      go_loopw [11, 12, 13] (fun s r i wr => ∃ j : Nat, i = .int .i64 j ∧ j ≤ R ∧ ∃ u v : Nat, s = .float .f32 u ∧ r = .float .f32 v ∧ u < 4294967296 ∧ v < 4294967296 ∧ cn .f32 u = gS X j k ∧ cn .f32 v = gR X j k ∧ Dr wo wr) (fun _ _ i _ => R - (intOf i).toNat)
      case atStart => exact ⟨0, rfl, Nat.zero_le _, 0, 0, rfl, rfl, by decide, by decide, cn_zero, cn_zero, Dr.refl _⟩
      case round =>
        obtain ⟨j, rfl, hj, u, v, rfl, rfl, hu, hv, hue, hve, hd2⟩ := hrel
        have HU := Lib.hid hue; have HV := Lib.hid hve; have HD2 := Lib.hid hd2
        have hbb := hd2.below
        have c1 := (bcell hbb).1
        clear hue hve hd2
        by_cases hjR : j < R
        · go_wp2_with fail
          generalize hy : fbits BinOp.add FloatKind.f32 x v _ = y
          have hyc : cn .f32 y = fop .add .f32 (X.getD k 0) (gR X j k) := by rw [← hy, cn_fbits, GX.out, HV.out]
          have hyl : y < 4294967296 := by rw [← hy]; exact fbits_lt _ .f32 _ _ _
          have HY := Lib.hid hyc; clear hyc hy
          refine (impl_BfloatOf y hyl _).mono ?_
          rintro e w5 ⟨bb, rfl, hbb, hd5⟩
          have hd6 : Dr wo w5 := HD2.out.trans ((Dr.refl _).drewN _ |>.trans hd5)
          have HD6 := Lib.hid hd6
          have hbb6 := hd6.below
          have c6 := (bcell hbb6).1
          clear hd5 hd6
          go_wp2
          go_roundw
          case rel =>
            refine ⟨j + 1, by go_num, hjR, _, _, rfl, rfl, fbits_lt _ .f32 _ _ _, fbits_lt _ .f32 _ _ _, ?_, ?_, (HD6.out.drewN _)⟩
            · rw [cn_fbits, HU.out, hbb.out.1, HY.out]; rfl
            · rw [cn_fbits, hbb.out.1, HY.out]; rfl
          case measure => simp [intOf]; omega
        · have hjn : j = R := by omega
          subst hjn
          have hcs2 := (c1 bs (offs + k) (by assumption)).trans hcs
          have hct2 := (c1 bt (offt + k) (by assumption)).trans hct
          go_wp2_with fail
          refine (impl_SameNumber y u ls hu _).mono ?_
          rintro e w5 ⟨rfl, hd5⟩
          have hyu : decide (cn .f32 y = cn .f32 u) = true := by rw [decide_eq_true_eq, GS.out, HU.out]
          rw [hyu]
          have hd6 : Dr wo w5 := HD2.out.trans hd5
          have HD6 := Lib.hid hd6
          have hct3 := ((bcell hd6.below).1 bt (offt + k) (by assumption)).trans hct
          clear hd5 hd6 hyu
          go_wp2_with fail
          refine (impl_SameNumber z v lt hv _).mono ?_
          rintro e w6 ⟨rfl, hd5⟩
          have hyu : decide (cn .f32 z = cn .f32 v) = true := by rw [decide_eq_true_eq, GT.out, HV.out]
          rw [hyu]
          have hd7 : Dr wo w6 := HD6.out.trans hd5
          have HD7 := Lib.hid hd7
          clear hd5 hd7 hyu
          go_wp2
          go_roundw
          case rel => exact ⟨k + 1, by go_num, hlt, HD.out.trans HD7.out⟩
          case measure => simp [intOf]; omega
    · have hkn : k = n := by omega
      subst hkn
      go_wp2
      go_ret
      exact ⟨rfl, bthen HB.out HD.out.below⟩
end Go.Proofs.Ytnnefcakfaifmaa
