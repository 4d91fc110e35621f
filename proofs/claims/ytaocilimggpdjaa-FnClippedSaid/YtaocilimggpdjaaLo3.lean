/- What the reference's logarithm returns; both sides at every positive number, and at none. No condition. -/
import Derived.Test.YtaocilimggpdjaaExb
namespace Go.Proofs.Ytaocilimggpdjaa
open Go Go.RowKit Ieee
set_option linter.unusedVariables false
set_option linter.unusedSimpArgs false
set_option exponentiation.threshold 2000 in
theorem wide_bounds {x : Nat} (h0 : 0 < x) (h1 : x < single.infRung) : ∃ q, (∀ w, cvbits .f32 x .f64 w = q) ∧ 874 * B64 ≤ q ∧ q < 1152 * B64 := by
  obtain ⟨q, hq, hc, hv⟩ := wide_fin false h1
  have e1 : single.word false x = x := rfl
  have e2 : double.word false q = q := rfl
  rw [e1, e2] at hc
  have hb : double.binade = B64 := by decide +kernel
  refine ⟨q, hc, ?_, ?_⟩
  · rcases Nat.lt_or_ge q (874 * B64) with h | h
    · exfalso
      have h2 := nval_lt (f := double) h
      have h3 := nval_head double 873
      rw [hb] at h3
      rw [h3, hv] at h2
      have h4 : 1 ≤ nval single x := by
        have := nval_lt (f := single) h0
        rw [nval_zero] at this
        exact this
      have h5 : B64 * 2 ^ 873 = 2 ^ 925 := by decide +kernel
      rw [h5] at h2
      have := Nat.mul_le_mul_right (2 ^ 925) h4
      omega
    · exact h
  · rcases Nat.lt_or_ge q (1152 * B64) with h | h
    · exact h
    · exfalso
      have h2 := nval_le (f := double) h
      have h3 := nval_head double 1151
      rw [hb] at h3
      rw [h3, hv] at h2
      have h4 := nval_lt (f := single) h1
      have h6 : nval single single.infRung = 2 ^ 277 := by decide +kernel
      rw [h6] at h4
      have h5 : B64 * 2 ^ 1151 = 2 ^ 278 * 2 ^ 925 := by decide +kernel
      rw [h5] at h2
      have h7 := Nat.le_of_mul_le_mul_right h2 (Nat.two_pow_pos 925)
      have h8 : (2 : Nat) ^ 278 = 2 * 2 ^ 277 := by decide +kernel
      omega
def logG (x : Nat) : Nat := if isN .f32 x = true then nanOf .f32 else fcv .f64 (logW (fcv .f32 x .f64)) .f32
theorem math_IsInf (y : Nat) (hy : (FloatKind.f64.format.order y 9218868437227405311 == some .gt) = false) (w : World) : Calls Try.prog 163 #[.float .f64 y, .int .i64 1] w fun e w' => e = .returned (.bool false) ∧ w = w' := by
  go_enter Try.func163, Try.ntmps163
  go_wp2
  go_ret
  exact ⟨rfl, rfl⟩
set_option maxRecDepth 100000 in
set_option maxHeartbeats 2000000 in
theorem spec_l01LogWide_pos (y : Nat) (h1 : 874 * B64 ≤ y) (h2 : y < 1152 * B64) (w : World) :
    Calls Try.prog 143 #[.float .f64 y] w fun e w' => ∃ r, e = .returned (.float .f64 r) ∧ Hid (cn .f64 r = logW y) ∧ Dr w w' := by
  have eB := B_val
  have hIR := d_ir
  have hyI : y < double.infRung := by rw [hIR]; simp only [B_val] at h2; omega
  have hy0 : 0 < y := by simp only [B_val] at h1; omega
  have o0 : FloatKind.f64.format.order y 0 = some .gt := by
    have e : FloatKind.f64.format.order y 0 = some (compare y 0) := order_pos double hyI (by rw [hIR]; decide)
    rw [e, Nat.compare_eq_gt.2 hy0]
  have hn : isN .f64 y = false := Fin.not (k := .f64) (fin_pos hyI)
  have o1 : FloatKind.f64.format.order y y = some .eq := by rw [order_self, hn]; rfl
  have om : (FloatKind.f64.format.order y 9218868437227405311 == some .gt) = false := by
    have e : FloatKind.f64.format.order y 9218868437227405311 = some (compare y 9218868437227405311) := order_pos double hyI (by rw [hIR]; decide)
    rw [e]
    have : y ≤ 9218868437227405311 := by rw [hIR] at hyI; omega
    rcases Nat.lt_or_eq_of_le this with h | h
    · rw [Nat.compare_eq_lt.2 h]; rfl
    · rw [Nat.compare_eq_eq.2 h]; rfl
  have kf := fun W => math_IsInf y om W
  have uq1 := fun k => @K1_unique y k
  have uq2 := fun z k => @K2_unique z k
  obtain ⟨L, hL⟩ : ∃ L, L = logW y := ⟨_, rfl⟩
  have hLd : ∀ y1 k1 k2, logK1 y = k1 → y1 = y - k1 * B64 → logK2 y1 = k2 → L = logT (y1 + k2 * B64) ((k1 : Int) - k2) := by
    intro y1 k1 k2 e1 e2 e3
    rw [hL]; unfold logW; rw [e1, ← e2, e3]
  rw [← hL]
  have KF := Lib.hid kf; have U1 := Lib.hid uq1; have U2 := Lib.hid uq2; have LD := Lib.hid hLd
  have H1 := Lib.hid h1; have H2 := Lib.hid h2; have EI := Lib.hid hIR
  clear hL hLd kf uq1 uq2 hy0 hyI hn h1 h2 eB hIR om
  go_enter Try.func143, Try.ntmps143
  go_wp2_with fail
  refine (KF.out _).mono ?_
  rintro e w1 ⟨rfl, rfl⟩
  clear KF
  go_wp2
  go_loopw [0, 3] (fun v ev wr => ∃ k yk : Nat, v = .float .f64 yk ∧ ev = .int .i64 (k : Int) ∧ Hid (yk = y - k * B64 ∧ k ≤ 150 ∧ (k = 0 ∨ (k - 1) * B64 + W15 ≤ y)) ∧ Dr w wr) (fun v _ _ => fltOf v)
  case atStart => exact ⟨0, y, rfl, rfl, Lib.hid ⟨by omega, by omega, .inl rfl⟩, Dr.refl _⟩
  case round =>
    obtain ⟨k, yk, rfl, rfl, HK, hd⟩ := hrel
    have HD := Lib.hid hd; clear hd
    have hk150 : k ≤ 150 := HK.out.2.1
    by_cases hge : W15 ≤ yk
    · have hb : 2 * B64 ≤ yk ∧ yk < double.infRung ∧ k ≤ 140 := by
        have := HK.out; have := H1.out; have := H2.out; (simp only [B_val, W15_val, W75_val, d_ir] at *; omega)
      have oc := order64_ge hb.2.1 (show W15 < double.infRung by rw [EI.out]; decide) hge
      have f1 := half_word hb.1 hb.2.1
      obtain ⟨yn, hyn⟩ : ∃ yn, yn = yk - B64 := ⟨_, rfl⟩
      rw [← hyn] at f1
      have g1 := fun w => fbits_some f1 w
      have g2 := fdr_some f1
      unfold T64 at g1 g2
      have hz := World.drewN_none
      have hlt : yn < yk := by (simp only [B_val, W15_val, W75_val, d_ir] at *; omega)
      have HN := Lib.hid (show yn = y - (k + 1) * B64 ∧ k + 1 ≤ 150 ∧ (k + 1 = 0 ∨ (k + 1 - 1) * B64 + W15 ≤ y) by have := HK.out; (simp only [B_val, W15_val, W75_val, d_ir] at *; omega))
      clear f1 hyn hb hge
      unfold W15 at oc
      rcases oc with oc | oc
      all_goals
        go_wp2
        go_roundw
        case rel => exact ⟨k + 1, yn, rfl, by go_num, HN, HD.out⟩
        case measure => simpa [fltOf] using hlt
    · have hb : yk < double.infRung ∧ yk < W15 := by
        have := HK.out; have := H1.out; have := H2.out; (simp only [B_val, W15_val, W75_val, d_ir] at *; omega)
      have oc := order64_lt hb.1 (show W15 < double.infRung by rw [EI.out]; decide) hb.2
      unfold W15 at oc
      have K1 := Lib.hid (U1.out k (by have := HK.out; omega) HK.out.2.2)
      obtain ⟨wo, hwo⟩ : ∃ wo : World, wo = wr := ⟨_, rfl⟩
      subst hwo
      clear hge
      go_wp2
      clear oc
      go_loopw [0, 3] (fun v ev wr => ∃ q yq : Nat, v = .float .f64 yq ∧ ev = .int .i64 ((k : Int) - q) ∧ Hid (yq = yk + q * B64 ∧ q ≤ 160 ∧ (q = 0 ∨ yk + (q - 1) * B64 < W75)) ∧ Dr w wr) (fun v _ _ => W75 - fltOf v)
      case atStart => exact ⟨0, yk, rfl, by simp, Lib.hid ⟨by omega, by omega, .inl rfl⟩, HD.out⟩
      case round =>
        clear HD
        obtain ⟨q, yq, rfl, rfl, HQ, hd⟩ := hrel
        have HD := Lib.hid hd; clear hd
        have hq160 : q ≤ 160 := HQ.out.2.1
        by_cases hge : yq < W75
        · have hb : B64 ≤ yq ∧ yq + B64 < double.infRung ∧ q ≤ 155 := by
            have := HQ.out; have := HK.out; have := H1.out; have := H2.out; (simp only [B_val, W15_val, W75_val, d_ir] at *; omega)
          have oc := order64_lt (show yq < double.infRung by omega) (show W75 < double.infRung by rw [EI.out]; decide) hge
          have f1 := twice_word hb.1 hb.2.1
          obtain ⟨yn, hyn⟩ : ∃ yn, yn = yq + B64 := ⟨_, rfl⟩
          rw [← hyn] at f1
          have g1 := fun w => fbits_some f1 w
          have g2 := fdr_some f1
          unfold T64 at g1 g2
          have hz := World.drewN_none
          have hlt : W75 - yn < W75 - yq := by (simp only [B_val, W15_val, W75_val, d_ir] at *; omega)
          have HN := Lib.hid (show yn = yk + (q + 1) * B64 ∧ q + 1 ≤ 160 ∧ (q + 1 = 0 ∨ yk + (q + 1 - 1) * B64 < W75) by have := HQ.out; (simp only [B_val, W15_val, W75_val, d_ir] at *; omega))
          clear f1 hyn hb hge
          unfold W75 at oc
          go_wp2
          go_roundw
          case rel => exact ⟨q + 1, yn, rfl, by go_num, HN, HD.out⟩
          case measure => simpa [fltOf] using hlt
        · have hb : yq < double.infRung ∧ W75 ≤ yq := by
            have := HQ.out; have := HK.out; have := H1.out; have := H2.out; (simp only [B_val, W15_val, W75_val, d_ir] at *; omega)
          have oc := order64_ge hb.1 (show W75 < double.infRung by rw [EI.out]; decide) hb.2
          unfold W75 at oc
          have K2 := U2.out yk q (by have := HQ.out; omega) HQ.out.2.2
          have HL := Lib.hid (LD.out yk k q K1.out HK.out.1 K2)
          rw [← HQ.out.1] at HL
          have hcy : cn .f64 yq = yq := cn_not (Fin.not (k := .f64) (fin_pos hb.1))
          have HCY := Lib.hid hcy
          clear hge hb K2 hcy HQ HK
          have oc2 : (FloatKind.f64.format.order yq 4604930618986332160 == some .lt) = false := by rcases oc with e | e <;> rw [e] <;> rfl
          clear oc
          go_wp2
          clear oc2
          generalize hs : fbits BinOp.quo FloatKind.f64 (fbits BinOp.sub FloatKind.f64 yq 4607182418800017408 _) (fbits BinOp.add FloatKind.f64 yq 4607182418800017408 _) _ = s
          have hsc : cn .f64 s = fop .quo .f64 (fop .sub .f64 yq O64) (fop .add .f64 yq O64) := by
            rw [← hs, cn_fbits, cn_fbits, cn_fbits, HCY.out, show cn .f64 4607182418800017408 = O64 from cn_O64]
          clear hs
          generalize hu : fbits BinOp.mul FloatKind.f64 s s _ = u
          have huc : cn .f64 u = fop .mul .f64 (cn .f64 s) (cn .f64 s) := by rw [← hu, cn_fbits]
          clear hu
          obtain ⟨U, hU⟩ : ∃ U, U = fop .mul .f64 (cn .f64 s) (cn .f64 s) := ⟨_, rfl⟩
          rw [← hU] at huc
          have HS := Lib.hid hsc; have HU := Lib.hid huc; have HUU := Lib.hid hU
          clear hsc huc hU
          obtain ⟨ei, hei⟩ : ∃ ei : Int, ei = (k : Int) - q := ⟨_, rfl⟩
          rw [← hei]
          have HEE := Lib.hid hei; clear hei hq160 hk150
          obtain ⟨wp, hwp⟩ : ∃ wp : World, wp = wr := ⟨_, rfl⟩
          subst hwp
          go_loopw [6, 7] (fun qv kv wr => ∃ j : Nat, kv = .int .i64 (25 - 2 * (j : Int)) ∧ j ≤ 13 ∧ ∃ a, qv = .float .f64 a ∧ Hid (cn .f64 a = logQ U j) ∧ Dr wp wr) (fun _ kv _ => (intOf kv + 1).toNat)
          case atStart => exact ⟨0, rfl, by omega, _, rfl, Lib.hid (show cn .f64 0 = 0 by decide +kernel), (Dr.refl _).drewN _⟩
          case round =>
            obtain ⟨j, rfl, hj, a, rfl, HK, hd⟩ := hrel
            have HD2 := Lib.hid hd; clear hd
            by_cases hlt : j < 13
            · obtain ⟨kk, hkk⟩ : ∃ kk : Int, kk = 25 - 2 * (j : Int) := ⟨_, rfl⟩
              have hk1 : 1 ≤ kk ∧ kk ≤ 25 := by omega
              have hkf : floatOfInt .f64 kk = kL j := by rw [hkk]; rfl
              rw [← hkk]
              have HKK := Lib.hid hkk; have HKF := Lib.hid hkf
              clear hkk hkf
              go_wp2
              go_roundw
              case rel => exact ⟨j + 1, by have := HKK.out; go_num, hlt, _, rfl, Lib.hid (cn_logq U HKF.out HK.out HU.out _ _ _), HD2.out.drewN _⟩
              case measure => simp [intOf]; omega
            · have hj13 : j = 13 := by omega
              subst hj13
              go_wp2
              go_ret
              refine ⟨_, rfl, Lib.hid ?_, ?_⟩
              · rw [HL.out, ← HEE.out]
                exact cn_logt HCY.out HS.out (by rw [HK.out, HUU.out]) _ _ _ _
              · exact (HD.out.trans HD2.out).drewN _
end Go.Proofs.Ytaocilimggpdjaa
