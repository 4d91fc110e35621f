/- What LogNumber of both sides returns for a positive number. No condition. -/
import Derived.Test.YtaocilimggpdjaaLog
namespace Go.Proofs.Ytaocilimggpdjaa
open Go Go.RowKit Ieee
set_option linter.unusedVariables false
set_option linter.unusedSimpArgs false
def fltP (v : Value) : Nat := if fltOf v < 9223372036854775808 then fltOf v + 1 else 0
theorem fltP_kL : ∀ j, j < 13 → fltP (.float .f64 (kL (j + 1))) < fltP (.float .f64 (kL j)) := by decide +kernel
theorem B_val : B64 = 4503599627370496 := rfl
theorem W15_val : W15 = 4609434218613702656 := rfl
theorem W75_val : W75 = 4604930618986332160 := rfl
set_option maxRecDepth 100000 in
set_option maxHeartbeats 2000000 in
theorem impl_LogNumber_pos (x : Nat) (hx0 : 0 < x) (hx1 : x < single.infRung) (y : Nat) (hy : ∀ w, cvbits .f32 x .f64 w = y) (h1 : 874 * B64 ≤ y) (h2 : y < 1152 * B64) (hok : cvWide .f64 (logW y) .f32 = false) (w : World) :
    Calls Try.prog 39 #[.float .f32 x] w fun e w' => ∃ r, e = .returned (.float .f32 r) ∧ Hid (cn .f32 r = fcv .f64 (logW y) .f32 ∧ r < 4294967296) ∧ Dr w w' := by
  have eB := B_val; have eW := W15_val; have eV := W75_val
  have hIR := d_ir
  have o0 : FloatKind.f32.format.order x 0 = some .gt := by
    have e : FloatKind.f32.format.order x 0 = some (compare x 0) := order_pos single hx1 (by rw [s_ir]; decide)
    rw [e, Nat.compare_eq_gt.2 hx0]
  have hn : isN .f32 x = false := Fin.not (k := .f32) ⟨false, x, rfl, hx1⟩
  have o1 : FloatKind.f32.format.order x x = some .eq := by rw [order_self, hn]; rfl
  have hfin : finB x = true := by
    obtain ⟨m, p, e, _⟩ := read_num single false hx1
    have e2 : single.word false x = x := rfl
    rw [e2] at e
    unfold finB
    rw [e]
  have kf := fun W => impl_IsFinite x W
  rw [hfin] at kf
  have fin : ∀ r w, cn .f64 r = logW y → cn .f32 (cvbits .f64 r .f32 w) = fcv .f64 (logW y) .f32 ∧ cvbits .f64 r .f32 w < 4294967296 := by
    intro r w h
    rw [← h, cvWide_cn] at hok
    exact ⟨by rw [cn_cvbits w hok, h], cv_lt32 w hok⟩
  have uq1 := fun k => @K1_unique y k
  have uq2 := fun z k => @K2_unique z k
  obtain ⟨L, hL⟩ : ∃ L, L = logW y := ⟨_, rfl⟩
  have hLd : ∀ y1 k1 k2, logK1 y = k1 → y1 = y - k1 * B64 → logK2 y1 = k2 → L = logT (y1 + k2 * B64) ((k1 : Int) - k2) := by
    intro y1 k1 k2 e1 e2 e3
    rw [hL]; unfold logW; rw [e1, ← e2, e3]
  rw [← hL] at fin ⊢
  have KF := Lib.hid kf; have FI := Lib.hid fin; have U1 := Lib.hid uq1; have U2 := Lib.hid uq2; have LD := Lib.hid hLd; have HY := Lib.hid hy
  have H1 := Lib.hid h1; have H2 := Lib.hid h2; have EB := Lib.hid eB; have EW := Lib.hid eW; have EV := Lib.hid eV; have EI := Lib.hid hIR
  clear hL hLd hok kf fin uq1 uq2 hx0 hx1 hn hfin h1 h2 eB eW eV hIR
  go_enter Try.func39, Try.ntmps39
  go_wp2_with fail
  refine (KF.out _).mono ?_
  rintro e w1 ⟨rfl, hd1⟩
  have HD1 := Lib.hid hd1
  clear hd1 KF
  go_wp2
  clear hy
  go_loopw [3, 4] (fun v ev wr => ∃ k yk : Nat, v = .float .f64 yk ∧ ev = .float .f64 (floatOfInt .f64 (k : Int)) ∧ Hid (yk = y - k * B64 ∧ k ≤ 150 ∧ (k = 0 ∨ (k - 1) * B64 + W15 ≤ y)) ∧ Dr w wr) (fun v _ _ => fltOf v)
  case atStart => exact ⟨0, y, rfl, by rw [show floatOfInt .f64 ((0 : Nat) : Int) = 0 by decide +kernel], Lib.hid ⟨by omega, by omega, .inl rfl⟩, HD1.out.drewN _⟩
  case round =>
    obtain ⟨k, yk, rfl, rfl, HK, hd⟩ := hrel
    have HD := Lib.hid hd; clear hd
    obtain ⟨ek, hek⟩ : ∃ ek, ek = floatOfInt .f64 (k : Int) := ⟨_, rfl⟩
    rw [← hek]
    by_cases hge : W15 ≤ yk
    · have hb : 2 * B64 ≤ yk ∧ yk < double.infRung ∧ k ≤ 140 := by
        have := HK.out; have := H1.out; have := H2.out; (simp only [B_val, W15_val, W75_val, d_ir] at *; omega)
      have oc := order64_ge hb.2.1 (show W15 < double.infRung by rw [EI.out]; decide) hge
      have f1 := half_word hb.1 hb.2.1
      have f2 := e_up k (by omega)
      rw [← hek] at f2
      obtain ⟨en, hen⟩ : ∃ en, en = floatOfInt .f64 ((k + 1 : Nat) : Int) := ⟨_, rfl⟩
      rw [← hen] at f2
      obtain ⟨yn, hyn⟩ : ∃ yn, yn = yk - B64 := ⟨_, rfl⟩
      rw [← hyn] at f1
      have g1 := fun w => fbits_some f1 w
      have g2 := fdr_some f1
      have g3 := fun w => fbits_some f2 w
      have g4 := fdr_some f2
      unfold T64 at g1 g2
      unfold O64 at g3 g4
      have hz := World.drewN_none
      have hlt : yn < yk := by (simp only [B_val, W15_val, W75_val, d_ir] at *; omega)
      have HN := Lib.hid (show yn = y - (k + 1) * B64 ∧ k + 1 ≤ 150 ∧ (k + 1 = 0 ∨ (k + 1 - 1) * B64 + W15 ≤ y) by have := HK.out; (simp only [B_val, W15_val, W75_val, d_ir] at *; omega))
      have HEN := Lib.hid hen
      clear f1 f2 hyn hen hek hb hge
      unfold W15 at oc
      rcases oc with oc | oc
      all_goals
        go_wp2
        go_roundw
        case rel => exact ⟨k + 1, yn, rfl, by rw [HEN.out], HN, HD.out⟩
        case measure => simpa [fltOf] using hlt
    · have hb : yk < double.infRung ∧ yk < W15 := by
        have := HK.out; have := H1.out; have := H2.out; (simp only [B_val, W15_val, W75_val, d_ir] at *; omega)
      have oc := order64_lt hb.1 (show W15 < double.infRung by rw [EI.out]; decide) hb.2
      unfold W15 at oc
      have K1 := Lib.hid (U1.out k (by have := HK.out; omega) HK.out.2.2)
      obtain ⟨wo, hwo⟩ : ∃ wo : World, wo = wr := ⟨_, rfl⟩
      subst hwo
      rw [hek]
      clear hek hge
      go_wp2
      clear oc
      go_loopw [3, 4] (fun v ev wr => ∃ q yq : Nat, v = .float .f64 yq ∧ ev = .float .f64 (floatOfInt .f64 ((k : Int) - q)) ∧ Hid (yq = yk + q * B64 ∧ q ≤ 160 ∧ (q = 0 ∨ yk + (q - 1) * B64 < W75)) ∧ Dr w wr) (fun v _ _ => W75 - fltOf v)
      case atStart => exact ⟨0, yk, rfl, by simp, Lib.hid ⟨by omega, by omega, .inl rfl⟩, HD.out⟩
      case round =>
        clear HD
        obtain ⟨q, yq, rfl, rfl, HQ, hd⟩ := hrel
        have HD := Lib.hid hd; clear hd
        obtain ⟨ek, hek⟩ : ∃ ek, ek = floatOfInt .f64 ((k : Int) - q) := ⟨_, rfl⟩
        rw [← hek]
        by_cases hge : yq < W75
        · have hb : B64 ≤ yq ∧ yq + B64 < double.infRung ∧ q ≤ 155 := by
            have := HQ.out; have := HK.out; have := H1.out; have := H2.out; (simp only [B_val, W15_val, W75_val, d_ir] at *; omega)
          have oc := order64_lt (show yq < double.infRung by omega) (show W75 < double.infRung by rw [EI.out]; decide) hge
          have f1 := twice_word hb.1 hb.2.1
          have f2 := e_down (((k : Int) - q - 1 + 200).toNat) (by have := HK.out; omega)
          rw [show ((((k : Int) - q - 1 + 200).toNat : Nat) : Int) = (k : Int) - q - 1 + 200 by omega, show (k : Int) - q - 1 + 200 - 200 + 1 = (k : Int) - q by omega, show (k : Int) - q - 1 + 200 - 200 = (k : Int) - ((q + 1 : Nat) : Int) by omega, ← hek] at f2
          obtain ⟨en, hen⟩ : ∃ en, en = floatOfInt .f64 ((k : Int) - ((q + 1 : Nat) : Int)) := ⟨_, rfl⟩
          rw [← hen] at f2
          obtain ⟨yn, hyn⟩ : ∃ yn, yn = yq + B64 := ⟨_, rfl⟩
          rw [← hyn] at f1
          have g1 := fun w => fbits_some f1 w
          have g2 := fdr_some f1
          have g3 := fun w => fbits_some f2 w
          have g4 := fdr_some f2
          unfold T64 at g1 g2
          unfold O64 at g3 g4
          have hz := World.drewN_none
          have hlt : W75 - yn < W75 - yq := by (simp only [B_val, W15_val, W75_val, d_ir] at *; omega)
          have HN := Lib.hid (show yn = yk + (q + 1) * B64 ∧ q + 1 ≤ 160 ∧ (q + 1 = 0 ∨ yk + (q + 1 - 1) * B64 < W75) by have := HQ.out; (simp only [B_val, W15_val, W75_val, d_ir] at *; omega))
          have HEN := Lib.hid hen
          clear f1 f2 hyn hen hek hb hge
          unfold W75 at oc
          go_wp2
          go_roundw
          case rel => exact ⟨q + 1, yn, rfl, by rw [HEN.out], HN, HD.out⟩
          case measure => simpa [fltOf] using hlt
        · have hb : yq < double.infRung ∧ W75 ≤ yq := by
            have := HQ.out; have := HK.out; have := H1.out; have := H2.out; (simp only [B_val, W15_val, W75_val, d_ir] at *; omega)
          have oc := order64_ge hb.1 (show W75 < double.infRung by rw [EI.out]; decide) hb.2
          unfold W75 at oc
          have K2 := U2.out yk q (by have := HQ.out; omega) HQ.out.2.2
          have HL := Lib.hid (LD.out yk k q K1.out HK.out.1 K2)
          rw [← HQ.out.1] at HL
          have hcy : cn .f64 yq = yq := cn_not (Fin.not (k := .f64) (fin_pos hb.1))
          have HCY := Lib.hid hcy
          clear hge hb K2 hcy HQ HK
          have oc2 : (FloatKind.f64.format.order yq 4604930618986332160 == some .lt) = false := by rcases oc with e | e <;> rw [e] <;> rfl
          clear oc
          go_wp2
          rw [hek]
          clear hek oc2
          generalize hs : fbits BinOp.quo FloatKind.f64 (fbits BinOp.sub FloatKind.f64 yq 4607182418800017408 _) (fbits BinOp.add FloatKind.f64 yq 4607182418800017408 _) _ = s
          have hsc : cn .f64 s = fop .quo .f64 (fop .sub .f64 yq O64) (fop .add .f64 yq O64) := by
            rw [← hs, cn_fbits, cn_fbits, cn_fbits, HCY.out, show cn .f64 4607182418800017408 = O64 from cn_O64]
          clear hs
          generalize hu : fbits BinOp.mul FloatKind.f64 s s _ = u
          have huc : cn .f64 u = fop .mul .f64 (cn .f64 s) (cn .f64 s) := by rw [← hu, cn_fbits]
          clear hu
          obtain ⟨U, hU⟩ : ∃ U, U = fop .mul .f64 (cn .f64 s) (cn .f64 s) := ⟨_, rfl⟩
          rw [← hU] at huc
          have HS := Lib.hid hsc; have HU := Lib.hid huc; have HUU := Lib.hid hU
          clear hsc huc hU
          obtain ⟨ee, hee⟩ : ∃ ee, ee = floatOfInt .f64 ((k : Int) - q) := ⟨_, rfl⟩
          rw [← hee]
          have HEE := Lib.hid hee; clear hee
          obtain ⟨wp, hwp⟩ : ∃ wp : World, wp = wr := ⟨_, rfl⟩
          subst hwp
          go_loopw [7, 8] (fun qv kv wr => ∃ j : Nat, j ≤ 13 ∧ ∃ a kk, kv = .float .f64 kk ∧ qv = .float .f64 a ∧ Hid (kk = kL j ∧ cn .f64 a = logQ U j) ∧ Dr wp wr) (fun _ kv _ => fltP kv)
          case atStart => exact ⟨0, by omega, _, _, rfl, rfl, Lib.hid ⟨kL_zero.symm, show cn .f64 0 = 0 by decide +kernel⟩, (Dr.refl _).drewN _⟩
          case round =>
            obtain ⟨j, hj, a, kk, rfl, rfl, HK, hd⟩ := hrel
            have HD2 := Lib.hid hd; clear hd
            by_cases hlt : j < 13
            · obtain ⟨f1, f2⟩ := kL_facts j hlt
              have f3 := fltP_kL j hlt
              rw [← HK.out.1] at f1 f2 f3
              obtain ⟨kn, hkn⟩ : ∃ kn, kn = kL (j + 1) := ⟨_, rfl⟩
              rw [← hkn] at f1 f3
              have HKN := Lib.hid hkn; have F3 := Lib.hid f3
              have g1 := fun w => fbits_some f1 w
              have g2 := fdr_some f1
              unfold T64 at g1 g2
              unfold O64 at f2
              clear hkn f1 f3
              rcases f2 with f2 | f2
              all_goals
                go_wp2
                go_roundw
                case rel => exact ⟨j + 1, hlt, _, _, rfl, rfl, Lib.hid ⟨HKN.out, cn_logq U HK.out.1 HK.out.2 HU.out _ _ _⟩, HD2.out.drewN _⟩
                case measure => exact F3.out
            · have hj13 : j = 13 := by omega
              subst hj13
              have f2 := kL_end
              rw [← HK.out.1] at f2
              unfold O64 at f2
              go_wp2
              go_ret
              refine ⟨_, rfl, Lib.hid (FI.out _ _ ?_), ?_⟩
              · rw [HL.out, HEE.out]
                exact cn_logt HCY.out HS.out (by rw [HK.out.2, HUU.out]) _ _ _ _
              · exact (HD.out.trans HD2.out).drewN _
end Go.Proofs.Ytaocilimggpdjaa
