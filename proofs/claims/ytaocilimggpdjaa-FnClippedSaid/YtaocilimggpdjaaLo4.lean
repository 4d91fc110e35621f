/- What LogNumber returns for a positive number, and for none, on both sides. No condition. -/
import Derived.Test.YtaocilimggpdjaaLo3
import Derived.Test.YtaocilimggpdjaaAbs
namespace Go.Proofs.Ytaocilimggpdjaa
open Go Go.RowKit Ieee
set_option linter.unusedVariables false
set_option linter.unusedSimpArgs false
def logIn (x : Nat) : Prop := isN .f32 x = true ∨ (0 < x ∧ x < single.infRung)
theorem logG_nan {x : Nat} (h : isN .f32 x = true) : logG (cn .f32 x) = nanOf .f32 := by unfold logG; rw [isN_cn, if_pos h]
theorem logG_pos {x y : Nat} (h1 : x < single.infRung) (hy : ∀ w, cvbits .f32 x .f64 w = y) : logG (cn .f32 x) = fcv .f64 (logW y) .f32 := by
  have hn : isN .f32 x = false := Fin.not (k := .f32) ⟨false, x, rfl, h1⟩
  unfold logG
  rw [isN_cn, hn, if_neg (by decide), cn_not hn]
  have e := cn_wide x (default : World)
  have hy2 : isN .f64 y = false := by rw [← hy (default : World), isN_wide2]; exact hn
  rw [hy, cn_not hn, cn_not hy2] at e
  rw [← e]
set_option maxRecDepth 100000 in
theorem impl_LogNumber_any (x : Nat) (h : logIn x) (w : World) :
    Calls Try.prog 39 #[.float .f32 x] w fun e w' => ∃ r, e = .returned (.float .f32 r) ∧ Hid (cn .f32 r = logG (cn .f32 x) ∧ r < 4294967296) ∧ Dr w w' := by
  rcases h with h | ⟨h0, h1⟩
  · have o1 : FloatKind.f32.format.order x 0 = none := order_none (.inl h)
    have o2 : FloatKind.f32.format.order x x = none := order_none (.inl h)
    rw [logG_nan h]
    clear h
    go_enter Try.func39, Try.ntmps39
    go_wp2_with fail
    refine (impl_noNumber _).mono ?_
    rintro e w1 ⟨r, rfl, hr, hd⟩
    have HD := Lib.hid hd
    clear hd
    go_wp2
    go_ret
    exact ⟨r, rfl, hr, HD.out⟩
  · obtain ⟨y, hy, b1, b2⟩ := wide_bounds h0 h1
    rw [logG_pos h1 hy]
    have hb := logW_btw b1 b2
    exact impl_LogNumber_pos x h0 h1 y hy b1 b2 (hb.narrow (smallI_of (by decide) (by decide)) (smallI_of (by decide) (by decide))).1 w
set_option maxRecDepth 100000 in
theorem spec_l01LogWide_nan (y : Nat) (h : isN .f64 y = true) (w : World) :
    Calls Try.prog 143 #[.float .f64 y] w fun e w' => e = .returned (.float .f64 9221120237041090561) ∧ w = w' := by
  have o2 : FloatKind.f64.format.order y y = none := order_none (.inl h)
  clear h
  go_enter Try.func143, Try.ntmps143
  go_wp2_with fail
  refine (math_NaN _).mono ?_
  rintro e w1 ⟨rfl, rfl⟩
  go_wp2
  go_ret
  exact ⟨rfl, rfl⟩
set_option maxRecDepth 100000 in
theorem spec_l01Log_any (x : Nat) (h : logIn x) (w : World) :
    Calls Try.prog 86 #[.float .f32 x] w fun e w' => ∃ r, e = .returned (.float .f32 r) ∧ Hid (cn .f32 r = logG (cn .f32 x) ∧ r < 4294967296) ∧ Dr w w' := by
  rcases h with h | ⟨h0, h1⟩
  · rw [logG_nan h]
    have hw := fun w => isN_wide x w h
    have e0 : cvWide .f64 9221120237041090561 .f32 = false := by decide +kernel
    have hv : ∀ w, cn .f32 (cvbits .f64 9221120237041090561 .f32 w) = nanOf .f32 ∧ cvbits .f64 9221120237041090561 .f32 w < 4294967296 := fun w => ⟨by rw [cn_cvbits w e0]; decide +kernel, cv_lt32 w e0⟩
    have HW := Lib.hid hw; have HV := Lib.hid hv
    clear hw hv h e0
    go_enter Try.func86, Try.ntmps86
    go_wp2_with fail
    refine (spec_l01LogWide_nan _ (HW.out _) _).mono ?_
    rintro e w1 ⟨rfl, rfl⟩
    go_wp2_with fail
    refine (spec_l01Narrow _ _).mono ?_
    rintro e w2 ⟨rfl, rfl⟩
    go_wp2
    go_ret
    exact ⟨_, rfl, Lib.hid (HV.out _), (Dr.refl _).drewN _⟩
  · obtain ⟨y, hy, b1, b2⟩ := wide_bounds h0 h1
    rw [logG_pos h1 hy]
    have hb := logW_btw b1 b2
    have hnw := (hb.narrow (smallI_of (by decide) (by decide)) (smallI_of (by decide) (by decide))).1
    have fin : ∀ r w, cn .f64 r = logW y → cn .f32 (cvbits .f64 r .f32 w) = fcv .f64 (logW y) .f32 ∧ cvbits .f64 r .f32 w < 4294967296 := by
      intro r w h
      have h2 := hnw
      rw [← h, cvWide_cn] at h2
      exact ⟨by rw [cn_cvbits w h2, h], cv_lt32 w h2⟩
    have KW := Lib.hid (fun W => spec_l01LogWide_pos y b1 b2 W); have FI := Lib.hid fin
    clear b1 b2 hb hnw fin h0 h1
    go_enter Try.func86, Try.ntmps86
    go_wp2_with fail
    refine (KW.out _).mono ?_
    rintro e w1 ⟨r, rfl, hr, hd⟩
    have HR := Lib.hid (fun w => FI.out r w hr.out)
    have HD := Lib.hid hd
    clear hr hd
    go_wp2_with fail
    refine (spec_l01Narrow _ _).mono ?_
    rintro e w2 ⟨rfl, rfl⟩
    go_wp2
    go_ret
    refine ⟨_, rfl, Lib.hid (HR.out _), ?_⟩
    obtain ⟨n, rfl⟩ := HD.out
    exact (((Dr.refl _).drewN _).drewN _).drewN _
end Go.Proofs.Ytaocilimggpdjaa
