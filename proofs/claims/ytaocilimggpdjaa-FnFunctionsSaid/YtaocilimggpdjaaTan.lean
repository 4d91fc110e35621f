/- What TanhNumber returns. No condition. -/
import Derived.Test.YtaocilimggpdjaaFnd
namespace Go.Proofs.Ytaocilimggpdjaa
open Go Go.RowKit Ieee
set_option linter.unusedVariables false
set_option linter.unusedSimpArgs false
set_option maxRecDepth 100000 in
theorem impl_TanhNumber (x P : Nat) (hn : isN .f32 x = false) (hP : expW (fop .mul .f64 T64 (wid x)) = P) (hgt : FloatKind.f32.format.order x 1101004800 ≠ some .gt) (hlt : FloatKind.f32.format.order x 3248488448 ≠ some .lt) (hok : cvWide .f64 (tanhR P) .f32 = false) (w : World) :
    Calls Try.prog 41 #[.float .f32 x] w fun e w' => ∃ r, e = .returned (.float .f32 r) ∧ Hid (cn .f32 r = nrw (tanhR P) ∧ r < 4294967296) ∧ Dr w w' := by
  have b1 : (FloatKind.f32.format.order x 1101004800 == some .gt) = false := by simpa using hgt
  have b2 : (FloatKind.f32.format.order x 3248488448 == some .lt) = false := by simpa using hlt
  have a1 : ∀ w1 w2, expW (cn .f64 (fbits .mul .f64 4611686018427387904 (cvbits .f32 x .f64 w1) w2)) = P := by
    intro w1 w2
    rw [cn_fbits, cn_wide, cn_not hn, show cn .f64 4611686018427387904 = T64 from cn_T64]; exact hP
  have a2 : ∀ r w1 w2 w3 w4, cn .f64 r = P → cn .f32 (cvbits .f64 (fbits .quo .f64 (fbits .sub .f64 r 4607182418800017408 w1) (fbits .add .f64 r 4607182418800017408 w2) w3) .f32 w4) = nrw (tanhR P) ∧ cvbits .f64 (fbits .quo .f64 (fbits .sub .f64 r 4607182418800017408 w1) (fbits .add .f64 r 4607182418800017408 w2) w3) .f32 w4 < 4294967296 := by
    intro r w1 w2 w3 w4 h
    have e : cn .f64 (fbits .quo .f64 (fbits .sub .f64 r 4607182418800017408 w1) (fbits .add .f64 r 4607182418800017408 w2) w3) = tanhR P := by
      rw [cn_fbits, cn_fbits, cn_fbits, h, show cn .f64 4607182418800017408 = O64 from cn_O64]; rfl
    have h2 := hok
    rw [← e, cvWide_cn] at h2
    exact ⟨by rw [cn_cvbits w4 h2, e]; rfl, cv_lt32 w4 h2⟩
  have A1 := Lib.hid a1; have A2 := Lib.hid a2
  clear a1 a2 hgt hlt hok hP hn
  go_enter Try.func41, Try.ntmps41
  go_wp2_with fail
  refine (impl_exp64 _ _).mono ?_
  rintro e w1 ⟨r, rfl, hr, hd⟩
  have HR := Lib.hid (A2.out r · · · · (by rw [hr.out]; exact A1.out _ _))
  have HD := Lib.hid hd
  clear hd hr
  go_wp2
  go_ret
  refine ⟨_, rfl, Lib.hid (HR.out _ _ _ _), ?_⟩
  obtain ⟨n, rfl⟩ := HD.out
  exact (((Dr.refl _).drewN _).drewN _).drewN _
end Go.Proofs.Ytaocilimggpdjaa
