/- What ExpNumber of both sides returns. No condition. -/
import Derived.Test.YtaocilimggpdjaaExp
namespace Go.Proofs.Ytaocilimggpdjaa
open Go Go.RowKit Ieee
set_option linter.unusedVariables false
set_option linter.unusedSimpArgs false
def c200 : Nat := 1128792064
def cm200 : Nat := 3276275712
/-- the exponential function of a number that is not greater than 200 -/
def expF (x : Nat) : Nat := if FloatKind.f32.format.order x cm200 = some .lt then 0 else fcv .f64 (expW (fcv .f32 x .f64)) .f32
theorem order_cnl {k : FloatKind} (x c : Nat) (hc : cn k c = c) : k.format.order (cn k x) c = k.format.order x c := by
  have h := order_cn k x c
  rwa [hc] at h
theorem cn_cm200 : cn .f32 cm200 = cm200 := by decide +kernel
theorem cn_c64 : cn .f64 4641240890982006784 = 4641240890982006784 ∧ cn .f64 13864612927836782592 = 13864612927836782592 := by decide +kernel
theorem c200_wide : fcv .f32 c200 .f64 = 4641240890982006784 ∧ fcv .f32 cm200 .f64 = 13864612927836782592 := by decide +kernel
theorem fin_c200 : Fin single c200 := ⟨false, 1128792064, rfl, by rw [s_ir]; decide⟩
theorem fin_cm200 : Fin single cm200 := ⟨true, 1128792064, by decide +kernel, by rw [s_ir]; decide⟩
theorem isN_wide2 (x : Nat) (w : World) : isN .f64 (cvbits .f32 x .f64 w) = isN .f32 x := by
  have e := cn_wide x w
  cases h : isN .f32 x
  · rw [cn_not h] at e
    rw [← isN_cn, e]
    cases h3 : isN .f64 (fcv .f32 x .f64)
    · rfl
    · exfalso
      unfold isN fcv at h3
      rw [if_neg (by decide)] at h3
      unfold isN at h
      cases hr : FloatKind.f32.format.read x with
      | nan s t => rw [hr] at h; simp [Datum.isNaN] at h
      | number s m p =>
        have hd : FloatKind.f32.decode x = .number s m p := hr
        rw [hd] at h3
        have h4 : (FloatKind.f64.format.read (FloatKind.f64.format.nearest s m p)).isNaN = true := h3
        rw [nearest_not] at h4; cases h4
      | infinity s =>
        have hd : FloatKind.f32.decode x = .infinity s := hr
        rw [hd] at h3
        revert h3
        cases s <;> decide +kernel
  · exact isN_wide x w h
/-- a number that is made wider compares as before -/
theorem order_wide {x c : Nat} (hx : x < 4294967296) (hc : Fin single c) (w : World) : FloatKind.f64.format.order (cvbits .f32 x .f64 w) (fcv .f32 c .f64) = FloatKind.f32.format.order x c := by
  obtain ⟨s, r, e, hr⟩ := word_of single (x := x) (by rw [s_sw]; omega)
  subst e
  rcases Nat.lt_trichotomy r single.infRung with h1 | h1 | h1
  · have hf : Fin single (single.word s r) := ⟨s, r, rfl, h1⟩
    obtain ⟨q, hq, hcv, hval⟩ := wide_fin s h1
    have hw := wide_val hf
    have e2 : cvbits .f32 (single.word s r) .f64 w = fcv .f32 (single.word s r) .f64 := by
      have e := cn_cvbits w (wide_ok (single.word s r))
      rw [cn_not (Fin.not (k := .f32) hf)] at e
      have h3 : isN .f64 (cvbits .f32 (single.word s r) .f64 w) = false := by rw [hcv]; exact read_word_le double s (Nat.le_of_lt hq)
      rw [cn_not h3] at e
      exact e
    rw [e2]
    have hc2 := wide_val hc
    have o1 := order_val (k := .f64) hw.1 hc2.1
    have o2 := order_val (k := .f32) hf hc
    have v1 : val FloatKind.f64.format (fcv .f32 (single.word s r) .f64) = val FloatKind.f32.format (single.word s r) := hw.2
    have v2 : val FloatKind.f64.format (fcv .f32 c .f64) = val FloatKind.f32.format c := hc2.2
    rw [v1, v2] at o1
    rcases rat_tri (val FloatKind.f32.format (single.word s r)) (val FloatKind.f32.format c) with h | h | h
    · rw [o1.1.2 h, o2.1.2 h]
    · rw [o1.2.2.2 h, o2.2.2.2 h]
    · rw [o1.2.1.2 h, o2.2.1.2 h]
  · subst h1
    obtain ⟨t, q, rfl, hq⟩ := hc
    have e1 : single.read (single.word s single.infRung) = .infinity s := read_inf single single_binade s
    have e2 : cvbits .f32 (single.word s single.infRung) .f64 w = double.word s double.infRung := by
      have h3 : isN .f64 (cvbits .f32 (single.word s single.infRung) .f64 w) = false := by rw [isN_wide2]; (cases s <;> decide +kernel)
      have e := cn_cvbits w (wide_ok (single.word s single.infRung))
      rw [cn_not h3] at e
      rw [e]
      cases s <;> decide +kernel
    obtain ⟨q2, hq2, hcv, _⟩ := wide_fin t hq
    have e3 : fcv .f32 (single.word t q) .f64 = double.word t q2 := by
      have hf : Fin single (single.word t q) := ⟨t, q, rfl, hq⟩
      have e := cn_cvbits w (wide_ok (single.word t q))
      rw [cn_not (Fin.not (k := .f32) hf), hcv, cn_not (k := .f64) (read_word_le double t (Nat.le_of_lt hq2))] at e
      exact e.symm
    rw [e2, e3]
    show double.order _ _ = single.order _ _
    unfold Format.order
    obtain ⟨m, p, hm, _⟩ := read_num double t hq2
    obtain ⟨m2, p2, hm2, _⟩ := read_num single t hq
    rw [read_inf double double_binade s, hm, e1, hm2]
    rfl
  · have hn : isN .f32 (single.word s r) = true := nan_word single single_binade s h1 hr
    rw [order_none (.inl hn), order_none (.inl (isN_wide _ w hn))]
theorem expW_nan : expW (nanOf .f64) = nanOf .f64 := by decide +kernel
def okExp (x : Nat) : Prop := FloatKind.f32.format.order x c200 ≠ some .gt ∧ (FloatKind.f32.format.order x cm200 ≠ some .lt → cvWide .f64 (expW (fcv .f32 (cn .f32 x) .f64)) .f32 = false)
/-- narrowed -/
theorem exp_narrow {x r : Nat} (h : cn .f64 r = expW (fcv .f32 (cn .f32 x) .f64)) (hlt : FloatKind.f32.format.order x cm200 ≠ some .lt) (hok : okExp x) (w : World) : cn .f32 (cvbits .f64 r .f32 w) = expF (cn .f32 x) ∧ cvbits .f64 r .f32 w < 4294967296 := by
  have hw := hok.2 hlt
  rw [← h, cvWide_cn] at hw
  refine ⟨?_, cv_lt32 w hw⟩
  rw [cn_cvbits w hw, h]
  unfold expF
  rw [if_neg]
  intro e
  apply hlt
  rw [order_cnl _ _ cn_cm200] at e
  exact e
theorem expF_low {x : Nat} (hlt : FloatKind.f32.format.order x cm200 = some .lt) : expF (cn .f32 x) = 0 := by
  unfold expF
  rw [if_pos]
  rw [order_cnl _ _ cn_cm200]; exact hlt
set_option maxRecDepth 100000 in
theorem impl_ExpNumber (x : Nat) (hx : x < 4294967296) (hok : okExp x) (w : World) : Calls Try.prog 38 #[.float .f32 x] w fun e w' => ∃ r, e = .returned (.float .f32 r) ∧ Hid (cn .f32 r = expF (cn .f32 x) ∧ r < 4294967296) ∧ Dr w w' := by
  have b1 : (FloatKind.f32.format.order x 1128792064 == some .gt) = false := by have h := hok.1; unfold c200 at h; simpa using h
  by_cases hlt : FloatKind.f32.format.order x cm200 = some .lt
  · have hE := expF_low hlt
    have b2 : FloatKind.f32.format.order x 3276275712 = some .lt := hlt
    have HE := Lib.hid hE
    clear hlt hok hE
    go_enter Try.func38, Try.ntmps38
    go_wp2
    go_ret
    exact ⟨0, rfl, Lib.hid ⟨by rw [HE.out]; decide +kernel, by decide⟩, Dr.refl _⟩
  · have b2 : (FloatKind.f32.format.order x 3276275712 == some .lt) = false := by have h := hlt; unfold cm200 at h; simpa using h
    have HN := Lib.hid (fun r (h : cn .f64 r = expW (fcv .f32 (cn .f32 x) .f64)) w => exp_narrow h hlt hok w)
    clear hlt hok
    go_enter Try.func38, Try.ntmps38
    go_wp2_with fail
    refine (impl_exp64 _ _).mono ?_
    rintro e w1 ⟨r, rfl, hr, hd⟩
    have HR := Lib.hid (HN.out r (by rw [hr.out, cn_wide]))
    have HD := Lib.hid hd
    clear hd hr
    go_wp2
    go_ret
    refine ⟨_, rfl, Lib.hid (HR.out _), ?_⟩
    obtain ⟨n, rfl⟩ := HD.out
    exact ((Dr.refl _).drewN _ |>.drewN _).drewN _
set_option maxRecDepth 100000 in
theorem spec_l01Exp (x : Nat) (hx : x < 4294967296) (hok : okExp x) (w : World) : Calls Try.prog 84 #[.float .f32 x] w fun e w' => ∃ r, e = .returned (.float .f32 r) ∧ Hid (cn .f32 r = expF (cn .f32 x) ∧ r < 4294967296) ∧ Dr w w' := by
  have key : ∀ r w0 w, cn .f64 r = expS (cn .f64 (cvbits .f32 x .f64 w0)) → cn .f32 (cvbits .f64 r .f32 w) = expF (cn .f32 x) ∧ cvbits .f64 r .f32 w < 4294967296 := by
    intro r w0 w h
    unfold expS at h
    rw [isN_cn, isN_wide2, order_cnl _ _ cn_c64.1, order_cnl _ _ cn_c64.2, ← c200_wide.1, ← c200_wide.2, order_wide hx fin_c200, order_wide hx fin_cm200] at h
    rw [if_neg (show ¬ FloatKind.f32.format.order x c200 = some .gt from hok.1)] at h
    by_cases hlt : FloatKind.f32.format.order x cm200 = some .lt
    · have hn : isN .f32 x = false := by
        cases h2 : isN .f32 x
        · rfl
        · rw [order_none (.inl h2)] at hlt; cases hlt
      rw [if_neg (by rw [hn]; decide), if_pos hlt] at h
      rw [expF_low hlt]
      have h0 : r = 0 := by
        have h3 : isN .f64 r = false := by rw [← isN_cn, h]; decide +kernel
        rw [cn_not h3] at h; exact h
      subst h0
      have e : cvWide .f64 0 .f32 = false := by decide +kernel
      exact ⟨by rw [cn_cvbits w e]; decide +kernel, cv_lt32 w e⟩
    · cases hn : isN .f32 x
      · rw [if_neg (by rw [hn]; decide), if_neg hlt, cn_wide] at h
        exact exp_narrow h hlt hok w
      · rw [if_pos hn] at h
        refine exp_narrow ?_ hlt hok w
        rw [h, cn_nan hn, show fcv .f32 (nanOf .f32) .f64 = nanOf .f64 by decide +kernel, expW_nan]
  have hgt : ∀ w0, FloatKind.f64.format.order (cvbits .f32 x .f64 w0) 4641240890982006784 ≠ some .gt := by
    intro w0
    rw [← c200_wide.1, order_wide hx fin_c200]; exact hok.1
  have KEY := Lib.hid key; have HG := Lib.hid hgt
  clear key hgt hok
  go_enter Try.func84, Try.ntmps84
  go_wp2_with fail
  refine (spec_l01ExpWide _ (HG.out _) _).mono ?_
  rintro e w1 ⟨r, rfl, hr, hd⟩
  have HR := Lib.hid (fun w => KEY.out r _ w hr.out)
  have HD := Lib.hid hd
  clear hd hr
  go_wp2_with fail
  refine (spec_l01Narrow _ _).mono ?_
  rintro e w2 ⟨rfl, rfl⟩
  go_wp2
  go_ret
  refine ⟨_, rfl, Lib.hid (HR.out _), ?_⟩
  obtain ⟨n, rfl⟩ := HD.out
  exact ((Dr.refl _).drewN _ |>.drewN _).drewN _
end Go.Proofs.Ytaocilimggpdjaa
