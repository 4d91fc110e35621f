/- Bounds of the exponential function of numbers that are not positive, and of the logarithm. No condition. -/
import Derived.Test.YtaocilimggpdjaaBtw
import Derived.Test.YtaocilimggpdjaaLo2
namespace Go.Proofs.Ytaocilimggpdjaa
open Go Ieee
set_option linter.unusedVariables false
theorem smallI_of {n : Int} (h1 : -1000000 ≤ n) (h2 : n ≤ 1000000) : smallI n := by unfold smallI; omega
theorem div_btw {n K c d : Rat} (hK : 1 ≤ K) (h1 : -c ≤ n) (h2 : n ≤ d) (hc : 0 ≤ c) (hd : 0 ≤ d) : -c ≤ n / K ∧ n / K ≤ d := by
  have hK0 : K ≠ 0 := by grind
  have hz : n / K * K = n := Rat.div_mul_cancel hK0
  obtain ⟨z, hzz⟩ : ∃ z, z = n / K := ⟨_, rfl⟩
  rw [← hzz] at hz ⊢
  constructor
  · rcases rat_tri z (-c) with h | h | h
    · exfalso
      have h3 : (0 : Rat) ≤ -z := by grind
      have h4 := Rat.mul_le_mul_of_nonneg_left hK h3
      grind
    · grind
    · grind
  · rcases rat_tri z d with h | h | h
    · grind
    · grind
    · exfalso
      have h3 : (0 : Rat) ≤ z := by grind
      have h4 := Rat.mul_le_mul_of_nonneg_left hK h3
      grind
theorem O64_btw : Btw .f64 1 1 O64 := by
  have h := Btw.int (k := .f64) (n := 1) (smallI_of (by decide) (by decide))
  have e : floatOfInt .f64 1 = O64 := by decide +kernel
  rwa [e] at h
theorem T64_btw : Btw .f64 2 2 T64 := by
  have h := Btw.int (k := .f64) (n := 2) (smallI_of (by decide) (by decide))
  have e : floatOfInt .f64 2 = T64 := by decide +kernel
  rwa [e] at h
theorem c256_btw : Btw .f64 256 256 4643211215818981376 := by
  have h := Btw.int (k := .f64) (n := 256) (smallI_of (by decide) (by decide))
  have e : floatOfInt .f64 256 = 4643211215818981376 := by decide +kernel
  rwa [e] at h
theorem kW_btw {j : Nat} (h : j < 12) : Btw .f64 ((12 - j : Nat) : Int) ((12 - j : Nat) : Int) (kW j) := Btw.int (smallI_of (by omega) (by omega))
/-- a quotient whose divisor is at least 1 -/
theorem Btw.quo1 {k : FloatKind} {c d p q : Int} {x y : Nat} (hx : Btw k (-c) d x) (hy : Btw k p q y) (hp : 1 ≤ p) (hc : 0 ≤ c) (hd : 0 ≤ d) (h1 : smallI c) (h2 : smallI d) : Btw k (-c) d (fop .quo k x y) := by
  have c0 : (0 : Rat) ≤ (c : Rat) := by exact_mod_cast hc
  have d0 : (0 : Rat) ≤ (d : Rat) := by exact_mod_cast hd
  have p1 : (1 : Rat) ≤ (p : Rat) := by exact_mod_cast hp
  have hK : (1 : Rat) ≤ val k.format y := Rat.le_trans p1 hy.lo
  have l := hx.lo
  rw [Rat.intCast_neg] at l
  have hm := div_btw hK l hx.hi c0 d0
  exact Btw.quoq hx.fin hy.fin (by grind) (by unfold smallI at *; omega) h2 (by rw [Rat.intCast_neg]; exact hm.1) hm.2
theorem neg_mul_btw {p q : Rat} (h1 : -1 ≤ p) (h2 : p ≤ 0) (h3 : 0 ≤ q) (h4 : q ≤ 1) : -1 ≤ p * q ∧ p * q ≤ 0 := by
  have a := Rat.mul_le_mul_of_nonneg_left h4 (show (0 : Rat) ≤ -p by grind)
  have b := Rat.mul_nonneg (show (0 : Rat) ≤ -p by grind) h3
  constructor <;> grind
theorem unit_mul_btw {p q : Rat} (h1 : 0 ≤ p) (h2 : p ≤ 1) (h3 : 0 ≤ q) (h4 : q ≤ 1) : 0 ≤ p * q ∧ p * q ≤ 1 := by
  have a := Rat.mul_le_mul_of_nonneg_left h4 h1
  have b := Rat.mul_nonneg h1 h3
  constructor <;> grind
theorem horn_btw {t : Nat} (ht : Btw .f64 (-1) 0 t) : ∀ j, j ≤ 12 → Btw .f64 0 1 (hornE t j)
  | 0, _ => O64_btw.mono (by decide) (by decide)
  | j + 1, h => by
    have ih := horn_btw ht j (by omega)
    have l1 := ht.lo; have l2 := ht.hi; have l3 := ih.lo; have l4 := ih.hi
    have hm := neg_mul_btw (by simpa using l1) (by simpa using l2) (by simpa using l3) (by simpa using l4)
    have m : Btw .f64 (-1) 0 (fop .mul .f64 t (hornE t j)) := Btw.mulq ht.fin ih.fin (smallI_of (by decide) (by decide)) (smallI_of (by decide) (by decide)) (by simpa using hm.1) (by simpa using hm.2)
    have q : Btw .f64 (-1) 0 (fop .quo .f64 (fop .mul .f64 t (hornE t j)) (kW j)) := Btw.quo1 m (kW_btw (by omega)) (by omega) (by decide) (by decide) (smallI_of (by decide) (by decide)) (smallI_of (by decide) (by decide))
    have a := Btw.add O64_btw q (smallI_of (by decide) (by decide)) (smallI_of (by decide) (by decide))
    exact a
theorem sq_btw {p : Nat} (hp : Btw .f64 0 1 p) : ∀ j, Btw .f64 0 1 (sqE p j)
  | 0 => hp
  | j + 1 => by
    have ih := sq_btw hp j
    have l3 := ih.lo; have l4 := ih.hi
    have hm := unit_mul_btw (by simpa using l3) (by simpa using l4) (by simpa using l3) (by simpa using l4)
    exact Btw.mulq ih.fin ih.fin (smallI_of (by decide) (by decide)) (smallI_of (by decide) (by decide)) (by simpa using hm.1) (by simpa using hm.2)
/-- the exponential function of a number from -200 to 0 -/
theorem exp_btw {x : Nat} (hx : Btw .f64 (-200) 0 x) : Btw .f64 0 1 (expW x) := by
  unfold expW
  refine sq_btw (horn_btw ?_ 12 (by decide)) 8
  have l1 := hx.lo; have l2 := hx.hi
  have l1' : (-200 : Rat) ≤ val double x := by have h : (-200 : Rat) ≤ val FloatKind.f64.format x := by { simpa using l1 }
                                               exact h
  have l2' : val double x ≤ 0 := by have h : val FloatKind.f64.format x ≤ 0 := by { simpa using l2 }
                                    exact h
  have c1 : val double 4643211215818981376 = 256 := by
    have h1 := c256_btw.lo; have h2 := c256_btw.hi
    have h1' : (256 : Rat) ≤ val double 4643211215818981376 := h1
    have h2' : val double 4643211215818981376 ≤ 256 := h2
    grind
  refine Btw.quoq hx.fin c256_btw.fin ?_ (smallI_of (by decide) (by decide)) (smallI_of (by decide) (by decide)) ?_ ?_
  · show val double _ ≠ 0
    rw [c1]; decide +kernel
  · show ((-1 : Int) : Rat) ≤ val double x / val double _
    rw [c1]
    have hz : val double x / 256 * 256 = val double x := Rat.div_mul_cancel (by decide +kernel)
    have : ((-1 : Int) : Rat) = -1 := rfl
    rw [this]; grind
  · show val double x / val double _ ≤ ((0 : Int) : Rat)
    rw [c1]
    have hz : val double x / 256 * 256 = val double x := Rat.div_mul_cancel (by decide +kernel)
    have : ((0 : Int) : Rat) = 0 := rfl
    rw [this]; grind
theorem kL_btw {j : Nat} (h : j < 13) : Btw .f64 (25 - 2 * (j : Int)) (25 - 2 * (j : Int)) (kL j) := Btw.int (smallI_of (by omega) (by omega))
theorem logQ_btw {u : Nat} (hu : Btw .f64 (-1) 1 u) : ∀ j : Nat, j ≤ 13 → Btw .f64 (-(j : Int)) j (logQ u j)
  | 0, _ => by
    have h := Btw.int (k := .f64) (n := 0) (smallI_of (by decide) (by decide))
    have e : floatOfInt .f64 0 = 0 := by decide +kernel
    rw [e] at h
    exact h
  | j + 1, h => by
    have ih := logQ_btw hu j (by omega)
    have a : Btw .f64 (-1) 1 (fop .quo .f64 O64 (kL j)) := Btw.quo1 (O64_btw.mono (by decide) (by decide)) (kL_btw (by omega)) (by omega) (by decide) (by decide) (smallI_of (by decide) (by decide)) (smallI_of (by decide) (by decide))
    have b := Btw.mul hu ih (by decide) (by omega) (smallI_of (by omega) (by omega))
    have c := Btw.add a b (smallI_of (by omega) (by omega)) (smallI_of (by omega) (by omega))
    exact c.mono (by omega) (by omega)
theorem log2_btw : Btw .f64 (-1) 1 4604418534313441775 := by
  have hf : Fin double 4604418534313441775 := fin_pos (by rw [d_ir]; decide)
  have ho : val double 4604418534313441775 ≤ 1 := by
    have h1 := O64_btw.hi
    have h2 : val double O64 ≤ 1 := h1
    have h3 : val double 4604418534313441775 ≤ val double O64 := by
      rw [val_pos_word (by rw [d_ir]; decide), val_pos_word (r := O64) (by rw [d_ir]; decide)]
      exact Rat.mul_le_mul_of_nonneg_right (nat_rat_le (nval_le (by decide))) (Rat.le_of_lt (pw_pos _))
    grind
  have h0 : 0 ≤ val double 4604418534313441775 := by
    rw [val_pos_word (by rw [d_ir]; decide)]
    exact Rat.mul_nonneg Rat.natCast_nonneg (Rat.le_of_lt (pw_pos _))
  refine ⟨hf, ?_, ?_⟩
  · show ((-1 : Int) : Rat) ≤ val double _
    have : ((-1 : Int) : Rat) = -1 := rfl
    rw [this]; grind
  · show val double _ ≤ ((1 : Int) : Rat)
    have : ((1 : Int) : Rat) = 1 := rfl
    rw [this]; exact ho
theorem logT_btw {y : Nat} {e : Int} (hy : Btw .f64 0 2 y) (he : -200 ≤ e ∧ e ≤ 200) : Btw .f64 (-226) 226 (logT y e) := by
  have n : Btw .f64 (-1) 1 (fop .sub .f64 y O64) := Btw.sub hy O64_btw (smallI_of (by decide) (by decide)) (smallI_of (by decide) (by decide))
  have d : Btw .f64 1 3 (fop .add .f64 y O64) := Btw.add hy O64_btw (smallI_of (by decide) (by decide)) (smallI_of (by decide) (by decide))
  have s : Btw .f64 (-1) 1 (fop .quo .f64 (fop .sub .f64 y O64) (fop .add .f64 y O64)) := Btw.quo1 n d (by decide) (by decide) (by decide) (smallI_of (by decide) (by decide)) (smallI_of (by decide) (by decide))
  have u : Btw .f64 (-1) 1 (fop .mul .f64 (fop .quo .f64 (fop .sub .f64 y O64) (fop .add .f64 y O64)) (fop .quo .f64 (fop .sub .f64 y O64) (fop .add .f64 y O64))) := Btw.mul s s (by decide) (by decide) (smallI_of (by decide) (by decide))
  have q := logQ_btw u 13 (by decide)
  have a : Btw .f64 (-13) 13 _ := Btw.mul s q (by decide) (by decide) (smallI_of (by decide) (by decide))
  have b : Btw .f64 (-26) 26 _ := Btw.mul (c := 2) (T64_btw.mono (by decide) (by decide)) a (by decide) (by decide) (smallI_of (by decide) (by decide))
  have c : Btw .f64 (-200) 200 (floatOfInt .f64 e) := (Btw.int (smallI_of (by omega) (by omega))).mono (by omega) (by omega)
  have f : Btw .f64 (-200) 200 _ := Btw.mul c log2_btw (by decide) (by decide) (smallI_of (by decide) (by decide))
  exact Btw.add b f (smallI_of (by decide) (by decide)) (smallI_of (by decide) (by decide))
theorem word_btw {y : Nat} (h : y ≤ T64) : Btw .f64 0 2 y := by
  have hr : y < double.infRung := by have : T64 < double.infRung := by { rw [d_ir]; decide }
                                     omega
  refine ⟨fin_pos hr, ?_, ?_⟩
  · show ((0 : Int) : Rat) ≤ val double y
    have : ((0 : Int) : Rat) = 0 := rfl
    rw [this, val_pos_word hr]
    exact Rat.mul_nonneg Rat.natCast_nonneg (Rat.le_of_lt (pw_pos _))
  · have h1 := T64_btw.hi
    refine Rat.le_trans ?_ h1
    show val double y ≤ val double T64
    rw [val_pos_word hr, val_pos_word (r := T64) (by rw [d_ir]; decide)]
    exact Rat.mul_le_mul_of_nonneg_right (nat_rat_le (nval_le h)) (Rat.le_of_lt (pw_pos _))
theorem K_bounds {y : Nat} (h1 : 874 * B64 ≤ y) (h2 : y < 1152 * B64) : logK1 y ≤ 150 ∧ logK2 (y - logK1 y * B64) ≤ 160 ∧ y - logK1 y * B64 + logK2 (y - logK1 y * B64) * B64 ≤ T64 := by
  have hB : B64 = 4503599627370496 := rfl
  have hW : W15 = 4609434218613702656 := rfl
  have hV : W75 = 4604930618986332160 := rfl
  have hT : T64 = 4611686018427387904 := rfl
  have k1 : logK1 y ≤ 150 ∧ y - logK1 y * B64 < W15 ∧ (logK1 y = 0 ∨ 874 * B64 ≤ y - logK1 y * B64) := by
    unfold logK1
    simp only [hB, hW] at *
    split
    · omega
    · have := Nat.div_add_mod (y - 4609434218613702656) 4503599627370496
      have := Nat.mod_lt (y - 4609434218613702656) (show 4503599627370496 > 0 by decide)
      omega
  obtain ⟨z, hz⟩ : ∃ z, z = y - logK1 y * B64 := ⟨_, rfl⟩
  rw [← hz] at k1 ⊢
  have hz2 : 874 * B64 ≤ z := by
    rcases k1.2.2 with h | h
    · rw [hz, h]; simpa using h1
    · exact h
  refine ⟨k1.1, ?_⟩
  have k2 := k1.2.1
  unfold logK2
  simp only [hB, hW, hV, hT] at *
  split
  · have := Nat.div_add_mod (4604930618986332160 - 1 - z) 4503599627370496
    have := Nat.mod_lt (4604930618986332160 - 1 - z) (show 4503599627370496 > 0 by decide)
    omega
  · omega
/-- the logarithm of a number is small -/
theorem logW_btw {y : Nat} (h1 : 874 * B64 ≤ y) (h2 : y < 1152 * B64) : Btw .f64 (-226) 226 (logW y) := by
  obtain ⟨b1, b2, b3⟩ := K_bounds h1 h2
  unfold logW
  exact logT_btw (word_btw b3) (by omega)
end Go.Proofs.Ytaocilimggpdjaa
