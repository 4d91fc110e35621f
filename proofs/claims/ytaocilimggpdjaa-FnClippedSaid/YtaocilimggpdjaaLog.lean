/- What the logarithms of both sides compute. No condition. -/
import Derived.Test.YtaocilimggpdjaaEx2
namespace Go.Proofs.Ytaocilimggpdjaa
open Go Go.RowKit Ieee
set_option linter.unusedVariables false
set_option linter.unusedSimpArgs false
def B64 : Nat := 4503599627370496
def T64 : Nat := 4611686018427387904
def W15 : Nat := 4609434218613702656
def W75 : Nat := 4604930618986332160
theorem nval_down {r : Nat} (h : 2 * B64 ≤ r) : nval double r = 2 * nval double (r - B64) := by
  have hb : double.binade = B64 := by decide +kernel
  have hp : 0 < B64 := by decide
  unfold nval
  rw [hb, if_neg (by omega), if_neg (by omega)]
  have e1 : (r - B64) % B64 = r % B64 := by
    have := Nat.sub_mul_mod (x := r) (n := B64) (k := 1) (by omega)
    rwa [Nat.mul_one] at this
  have e2 : (r - B64) / B64 = r / B64 - 1 := by
    obtain ⟨q, hq⟩ : ∃ q, r = q + B64 := ⟨r - B64, by omega⟩
    rw [hq, Nat.add_sub_cancel, Nat.add_div_right _ hp]
    rfl
  have e3 : 2 ≤ r / B64 := (Nat.le_div_iff_mul_le hp).2 h
  rw [e1, e2]
  obtain ⟨q, hq⟩ : ∃ q, r / B64 = q + 2 := ⟨r / B64 - 2, by omega⟩
  rw [hq, show q + 2 - 1 = q + 1 by omega, show q + 1 - 1 = q by omega, Nat.pow_succ, ← Nat.mul_assoc, Nat.mul_comm 2]
theorem val_pos_word {r : Nat} (hr : r < double.infRung) : val double r = (nval double r : Rat) * (2 : Rat) ^ double.leastPlace := by
  have h := val_word double false hr
  have e : double.word false r = r := rfl
  rw [e] at h
  rw [h]; unfold sg; simp
theorem fin_pos {r : Nat} (hr : r < double.infRung) : Fin double r := ⟨false, r, rfl, hr⟩
theorem two64 : Fin double T64 ∧ val double T64 = 2 := ⟨⟨false, T64, rfl, by rw [d_ir]; decide⟩, by unfold val; decide +kernel⟩
theorem nval_pos {r : Nat} (h : 0 < r) : 0 < nval double r := by
  have := nval_lt (f := double) h
  rw [nval_zero] at this
  exact this
theorem val_down {r : Nat} (h : 2 * B64 ≤ r) (hr : r < double.infRung) : val double r = 2 * val double (r - B64) := by
  have hB : 0 < B64 := by decide
  rw [val_pos_word hr, val_pos_word (by omega), nval_down h, Rat.natCast_mul]
  have : ((2 : Nat) : Rat) = 2 := rfl
  rw [this]; grind
theorem val_ne {r : Nat} (h : 0 < r) (hr : r < double.infRung) : val double r ≠ 0 := by
  rw [val_pos_word hr]
  have h1 : (0 : Rat) < nval double r := by have := nat_rat_lt (nval_pos h); simpa using this
  have h2 := pw_pos double.leastPlace
  have := Rat.mul_pos h1 h2
  grind
/-- half of a number -/
theorem half_word {y : Nat} (h : 2 * B64 ≤ y) (hr : y < double.infRung) : floatBits .quo .f64 y T64 = some (y - B64) := by
  have hB : B64 = 4503599627370496 := rfl
  obtain ⟨r, e1, n1⟩ := quo_nearW (k := .f64) (fin_pos hr) two64.1 (by rw [show val FloatKind.f64.format T64 = 2 from two64.2]; decide +kernel)
  rw [e1]
  have e2 : val FloatKind.f64.format y / val FloatKind.f64.format T64 = val double (y - B64) := by
    show val double y / val double T64 = _
    rw [two64.2, val_down h hr]; grind
  rw [e2] at n1
  rw [Near.exact (f := double) (fin_pos (by omega : y - B64 < double.infRung)) rfl (val_ne (by omega) (by omega)) n1]
/-- the double of a number -/
theorem twice_word {y : Nat} (h : B64 ≤ y) (hr : y + B64 < double.infRung) : floatBits .mul .f64 y T64 = some (y + B64) := by
  have hB : B64 = 4503599627370496 := rfl
  obtain ⟨r, e1, n1⟩ := mul_near (k := .f64) (fin_pos (by omega : y < double.infRung)) two64.1
  rw [e1]
  have e2 : val FloatKind.f64.format y * val FloatKind.f64.format T64 = val double (y + B64) := by
    show val double y * val double T64 = _
    rw [two64.2, val_down (r := y + B64) (by omega) hr, Nat.add_sub_cancel]; grind
  rw [e2] at n1
  rw [Near.exact (f := double) (fin_pos hr) rfl (val_ne (by omega) hr) n1]
theorem order64_ge {y c : Nat} (hy : y < double.infRung) (hc : c < double.infRung) (h : c ≤ y) : FloatKind.f64.format.order y c = some .gt ∨ FloatKind.f64.format.order y c = some .eq := by
  have e : FloatKind.f64.format.order y c = some (compare y c) := order_pos double hy hc
  rw [e]
  rcases Nat.lt_or_eq_of_le h with h1 | h1
  · left; rw [Nat.compare_eq_gt.2 h1]
  · right; rw [Nat.compare_eq_eq.2 h1.symm]
theorem order64_lt {y c : Nat} (hy : y < double.infRung) (hc : c < double.infRung) (h : y < c) : FloatKind.f64.format.order y c = some .lt := by
  have e : FloatKind.f64.format.order y c = some (compare y c) := order_pos double hy hc
  rw [e, Nat.compare_eq_lt.2 h]
def logK1 (y : Nat) : Nat := if y < W15 then 0 else (y - W15) / B64 + 1
def logK2 (y : Nat) : Nat := if y < W75 then (W75 - 1 - y) / B64 + 1 else 0
def kL (j : Nat) : Nat := floatOfInt .f64 (25 - 2 * (j : Int))
def logQ (u : Nat) : Nat → Nat
  | 0 => 0
  | j + 1 => fop .add .f64 (fop .quo .f64 O64 (kL j)) (fop .mul .f64 u (logQ u j))
def logT (y : Nat) (e : Int) : Nat :=
  let s := fop .quo .f64 (fop .sub .f64 y O64) (fop .add .f64 y O64)
  fop .add .f64 (fop .mul .f64 T64 (fop .mul .f64 s (logQ (fop .mul .f64 s s) 13))) (fop .mul .f64 (floatOfInt .f64 e) 4604418534313441775)
/-- the logarithm in 64 bits -/
def logW (y : Nat) : Nat := logT (y - logK1 y * B64 + logK2 (y - logK1 y * B64) * B64) ((logK1 y : Int) - logK2 (y - logK1 y * B64))
theorem K1_unique {y k : Nat} (h1 : y - k * B64 < W15) (h2 : k = 0 ∨ (k - 1) * B64 + W15 ≤ y) : logK1 y = k := by
  have hB : B64 = 4503599627370496 := rfl
  have hW : W15 = 4609434218613702656 := rfl
  unfold logK1
  split
  · rename_i h
    rcases h2 with h2 | h2
    · exact h2.symm
    · exfalso; omega
  · rename_i h
    rcases h2 with h2 | h2
    · subst h2; exfalso; omega
    · have hk : k ≠ 0 := by intro e; subst e; omega
      have : (y - W15) / B64 = k - 1 := by
        apply Nat.div_eq_of_lt_le
        · omega
        · rw [show (k - 1 + 1) = k by omega]; omega
      omega
theorem K2_unique {y k : Nat} (h1 : W75 ≤ y + k * B64) (h2 : k = 0 ∨ y + (k - 1) * B64 < W75) : logK2 y = k := by
  have hB : B64 = 4503599627370496 := rfl
  have hW : W75 = 4604930618986332160 := rfl
  unfold logK2
  split
  · rename_i h
    rcases h2 with h2 | h2
    · subst h2; exfalso; omega
    · have hk : k ≠ 0 := by intro e; subst e; omega
      have : (W75 - 1 - y) / B64 = k - 1 := by
        apply Nat.div_eq_of_lt_le
        · omega
        · rw [show (k - 1 + 1) = k by omega]; omega
      omega
  · rename_i h
    rcases h2 with h2 | h2
    · exact h2.symm
    · exfalso; omega
theorem e_up : ∀ j : Nat, j < 200 → floatBits .add .f64 (floatOfInt .f64 (j : Int)) O64 = some (floatOfInt .f64 ((j + 1 : Nat) : Int)) := by decide +kernel
theorem e_down : ∀ j : Nat, j < 400 → floatBits .sub .f64 (floatOfInt .f64 ((j : Int) - 200 + 1)) O64 = some (floatOfInt .f64 ((j : Int) - 200)) := by decide +kernel
theorem kL_facts : ∀ j, j < 13 → (floatBits .sub .f64 (kL j) T64 = some (kL (j + 1)) ∧ (FloatKind.f64.format.order (kL j) O64 = some .gt ∨ FloatKind.f64.format.order (kL j) O64 = some .eq)) := by decide +kernel
theorem kL_end : FloatKind.f64.format.order (kL 13) O64 = some .lt := by decide +kernel
theorem kL_zero : kL 0 = 4627730092099895296 := by decide +kernel
theorem cn_T64 : cn .f64 T64 = T64 := by decide +kernel
theorem cn_L2 : cn .f64 4604418534313441775 = 4604418534313441775 := by decide +kernel
theorem cn_logq {a u k j : Nat} (U : Nat) (hk : k = kL j) (ha : cn .f64 a = logQ U j) (hu : cn .f64 u = U) (w1 w2 w3 : World) : cn .f64 (fbits .add .f64 (fbits .quo .f64 4607182418800017408 k w1) (fbits .mul .f64 u a w2) w3) = logQ U (j + 1) := by
  rw [cn_fbits, cn_fbits, cn_fbits, ha, hu, hk, show cn .f64 (kL j) = kL j from cn_floatOfInt _ _]
  show fop .add .f64 (fop .quo .f64 (cn .f64 O64) _) _ = _
  rw [cn_O64]; rfl
/-- the last line -/
theorem cn_logt {y s q : Nat} {e : Int} (hy : cn .f64 y = y) (hs : cn .f64 s = fop .quo .f64 (fop .sub .f64 y O64) (fop .add .f64 y O64)) (hq : cn .f64 q = logQ (fop .mul .f64 (cn .f64 s) (cn .f64 s)) 13) (w1 w2 w3 w4 : World) :
    cn .f64 (fbits .add .f64 (fbits .mul .f64 4611686018427387904 (fbits .mul .f64 s q w1) w2) (fbits .mul .f64 (floatOfInt .f64 e) 4604418534313441775 w3) w4) = logT y e := by
  rw [cn_fbits, cn_fbits, cn_fbits, cn_fbits, hq, hs, cn_L2, cn_floatOfInt]
  show fop .add .f64 (fop .mul .f64 (cn .f64 T64) _) _ = _
  rw [cn_T64]; rfl
end Go.Proofs.Ytaocilimggpdjaa
