/- Plain laws of floats, continued: a 32-bit number made wider, numbers of integers. No condition. -/
import Derived.Test.YtaocilimggpdjaaFlt
namespace Go.Proofs.Ytaocilimggpdjaa
open Go Ieee
set_option linter.unusedVariables false
theorem isN_floatOfInt (k : FloatKind) (n : Int) : isN k (floatOfInt k n) = false := nearest_not k.format _ _ _
theorem cn_floatOfInt (k : FloatKind) (n : Int) : cn k (floatOfInt k n) = floatOfInt k n := cn_not (isN_floatOfInt k n)

/-- what a 32-bit number reads as -/
theorem read_single {b : Nat} {s : Bool} {m : Nat} {e : Int} (h : single.read b = .number s m e) : m < 2 ^ 24 ∧ -149 ≤ e ∧ e ≤ 104 := by
  have h1 : single.binade = 2 ^ 23 := by decide +kernel
  have h2 : single.infRung = 255 * 2 ^ 23 := by decide +kernel
  have h3 : single.leastPlace = -149 := by decide +kernel
  unfold Format.read at h
  simp only at h
  split at h
  · rename_i hlt
    cases h
    rw [h1] at hlt; rw [h3]
    omega
  · split at h
    · rename_i hlt
      cases h
      rw [h1] at *; rw [h2] at hlt; rw [h3]
      have := Nat.mod_lt (b % single.signWeight) (show 0 < 2 ^ 23 by omega)
      have hq : b % single.signWeight / 2 ^ 23 < 255 := by rw [Nat.div_lt_iff_lt_mul (by omega)]; exact hlt
      omega
    · split at h <;> cases h

theorem cut_zero (way : Toward) (neg : Bool) (n : Nat) : way.cut neg n 0 = n := by
  unfold Toward.cut
  simp only [Nat.zero_min, Nat.shiftLeft_zero, Nat.div_one, Nat.mod_one]
  cases way <;> simp

/-- a number of few digits within the wider kind's range is written as it is -/
theorem nearest_double {neg : Bool} {m : Nat} {e : Int} (hm : m ≠ 0) (h24 : m < 2 ^ 24) (h1 : -149 ≤ e) (h2 : e ≤ 104) :
    double.nearest neg m e = double.word neg ((e + m.log2 - 52 + 1074).toNat * 2 ^ 52 + m * 2 ^ (52 - m.log2)) ∧ (e + m.log2 - 52 + 1074).toNat * 2 ^ 52 + m * 2 ^ (52 - m.log2) < double.infRung := by
  have hl : m.log2 ≤ 23 := by have := (Nat.log2_lt hm (k := 24)).2 h24; omega
  have b1 : double.binade = 2 ^ 52 := by decide +kernel
  have b2 : double.infRung = 2047 * 2 ^ 52 := by decide +kernel
  have b3 : double.leastPlace = -1074 := by decide +kernel
  have b4 : double.fractionBits = 52 := rfl
  have hlast : max (e + m.log2 - (double.fractionBits : Nat)) double.leastPlace = e + m.log2 - 52 := by rw [b4, b3]; omega
  have hk : m * 2 ^ (52 - m.log2) < 2 ^ 53 := by
    have h := Nat.lt_log2_self (n := m)
    have : m * 2 ^ (52 - m.log2) < 2 ^ (m.log2 + 1) * 2 ^ (52 - m.log2) := Nat.mul_lt_mul_of_pos_right h (Nat.two_pow_pos _)
    rw [← Nat.pow_add] at this
    rwa [show m.log2 + 1 + (52 - m.log2) = 53 by omega] at this
  have hrung : (e + m.log2 - 52 + 1074).toNat * 2 ^ 52 + m * 2 ^ (52 - m.log2) < double.infRung := by
    rw [b2]
    have : (e + m.log2 - 52 + 1074).toNat ≤ 1149 := by omega
    have := Nat.mul_le_mul_right (2 ^ 52) this
    omega
  refine ⟨?_, hrung⟩
  unfold Format.nearest
  rw [if_neg hm]
  simp only [hlast]
  rw [show (e + (m.log2 : Int) - 52 - e).toNat = 0 by omega, show (e - (e + (m.log2 : Int) - 52)).toNat = 52 - m.log2 by omega, cut_zero, Nat.shiftLeft_eq, b1, b3]
  rw [show e + (m.log2 : Int) - 52 - -1074 = e + m.log2 - 52 + 1074 by omega, Nat.min_eq_left (Nat.le_of_lt hrung)]

theorem not_inf_of_lt (f : Format) (neg : Bool) {r : Nat} (h : r < f.infRung) : (f.read (f.word neg r)).isInfinity = false := by
  rw [read_word f neg (Nat.lt_trans h f.infRung_lt)]
  split <;> rfl

/-- a 32-bit number is never too great for 64 bits -/
theorem wide_ok (b : Nat) : cvWide .f32 b .f64 = false := by
  unfold cvWide
  rw [if_neg (by decide)]
  split
  · rename_i s m e h
    obtain ⟨h1, h2, h3⟩ := read_single h
    show (double.read (double.nearest s m e)).isInfinity = false
    by_cases hm : m = 0
    · subst hm
      unfold Format.nearest
      rw [if_pos rfl]
      exact not_inf_of_lt _ _ (by decide +kernel)
    · obtain ⟨e1, e2⟩ := nearest_double (neg := s) hm h1 h2 h3
      rw [e1]
      exact not_inf_of_lt _ _ e2
  · rfl
theorem cn_wide (b : Nat) (w : World) : cn .f64 (cvbits .f32 b .f64 w) = fcv .f32 (cn .f32 b) .f64 := cn_cvbits w (wide_ok b)

/-- 1 divided by what is a number -/
theorem one_over {a : Nat} (h : isN .f64 a = false) : ∃ r, floatBits .quo .f64 4607182418800017408 a = some r := by
  show ∃ r, ((double.read 4607182418800017408).quotient (double.fractionBits + 2) (double.read a)).map double.write = some r
  have e1 : double.read 4607182418800017408 = .number false 4503599627370496 (-52) := by decide +kernel
  rw [e1]
  unfold isN at h
  have h' : (double.read a).isNaN = false := h
  cases hd : double.read a with
  | nan s t => rw [hd] at h'; cases h'
  | infinity s => exact ⟨_, rfl⟩
  | number s m p =>
    by_cases hm : m = 0
    · subst hm; exact ⟨_, by simp [Datum.quotient]; rfl⟩
    · refine ⟨_, by simp only [Datum.quotient, if_neg hm]; rfl⟩
theorem fbits_some {op : BinOp} {k : FloatKind} {x y r : Nat} (h : floatBits op k x y = some r) (w : World) : fbits op k x y w = r := by simp [fbits, h]
theorem fdr_some {op : BinOp} {k : FloatKind} {x y r : Nat} (h : floatBits op k x y = some r) : fdr op k x y = 0 := by simp [fdr, h]
theorem isN_of_cn {k : FloatKind} {a b : Nat} (h : cn k a = cn k b) : isN k a = isN k b := by rw [← isN_cn k a, h, isN_cn]
theorem eq_of_cn {k : FloatKind} {a b : Nat} (h : cn k a = cn k b) (ha : isN k a = false) : a = b := by
  have hb : isN k b = false := by rw [← isN_of_cn h]; exact ha
  rwa [cn_not ha, cn_not hb] at h
end Go.Proofs.Ytaocilimggpdjaa
