/- Plain laws of floats, continued: a number made wider and narrower again, and absolute values. No condition. -/
import Derived.Test.YtaocilimggpdjaaFl4
namespace Go.Proofs.Ytaocilimggpdjaa
open Go Ieee
set_option linter.unusedVariables false
set_option linter.unusedSimpArgs false
theorem s_lp : single.leastPlace = -149 := by decide +kernel
theorem d_lp : double.leastPlace = -1074 := by decide +kernel
theorem s_sw : single.signWeight = 2147483648 := by decide +kernel
theorem d_sw : double.signWeight = 9223372036854775808 := by decide +kernel
theorem s_ir : single.infRung = 2139095040 := by decide +kernel
theorem d_ir : double.infRung = 9218868437227405312 := by decide +kernel
theorem d_bin : double.binade = 2 ^ 52 := by decide +kernel
theorem cv_num {k k2 : FloatKind} {b : Nat} {s : Bool} {m : Nat} {e : Int} (hd : k.decode b = .number s m e) (hne : k ≠ k2) (hi : cvWide k b k2 = false) (w : World) : cvbits k b k2 w = k2.format.nearest s m e := by
  unfold cvWide at hi
  rw [if_neg hne, hd] at hi
  simp only at hi
  unfold cvbits
  rw [if_neg hne, hd]
  simp only
  rw [hi]
  rfl
/-- a wide rung with the same value as a narrow one -/
theorem wide_rung {m : Nat} {e : Int} (hm : m ≠ 0) (h24 : m < 2 ^ 24) (h1 : -149 ≤ e) (h2 : e ≤ 104) :
    ∃ q, (∀ s, double.nearest s m e = double.word s q) ∧ q < double.infRung ∧ nval double q = m * 2 ^ (e + 1074).toNat := by
  refine ⟨(e + m.log2 - 52 + 1074).toNat * 2 ^ 52 + m * 2 ^ (52 - m.log2), fun s => (nearest_double hm h24 h1 h2).1, (nearest_double (neg := false) hm h24 h1 h2).2, ?_⟩
  have hl : m.log2 ≤ 23 := by have := (Nat.log2_lt hm (k := 24)).2 h24; omega
  have k1 : 2 ^ 52 ≤ m * 2 ^ (52 - m.log2) := by
    have := Nat.mul_le_mul_right (2 ^ (52 - m.log2)) (Nat.log2_self_le hm)
    rwa [← Nat.pow_add, show m.log2 + (52 - m.log2) = 52 by omega] at this
  have k2 : m * 2 ^ (52 - m.log2) < 2 ^ 53 := by
    have h := Nat.lt_log2_self (n := m)
    have : m * 2 ^ (52 - m.log2) < 2 ^ (m.log2 + 1) * 2 ^ (52 - m.log2) := Nat.mul_lt_mul_of_pos_right h (Nat.two_pow_pos _)
    rw [← Nat.pow_add] at this
    rwa [show m.log2 + 1 + (52 - m.log2) = 53 by omega] at this
  obtain ⟨K, hK⟩ : ∃ K, K = m * 2 ^ (52 - m.log2) := ⟨_, rfl⟩
  obtain ⟨E, hE⟩ : ∃ E, E = (e + m.log2 - 52 + 1074).toNat := ⟨_, rfl⟩
  rw [← hK, ← hE]
  rw [← hK] at k1 k2
  unfold nval
  rw [d_bin, if_neg (by omega)]
  have e1 : (E * 2 ^ 52 + K) / 2 ^ 52 = E + 1 := by omega
  have e2 : (E * 2 ^ 52 + K) % 2 ^ 52 = K - 2 ^ 52 := by omega
  rw [e1, e2, show 2 ^ 52 + (K - 2 ^ 52) = K by omega, show E + 1 - 1 = E by omega, hK, Nat.mul_assoc, ← Nat.pow_add]
  congr 2
  omega
set_option exponentiation.threshold 2000 in
theorem wide_fin (s : Bool) {r : Nat} (hr : r < single.infRung) : ∃ q, q < double.infRung ∧ (∀ w, cvbits .f32 (single.word s r) .f64 w = double.word s q) ∧ nval double q = nval single r * 2 ^ 925 := by
  obtain ⟨m, p, e1, hp, e3⟩ := read_fin single s hr
  rw [s_lp] at hp e3
  have hb := read_single e1
  rw [Nat.shiftLeft_eq] at e3
  by_cases hm : m = 0
  · subst hm
    refine ⟨0, by rw [d_ir]; omega, fun w => ?_, ?_⟩
    · rw [cv_num (k := .f32) (k2 := .f64) e1 (by decide) (wide_ok _) w]
      show double.nearest s 0 p = _
      unfold Format.nearest
      rw [if_pos rfl]
    · rw [nval_zero, ← e3]; simp
  · obtain ⟨q, hq1, hq2, hq3⟩ := wide_rung hm hb.1 hb.2.1 hb.2.2
    refine ⟨q, hq2, fun w => ?_, ?_⟩
    · rw [cv_num (k := .f32) (k2 := .f64) e1 (by decide) (wide_ok _) w]
      exact hq1 s
    · rw [hq3, ← e3, Nat.mul_assoc, ← Nat.pow_add]
      congr 2
      omega
set_option exponentiation.threshold 2000 in
theorem narrow_fin (s : Bool) {r q : Nat} (hr : r < single.infRung) (hq : q < double.infRung) (hv : nval double q = nval single r * 2 ^ 925) (w : World) : cvbits .f64 (double.word s q) .f32 w = single.word s r ∧ cvWide .f64 (double.word s q) .f32 = false := by
  obtain ⟨m, p, e1, hp, e3⟩ := read_fin double s hq
  rw [d_lp] at hp e3
  rw [Nat.shiftLeft_eq, hv] at e3
  have hn : single.nearest s m p = single.word s r := nearest_val single s hr e3 (by rw [s_lp]; omega)
  have hw : cvWide .f64 (double.word s q) .f32 = false := by
    unfold cvWide
    rw [if_neg (by decide), show FloatKind.f64.decode (double.word s q) = _ from e1]
    show (single.read (single.nearest s m p)).isInfinity = false
    rw [hn]
    exact not_inf_of_lt _ _ hr
  exact ⟨by rw [cv_num (k := .f64) (k2 := .f32) e1 (by decide) hw w]; exact hn, hw⟩
end Go.Proofs.Ytaocilimggpdjaa
