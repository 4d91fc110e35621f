/- Plain laws of floats, continued: what a format has exactly is written as it is. No condition. -/
import Derived.Test.YtaocilimggpdjaaFl3
namespace Go.Proofs.Ytaocilimggpdjaa
open Go Ieee
set_option linter.unusedVariables false
theorem cut_exact (neg : Bool) {n low d : Nat} (h : n = low * 2 ^ d) : Toward.even.cut neg n d = low := by
  unfold Toward.cut
  have hg : ∃ g, 1 <<< min d (n.log2 + 2) = g ∧ n / g = low ∧ n % g = 0 ∧ 0 < g := by
    by_cases h0 : n = 0
    · have hl : low = 0 := by
        rcases Nat.eq_zero_or_pos low with e | e
        · exact e
        · have := Nat.mul_pos e (Nat.two_pow_pos d); omega
      subst h0
      exact ⟨_, rfl, by rw [hl]; simp, by simp, by rw [Nat.shiftLeft_eq]; have := Nat.two_pow_pos (min d (Nat.log2 0 + 2)); omega⟩
    · have hd : d ≤ n.log2 + 2 := by
        have hl : 1 ≤ low := by
          rcases Nat.eq_zero_or_pos low with e | e
          · subst e; simp at h; exact absurd h h0
          · exact e
        have h1 : 2 ^ d ≤ n := by rw [h]; exact Nat.le_mul_of_pos_left _ hl
        have h2 := (Nat.le_log2 h0).2 h1
        omega
      refine ⟨2 ^ d, by rw [Nat.min_eq_left hd, Nat.shiftLeft_eq, Nat.one_mul], ?_, ?_, Nat.two_pow_pos d⟩
      · rw [h, Nat.mul_div_cancel _ (Nat.two_pow_pos d)]
      · rw [h, Nat.mul_mod_left]
  obtain ⟨g, e1, e2, e3, e4⟩ := hg
  simp only [e1, e2, e3]
  have : ¬ (g < 2 * 0) := by omega
  have h2 : (g == 2 * 0) = false := by simp; omega
  simp [h2]
theorem log2_mul_pow {m a : Nat} (hm : m ≠ 0) : (m * 2 ^ a).log2 = m.log2 + a := by
  have hp := Nat.two_pow_pos a
  have hne : m * 2 ^ a ≠ 0 := Nat.mul_ne_zero hm (by omega)
  apply Nat.le_antisymm
  · have : (m * 2 ^ a).log2 < m.log2 + a + 1 := (Nat.log2_lt hne).2 (by
      have := Nat.lt_log2_self (n := m)
      rw [show m.log2 + a + 1 = (m.log2 + 1) + a by omega, Nat.pow_add]
      exact Nat.mul_lt_mul_of_pos_right this hp)
    omega
  · refine (Nat.le_log2 hne).2 ?_
    rw [Nat.pow_add]
    exact Nat.mul_le_mul_right _ (Nat.log2_self_le hm)
/-- what a rung stands for, is written as this rung: m * 2 ^ p is nval r * 2 ^ leastPlace -/
theorem nearest_val (f : Format) (neg : Bool) {m r a b : Nat} {p : Int} (hr : r < f.infRung) (hv : m * 2 ^ a = nval f r * 2 ^ b) (hp : (a : Int) - b = p - f.leastPlace) : f.nearest neg m p = f.word neg r := by
  have hB : f.binade = 2 ^ f.fractionBits := rfl
  have hBp : 0 < f.binade := Nat.two_pow_pos _
  by_cases hm : m = 0
  · subst hm
    have h0 : nval f r = 0 := by
      rcases Nat.eq_zero_or_pos (nval f r) with e | e
      · exact e
      · have := Nat.mul_pos e (Nat.two_pow_pos b); rw [Nat.zero_mul] at hv; omega
    have : r = 0 := nval_inj (f := f) (by rw [h0, nval_zero])
    subst this
    unfold Format.nearest
    rw [if_pos rfl]
  have hN : nval f r ≠ 0 := by
    intro e; rw [e, Nat.zero_mul] at hv
    have := Nat.mul_pos (Nat.pos_of_ne_zero hm) (Nat.two_pow_pos a); omega
  have hlog : m.log2 + a = (nval f r).log2 + b := by rw [← log2_mul_pow hm, ← log2_mul_pow hN, hv]
  -- the kept digits and the place of the last
  have hK : ∃ K s : Nat, nval f r = K * 2 ^ s ∧ s * f.binade + K = r ∧ max (f.leastPlace + (nval f r).log2 - (f.fractionBits : Nat)) f.leastPlace = f.leastPlace + s := by
    by_cases h1 : r < f.binade
    · have e : nval f r = r := by unfold nval; rw [if_pos h1]
      refine ⟨r, 0, by rw [e]; simp, by simp, ?_⟩
      rw [e]
      have : r.log2 < f.fractionBits := (Nat.log2_lt (by rw [e] at hN; exact hN)).2 (by rw [← hB]; exact h1)
      omega
    · have e : nval f r = (f.binade + r % f.binade) * 2 ^ (r / f.binade - 1) := by unfold nval; rw [if_neg h1]
      have hq : 1 ≤ r / f.binade := (Nat.le_div_iff_mul_le hBp).2 (by omega)
      have hd := Nat.div_add_mod r f.binade
      have hmod := Nat.mod_lt r hBp
      refine ⟨_, _, e, ?_, ?_⟩
      · have h2 : (r / f.binade - 1) * f.binade + f.binade = f.binade * (r / f.binade) := by
          rw [Nat.mul_comm f.binade, ← Nat.succ_mul]; congr 1; omega
        omega
      · have hne : f.binade + r % f.binade ≠ 0 := by omega
        have hl : (f.binade + r % f.binade).log2 = f.fractionBits := by
          apply Nat.le_antisymm
          · have : (f.binade + r % f.binade).log2 < f.fractionBits + 1 := (Nat.log2_lt hne).2 (by rw [Nat.pow_succ, ← hB]; omega)
            omega
          · exact (Nat.le_log2 hne).2 (by rw [← hB]; omega)
        rw [e, log2_mul_pow hne, hl]
        omega
  obtain ⟨K, s, hK1, hK2, hK3⟩ := hK
  have hlast : max (p + m.log2 - (f.fractionBits : Nat)) f.leastPlace = f.leastPlace + s := by
    rw [← hK3]
    congr 1
    omega
  unfold Format.nearest
  rw [if_neg hm]
  simp only [hlast]
  have hv2 : m * 2 ^ a = K * 2 ^ (s + b) := by rw [hv, hK1, Nat.pow_add, Nat.mul_assoc]
  have hcut : Toward.even.cut neg (m <<< (p - (f.leastPlace + (s : Int))).toNat) (f.leastPlace + (s : Int) - p).toNat = K := by
    apply cut_exact
    rw [Nat.shiftLeft_eq]
    apply Nat.eq_of_mul_eq_mul_right (Nat.two_pow_pos (s + b))
    by_cases h : s + b ≤ a
    · have e1 : (p - (f.leastPlace + (s : Int))).toNat = a - (s + b) := by omega
      have e2 : (f.leastPlace + (s : Int) - p).toNat = 0 := by omega
      rw [e1, e2, Nat.pow_zero, Nat.mul_one, Nat.mul_assoc, ← Nat.pow_add, show a - (s + b) + (s + b) = a by omega, hv2]
    · have e1 : (p - (f.leastPlace + (s : Int))).toNat = 0 := by omega
      have e2 : (f.leastPlace + (s : Int) - p).toNat = s + b - a := by omega
      rw [e1, e2, Nat.pow_zero, Nat.mul_one, Nat.mul_assoc]
      have : m * 2 ^ (s + b) = m * 2 ^ a * 2 ^ (s + b - a) := by rw [Nat.mul_assoc, ← Nat.pow_add, show a + (s + b - a) = s + b by omega]
      rw [this, hv2, Nat.mul_assoc, Nat.mul_comm (2 ^ (s + b)) (2 ^ (s + b - a))]
  rw [hcut, show (f.leastPlace + (s : Int) - f.leastPlace).toNat = s by omega, hK2, Nat.min_eq_left (Nat.le_of_lt hr)]
end Go.Proofs.Ytaocilimggpdjaa
