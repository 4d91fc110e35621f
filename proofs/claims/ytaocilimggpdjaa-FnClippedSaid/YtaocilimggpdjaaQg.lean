/- Plain laws of floats: numbers with few digits are written as they are. No condition. -/
import Derived.Test.YtaocilimggpdjaaQf
namespace Go.Proofs.Ytaocilimggpdjaa
open Go Ieee
set_option linter.unusedVariables false
theorem log2_bounds {m : Nat} (hm : m ≠ 0) : 2 ^ m.log2 ≤ m ∧ m < 2 ^ (m.log2 + 1) := ⟨Nat.log2_self_le hm, Nat.lt_log2_self⟩
/-- the rung of a number with few digits -/
theorem digits_rung (f : Format) {m d : Nat} (hm : m ≠ 0) (hb : m < 2 * f.binade) (hd : (d + 2) * f.binade ≤ f.infRung) : ∃ r, r < f.infRung ∧ nval f r = m * 2 ^ d := by
  have hB := binade_pos f
  have hfb : f.binade = 2 ^ f.fractionBits := rfl
  obtain ⟨l1, l2⟩ := log2_bounds hm
  have hL : m.log2 ≤ f.fractionBits := by
    have h1 : 2 ^ m.log2 < 2 ^ (f.fractionBits + 1) := by rw [Nat.pow_succ, ← hfb]; omega
    have := (Nat.pow_lt_pow_iff_right (by decide : 1 < 2)).1 h1
    omega
  by_cases hc : d ≤ f.fractionBits - m.log2
  · refine ⟨0 * f.binade + m * 2 ^ d, ?_, ?_⟩
    · have h1 : m * 2 ^ d < 2 ^ (m.log2 + 1) * 2 ^ d := Nat.mul_lt_mul_of_pos_right l2 (Nat.two_pow_pos _)
      have h2 : 2 ^ (m.log2 + 1) * 2 ^ d ≤ 2 ^ (f.fractionBits + 1) := by rw [← Nat.pow_add]; exact Nat.pow_le_pow_right (by decide) (by omega)
      have h3 : 2 ^ (f.fractionBits + 1) = 2 * f.binade := by rw [Nat.pow_succ, hfb]; omega
      have h4 : 2 * f.binade ≤ (d + 2) * f.binade := Nat.mul_le_mul_right _ (by omega)
      omega
    · rw [nval_rung f 0 (m * 2 ^ d) (.inl rfl) ?_]
      · simp
      · have h1 : m * 2 ^ d < 2 ^ (m.log2 + 1) * 2 ^ d := Nat.mul_lt_mul_of_pos_right l2 (Nat.two_pow_pos _)
        have h2 : 2 ^ (m.log2 + 1) * 2 ^ d ≤ 2 ^ (f.fractionBits + 1) := by rw [← Nat.pow_add]; exact Nat.pow_le_pow_right (by decide) (by omega)
        have h3 : 2 ^ (f.fractionBits + 1) = 2 * f.binade := by rw [Nat.pow_succ, hfb]; omega
        omega
  · obtain ⟨e, he⟩ : ∃ e, d = e + (f.fractionBits - m.log2) := ⟨d - (f.fractionBits - m.log2), by omega⟩
    obtain ⟨k, hk⟩ : ∃ k, k = m * 2 ^ (f.fractionBits - m.log2) := ⟨_, rfl⟩
    have k1 : f.binade ≤ k := by
      rw [hk, hfb]
      have h1 : 2 ^ m.log2 * 2 ^ (f.fractionBits - m.log2) ≤ m * 2 ^ (f.fractionBits - m.log2) := Nat.mul_le_mul_right _ l1
      rw [← Nat.pow_add, show m.log2 + (f.fractionBits - m.log2) = f.fractionBits by omega] at h1
      exact h1
    have k2 : k < 2 * f.binade := by
      rw [hk]
      have h1 : m * 2 ^ (f.fractionBits - m.log2) < 2 ^ (m.log2 + 1) * 2 ^ (f.fractionBits - m.log2) := Nat.mul_lt_mul_of_pos_right l2 (Nat.two_pow_pos _)
      rw [← Nat.pow_add, show m.log2 + 1 + (f.fractionBits - m.log2) = f.fractionBits + 1 by omega, Nat.pow_succ, ← hfb] at h1
      omega
    refine ⟨e * f.binade + k, ?_, ?_⟩
    · have h1 : (e + 2) * f.binade ≤ (d + 2) * f.binade := Nat.mul_le_mul_right _ (by omega)
      have h2 : (e + 2) * f.binade = e * f.binade + 2 * f.binade := Nat.add_mul _ _ _
      omega
    · rw [nval_rung f e k (.inr k1) (by omega), hk, he, Nat.pow_add, Nat.mul_assoc, Nat.mul_comm (2 ^ (f.fractionBits - m.log2))]
/-- a number with few digits has a word -/
theorem exact_num (f : Format) (s : Bool) (m : Nat) (p : Int) (hb : m < 2 * f.binade) (h1 : f.leastPlace ≤ p) (h2 : ((p - f.leastPlace).toNat + 2) * f.binade ≤ f.infRung) : ∃ w, Fin f w ∧ val f w = num s m p := by
  by_cases hm : m = 0
  · subst hm
    have h3 : 0 < f.infRung := by have := binade_pos f; have : 2 * f.binade ≤ ((p - f.leastPlace).toNat + 2) * f.binade := Nat.mul_le_mul_right _ (by omega); omega
    refine ⟨f.word s 0, ⟨s, 0, rfl, h3⟩, ?_⟩
    rw [val_word f s h3, nval_zero]
    unfold num
    grind
  · obtain ⟨r, hr, hv⟩ := digits_rung f hm hb h2
    refine ⟨f.word s r, ⟨s, r, rfl, hr⟩, ?_⟩
    rw [val_word f s hr, hv]
    unfold num
    rw [Rat.natCast_mul, ← pw_nat, Rat.mul_assoc, Rat.mul_assoc, ← pw_add, show (((p - f.leastPlace).toNat : Nat) : Int) + f.leastPlace = p by omega]
theorem Near.num {f : Format} {s : Bool} {m : Nat} {p : Int} {w : Nat} (h : Near f (num s m p) w) (hb : m < 2 * f.binade) (h1 : f.leastPlace ≤ p) (h2 : ((p - f.leastPlace).toNat + 2) * f.binade ≤ f.infRung) : Fin f w ∧ val f w = Go.Proofs.Ytaocilimggpdjaa.num s m p := by
  obtain ⟨w0, e1, e2⟩ := exact_num f s m p hb h1 h2
  exact Near.val_exact e1 e2.symm h
theorem num_int (n : Int) : num (decide (n < 0)) n.natAbs 0 = (n : Rat) := by
  unfold num sg
  rw [pw_zero]
  rcases (by omega : n < 0 ∨ 0 ≤ n) with h | h
  · rw [if_pos (decide_eq_true h)]
    have : (n : Int) = -((n.natAbs : Nat) : Int) := by omega
    rw [show ((n : Int) : Rat) = ((-((n.natAbs : Nat) : Int) : Int) : Rat) by rw [← this], Rat.intCast_neg, Rat.intCast_natCast]
    grind
  · rw [if_neg (by simpa using h)]
    have : (n : Int) = ((n.natAbs : Nat) : Int) := by omega
    rw [show ((n : Int) : Rat) = ((((n.natAbs : Nat) : Int) : Int) : Rat) by rw [← this], Rat.intCast_natCast]
    grind
theorem Near.int32 {n : Int} {w : Nat} (h : Near single (n : Rat) w) (hn : n.natAbs < 16777216) : Fin single w ∧ val single w = n := by
  rw [← num_int n] at h ⊢
  exact Near.num h (by have : single.binade = 8388608 := by decide +kernel
                       omega) (by rw [s_lp]; decide) (by decide +kernel)
theorem Near.int64 {n : Int} {w : Nat} (h : Near double (n : Rat) w) (hn : n.natAbs < 9007199254740992) : Fin double w ∧ val double w = n := by
  rw [← num_int n] at h ⊢
  exact Near.num h (by have : double.binade = 4503599627370496 := by decide +kernel
                       omega) (by rw [d_lp]; decide) (by decide +kernel)
theorem int_exact32 (n : Int) (hn : n.natAbs < 16777216) : Fin single (floatOfInt .f32 n) ∧ val single (floatOfInt .f32 n) = n := Near.int32 (int_near .f32 n) hn
theorem int_exact64 (n : Int) (hn : n.natAbs < 9007199254740992) : Fin double (floatOfInt .f64 n) ∧ val double (floatOfInt .f64 n) = n := Near.int64 (int_near .f64 n) hn
/-- numbers that are equal are found equal -/
theorem eq_val {k : FloatKind} {x y : Nat} (hx : Fin k.format x) (hy : Fin k.format y) (h : val k.format x = val k.format y) : k.format.order x y = some .eq := (order_val hx hy).2.2.2 h
theorem Fin.cn {k : FloatKind} {x y : Nat} (hx : Fin k.format x) (h : cn k y = x) : y = x := by
  have h1 : isN k y = false := by
    have e := isN_cn k y
    rw [h, hx.not] at e
    exact e.symm
  rw [cn_not h1] at h
  exact h
theorem fop_some {op : BinOp} {k : FloatKind} {x y r : Nat} (h : floatBits op k x y = some r) : fop op k x y = r := by simp [fop, h]
theorem half32 : Fin single 1056964608 ∧ val single 1056964608 = 1 / 2 := ⟨⟨false, 1056964608, by decide +kernel, by decide +kernel⟩, by unfold val; decide +kernel⟩
theorem four32 : Fin single 1082130432 ∧ val single 1082130432 = 4 := ⟨⟨false, 1082130432, by decide +kernel, by decide +kernel⟩, by unfold val; decide +kernel⟩
/-- an integer that is not great, halved and multiplied by 4, is the double one -/
theorem twice_int (n : Int) (hn : n.natAbs < 1000000) : Fin single (fop .mul .f32 (fop .mul .f32 (floatOfInt .f32 n) 1056964608) 1082130432) ∧ val single (fop .mul .f32 (fop .mul .f32 (floatOfInt .f32 n) 1056964608) 1082130432) = ((2 * n : Int) : Rat) := by
  obtain ⟨f1, v1⟩ := int_exact32 n (by omega)
  obtain ⟨r, e1, n1⟩ := mul_near (k := .f32) f1 half32.1
  rw [fop_some e1]
  have e2 : val FloatKind.f32.format (floatOfInt .f32 n) * val FloatKind.f32.format 1056964608 = num (decide (n < 0)) n.natAbs (-1) := by
    show val single _ * val single _ = _
    rw [v1, half32.2, ← num_int n]
    unfold num
    rw [show (-1 : Int) = 0 + -1 by rfl, pw_add, pw_zero]
    have : (2 : Rat) ^ (-1 : Int) = 1 / 2 := by decide +kernel
    rw [this]; grind
  rw [e2] at n1
  obtain ⟨f2, v2⟩ := Near.num n1 (by show _ < 2 * single.binade; have : single.binade = 8388608 := by decide +kernel
                                     omega) (by show single.leastPlace ≤ _; rw [s_lp]; decide) (by decide +kernel)
  obtain ⟨q, e3, n2⟩ := mul_near (k := .f32) f2 four32.1
  rw [fop_some e3]
  have e4 : val FloatKind.f32.format r * val FloatKind.f32.format 1082130432 = ((2 * n : Int) : Rat) := by
    show val FloatKind.f32.format r * val single _ = _
    rw [v2, four32.2, Rat.intCast_mul, ← num_int n]
    unfold num
    rw [show (-1 : Int) = 0 + -1 by rfl, pw_add, pw_zero]
    have : (2 : Rat) ^ (-1 : Int) = 1 / 2 := by decide +kernel
    rw [this]
    have : ((2 : Int) : Rat) = 2 := rfl
    rw [this]; grind
  rw [e4] at n2
  exact Near.int32 n2 (by omega)
/-- a code with the spread 1 -/
def one32 : Nat := 1065353216
theorem code_number : ∀ j : Nat, j < 255 → fop .mul .f32 (floatOfInt .f32 ((j : Int) - 127)) one32 = floatOfInt .f32 ((j : Int) - 127) := by decide +kernel
end Go.Proofs.Ytaocilimggpdjaa
