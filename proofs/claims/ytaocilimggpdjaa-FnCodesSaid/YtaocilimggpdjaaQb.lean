/- Plain laws: a 64-bit number clamped and made an integer. No condition. -/
import Derived.Test.YtaocilimggpdjaaQa
import Derived.Test.YtaocilimggpdjaaFl9
namespace Go.Proofs.Ytaocilimggpdjaa
open Go Go.RowKit Ieee
set_option linter.unusedVariables false
set_option linter.unusedSimpArgs false
def c127 : Nat := 4638637247447433216
def cm127 : Nat := 13862009284302209024
def toI (x : Nat) : Int := ((double.read x).toInt .zero).getD 0
def clampI (x : Nat) : Int := if FloatKind.f64.format.order x c127 = some .gt then 127 else if FloatKind.f64.format.order x cm127 = some .lt then -127 else toI x
theorem read_127 : double.read c127 = .number false (127 * 2 ^ 46) (-46) := by decide +kernel
theorem read_m127 : double.read cm127 = .number true (127 * 2 ^ 46) (-46) := by decide +kernel
theorem num_127 : num false (127 * 2 ^ 46) (-46) = 127 := by decide +kernel
theorem num_m127 : num true (127 * 2 ^ 46) (-46) = -127 := by decide +kernel
theorem cut_zero_le (s : Bool) (N d : Nat) : (Toward.zero.cut s N d) * 2 ^ d ≤ N := by
  unfold Toward.cut
  simp only [Bool.toNat_false, Nat.add_zero, Nat.shiftLeft_eq, Nat.one_mul]
  by_cases h : d ≤ N.log2 + 2
  · rw [Nat.min_eq_left h]; exact Nat.div_mul_le_self _ _
  · rw [Nat.min_eq_right (by omega)]
    have : N < 2 ^ (N.log2 + 2) := Nat.lt_of_lt_of_le Nat.lt_log2_self (Nat.pow_le_pow_right (by decide) (by omega))
    rw [Nat.div_eq_of_lt this]; omega
/-- a number, as an integer towards zero -/
theorem toInt_num (s : Bool) (m : Nat) (p : Int) {B : Nat} (h1 : num s m p ≤ (B : Rat)) (h2 : -(B : Rat) ≤ num s m p) : ∃ n, (Datum.number s m p).toInt .zero = some n ∧ -(B : Int) ≤ n ∧ n ≤ B := by
  have hL := cut_zero_le s (m <<< p.toNat) (-p).toNat
  obtain ⟨L, hLe⟩ : ∃ L, L = Toward.zero.cut s (m <<< p.toNat) (-p).toNat := ⟨_, rfl⟩
  rw [← hLe] at hL
  have key : (m : Rat) * (2 : Rat) ^ p ≤ B := by
    unfold num sg at h1 h2
    cases s
    · simp at h1; exact h1
    · simp at h2; grind
  have e : (2 : Rat) ^ p * ((2 ^ (-p).toNat : Nat) : Rat) = ((2 ^ p.toNat : Nat) : Rat) := by
    rw [← pw_nat, ← pw_nat, ← pw_add]; congr 1; omega
  have hb : L ≤ B := by
    have h3 : (L : Rat) * ((2 ^ (-p).toNat : Nat) : Rat) ≤ (B : Rat) * ((2 ^ (-p).toNat : Nat) : Rat) := by
      have h4 : ((L * 2 ^ (-p).toNat : Nat) : Rat) ≤ ((m <<< p.toNat : Nat) : Rat) := Rat.natCast_le_natCast.2 hL
      rw [Nat.shiftLeft_eq, Rat.natCast_mul, Rat.natCast_mul] at h4
      have h5 : (m : Rat) * ((2 ^ p.toNat : Nat) : Rat) ≤ (B : Rat) * ((2 ^ (-p).toNat : Nat) : Rat) := by
        rw [← e, ← Rat.mul_assoc]
        exact Rat.mul_le_mul_of_nonneg_right key (Rat.natCast_nonneg)
      exact Rat.le_trans h4 h5
    have hp : (0 : Rat) < ((2 ^ (-p).toNat : Nat) : Rat) := by rw [← pw_nat]; exact pw_pos _
    exact Rat.natCast_le_natCast.1 (Rat.le_of_mul_le_mul_right h3 hp)
  refine ⟨signed s L 0, by unfold Datum.toInt Datum.integral; simp only [hLe], ?_⟩
  unfold signed
  cases s <;> simp <;> omega
theorem order_eq_words {x : Nat} (hx : x < 18446744073709551616) (h : FloatKind.f64.format.order x c127 = some .eq) : x = c127 := by
  obtain ⟨s, r, e, hr⟩ := word_of double (x := x) (by rw [d_sw]; omega)
  have hri : r < double.infRung := by
    by_cases h1 : r < double.infRung
    · exact h1
    · exfalso
      by_cases h2 : r = double.infRung
      · rw [h2] at e
        have : double.read x = .infinity s := by rw [e]; exact read_inf double double_binade s
        have h3 : (double.read x).order (double.read c127) = some .eq := h
        rw [this, read_127] at h3
        cases s <;> cases h3
      · have hn : isN .f64 x = true := by rw [e]; exact nan_word double double_binade s (by omega) hr
        rw [order_none (.inl hn)] at h; cases h
  have h127 : c127 = double.word false c127 := rfl
  have h127r : c127 < double.infRung := by decide +kernel
  have h3 : double.order (double.word s r) (double.word false c127) = some .eq := by rw [← e]; exact h
  rw [order_fin double s false hri h127r] at h3
  have h4 := Int.compare_eq_eq.1 (Option.some.inj h3)
  unfold sval at h4
  have h5 : 0 < nval double c127 := by
    have := nval_lt (f := double) (show 0 < c127 by decide)
    rw [nval_zero] at this; exact this
  cases s
  · simp at h4
    have := nval_inj (f := double) (Int.ofNat.inj h4)
    rw [e, this]; rfl
  · simp at h4; omega
theorem clamp_ok {x : Nat} (hn : isN .f64 x = false) (hx : x < 18446744073709551616) :
    ∃ m M, minF .f64 x c127 = some m ∧ maxF .f64 cm127 m = some M ∧ floatToIntVal .f64 M .i64 = some (clampI x) ∧ -127 ≤ clampI x ∧ clampI x ≤ 127 := by
  have hf127 : floatToIntVal .f64 c127 .i64 = some 127 := by decide +kernel
  have hfm : floatToIntVal .f64 cm127 .i64 = some (-127) := by decide +kernel
  have hmm : maxF .f64 cm127 c127 = some c127 := by decide +kernel
  obtain ⟨c, hc⟩ := order_someK (k := .f64) (x := x) (y := c127) hn (by decide +kernel)
  by_cases h1 : FloatKind.f64.format.order x c127 = some .gt
  · have hcl : clampI x = 127 := by unfold clampI; rw [if_pos h1]
    exact ⟨c127, c127, by unfold minF; rw [h1], hmm, by rw [hcl]; exact hf127, by omega, by omega⟩
  have hm : minF .f64 x c127 = some x := by
    unfold minF
    cases c
    · rw [hc]
    · have := order_eq_words hx hc
      subst this
      rw [hc]; rfl
    · exact absurd hc h1
  obtain ⟨d, hd⟩ := order_someK (k := .f64) (x := x) (y := cm127) hn (by decide +kernel)
  obtain ⟨d', hd'⟩ := order_someK (k := .f64) (x := cm127) (y := x) (by decide +kernel) hn
  cases hr : double.read x with
  | nan s t => unfold isN at hn; rw [show FloatKind.f64.format.read x = _ from hr] at hn; cases hn
  | infinity s =>
    have h2 : (double.read x).order (double.read c127) ≠ some .gt := h1
    rw [hr, read_127] at h2
    cases s
    · exact absurd rfl h2
    · have h3 : FloatKind.f64.format.order x cm127 = some .lt := by show (double.read x).order (double.read cm127) = _; rw [hr, read_m127]; rfl
      have h4 : FloatKind.f64.format.order cm127 x = some .gt := by show (double.read cm127).order (double.read x) = _; rw [hr, read_m127]; rfl
      have hcl : clampI x = -127 := by unfold clampI; rw [if_neg h1, if_pos h3]
      exact ⟨x, cm127, hm, by unfold maxF; rw [h4], by rw [hcl]; exact hfm, by omega, by omega⟩
  | number s m p =>
    have o1 := order_num s false m (127 * 2 ^ 46) p (-46)
    have o2 := order_num s true m (127 * 2 ^ 46) p (-46)
    have o3 := order_num true s (127 * 2 ^ 46) m (-46) p
    rw [num_127] at o1
    rw [num_m127] at o2 o3
    have e1 : FloatKind.f64.format.order x c127 = (Datum.number s m p).order (.number false (127 * 2 ^ 46) (-46)) := by rw [← hr, ← read_127]; rfl
    have e2 : FloatKind.f64.format.order x cm127 = (Datum.number s m p).order (.number true (127 * 2 ^ 46) (-46)) := by rw [← hr, ← read_m127]; rfl
    have e3 : FloatKind.f64.format.order cm127 x = (Datum.number true (127 * 2 ^ 46) (-46)).order (.number s m p) := by rw [← hr, ← read_m127]; rfl
    have g1 : num s m p ≤ 127 := by rw [← Rat.not_lt]; intro h; exact h1 (by rw [e1]; exact o1.2.1.2 h)
    by_cases h3 : FloatKind.f64.format.order x cm127 = some .lt
    · have g3 : num s m p < -127 := o2.1.1 (by rw [← e2]; exact h3)
      have h4 : FloatKind.f64.format.order cm127 x = some .gt := by rw [e3]; exact o3.2.1.2 g3
      have hcl : clampI x = -127 := by unfold clampI; rw [if_neg h1, if_pos h3]
      exact ⟨x, cm127, hm, by unfold maxF; rw [h4], by rw [hcl]; exact hfm, by omega, by omega⟩
    · have g2 : -127 ≤ num s m p := by rw [← Rat.not_lt]; intro h; exact h3 (by rw [e2]; exact o2.1.2 h)
      have h4 : FloatKind.f64.format.order cm127 x ≠ some .gt := by
        intro h; rw [e3] at h; have := o3.2.1.1 h; grind
      have hM : maxF .f64 cm127 x = some x := by
        unfold maxF
        cases d'
        · rw [hd']
        · rw [hd']; rfl
        · exact absurd hd' h4
      obtain ⟨n, hn1, hn2, hn3⟩ := toInt_num s m p (B := 127) (by simpa using g1) (by simpa using g2)
      have hcl : clampI x = n := by unfold clampI toI; rw [if_neg h1, if_neg h3, hr, hn1]; rfl
      refine ⟨x, x, hm, hM, ?_, by omega, by omega⟩
      rw [hcl]
      unfold floatToIntVal
      rw [show FloatKind.f64.decode x = .number s m p from hr, hn1]
      simp only
      rw [if_pos (by simp [IntKind.min, IntKind.max, IntKind.signed, IntKind.bits]; omega)]
end Go.Proofs.Ytaocilimggpdjaa
