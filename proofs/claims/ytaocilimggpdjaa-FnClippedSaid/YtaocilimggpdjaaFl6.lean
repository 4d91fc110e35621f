/- Plain laws of floats, continued: absolute values. No condition. -/
import Derived.Test.YtaocilimggpdjaaFl5
import Derived.Laws.BitsAllLaws
import Derived.Laws.Runes
namespace Go.Proofs.Ytaocilimggpdjaa
open Go Go.RowKit Ieee
set_option linter.unusedVariables false
set_option linter.unusedSimpArgs false
@[go_sem] theorem run_neg_f {P : Program} (w : World) (k : FloatKind) (b : Nat) : (Op.unary .neg (.float k b)).run P w = .ok (.float k (Op.negFloat k b)) w := rfl
theorem word_lt (f : Format) (neg : Bool) {r : Nat} (h : r < f.signWeight) : f.word neg r < 2 * f.signWeight := by
  unfold Format.word; split <;> omega
/-- a conversion that does not fall out of the range gives a word of the kind -/
theorem cv_lt32 {b : Nat} (w : World) (h : cvWide .f64 b .f32 = false) : cvbits .f64 b .f32 w < 4294967296 := by
  have hk : 2 * single.signWeight = 4294967296 := by decide +kernel
  cases hd : FloatKind.f64.decode b with
  | nan s t =>
    unfold cvbits
    rw [if_neg (by decide), hd]
    exact drawn_lt .f32 0 0 _
  | infinity s =>
    unfold cvbits
    rw [if_neg (by decide), hd]
    show FloatKind.f32.encode (.infinity s) < _
    cases s <;> decide +kernel
  | number s m e =>
    rw [cv_num (k := .f64) (k2 := .f32) hd (by decide) h w]
    obtain ⟨q, hq, hle⟩ := nearest_word single s m e
    rw [show FloatKind.f32.format.nearest s m e = _ from hq, ← hk]
    exact word_lt single s (Nat.lt_of_le_of_lt hle single.infRung_lt)
theorem isN_mod (d : Nat) : isN .f64 (d % 9223372036854775808) = isN .f64 d := by
  have hs : double.signWeight = 9223372036854775808 := by decide +kernel
  unfold isN
  show (double.read (d % 9223372036854775808)).isNaN = (double.read d).isNaN
  rw [← hs]
  simp only [Format.read, Nat.mod_mod]
  split
  · rfl
  · split
    · rfl
    · split <;> rfl
theorem isN_mod32 (d : Nat) : isN .f32 (d % 2147483648) = isN .f32 d := by
  have hs : single.signWeight = 2147483648 := by decide +kernel
  unfold isN
  show (single.read (d % 2147483648)).isNaN = (single.read d).isNaN
  rw [← hs]
  simp only [Format.read, Nat.mod_mod]
  split
  · rfl
  · split
    · rfl
    · split <;> rfl
theorem isN_wide (x : Nat) (w : World) (h : isN .f32 x = true) : isN .f64 (cvbits .f32 x .f64 w) = true := by
  have := isN_of_cn ((cn_wide x w).trans (show fcv .f32 (cn .f32 x) .f64 = cn .f64 (nanOf .f64) by rw [cn_nan h]; decide +kernel))
  rw [this]; exact isN_nanOf .f64
theorem wide_nan {b : Nat} (h : isN .f64 b = true) : cvWide .f64 b .f32 = false := by
  unfold cvWide
  rw [if_neg (by decide)]
  unfold isN at h
  cases hd : FloatKind.f64.decode b with
  | nan s t => rfl
  | infinity s => rfl
  | number s m e => rw [show FloatKind.f64.format.read b = _ from hd] at h; cases h
/-- the absolute value, NaNs made one -/
def absW (c : Nat) : Nat := if isN .f32 c = true then nanOf .f32 else c % 2147483648
theorem word_mod32 (s : Bool) {r : Nat} (h : r < single.signWeight) : single.word s r % 2147483648 = r := by
  rw [← s_sw]; exact word_mod single s h
theorem abs_round {x : Nat} (hx : x < 4294967296) (w w' : World) : cvWide .f64 (cvbits .f32 x .f64 w % 9223372036854775808) .f32 = false ∧ cn .f32 (cvbits .f64 (cvbits .f32 x .f64 w % 9223372036854775808) .f32 w') = absW (cn .f32 x) := by
  cases hN : isN .f32 x
  · rw [cn_not hN]
    unfold absW
    rw [if_neg (by rw [hN]; decide)]
    obtain ⟨s, r, rfl, hr⟩ := word_of single (x := x) (by rw [s_sw]; omega)
    rw [word_mod32 s hr]
    rcases Nat.lt_trichotomy r single.infRung with h | h | h
    · obtain ⟨q, hq, hw, hv⟩ := wide_fin s h
      rw [hw w, ← d_sw, word_mod double s (Nat.lt_trans hq double.infRung_lt)]
      have hn := narrow_fin false h hq hv w'
      have e1 : double.word false q = q := rfl
      have e2 : single.word false r = r := rfl
      rw [e1, e2] at hn
      refine ⟨hn.2, ?_⟩
      rw [hn.1]
      exact cn_not (read_word_le single false (Nat.le_of_lt h))
    · subst h
      have e1 : cvbits .f32 (single.word s single.infRung) .f64 w = double.word s double.infRung := by
        unfold cvbits
        rw [if_neg (by decide), show FloatKind.f32.decode (single.word s single.infRung) = _ from read_inf single single_binade s]
        rfl
      rw [e1, ← d_sw, word_mod double s double.infRung_lt]
      have e2 : FloatKind.f64.decode double.infRung = .infinity false := read_inf double double_binade false
      refine ⟨by unfold cvWide; rw [if_neg (by decide), e2], ?_⟩
      have e3 : cvbits .f64 double.infRung .f32 w' = single.infRung := by
        unfold cvbits
        rw [if_neg (by decide), e2]
        rfl
      rw [e3]
      exact cn_not (read_word_le single false (Nat.le_refl _))
    · have := nan_word single single_binade s h hr
      have h2 : isN .f32 (single.word s r) = true := this
      rw [hN] at h2; cases h2
  · have h1 : isN .f64 (cvbits .f32 x .f64 w % 9223372036854775808) = true := by rw [isN_mod]; exact isN_wide x w hN
    refine ⟨wide_nan h1, ?_⟩
    rw [cn_cvbits w' (wide_nan h1), cn_nan h1, cn_nan hN]
    decide +kernel
theorem and_63 (b : Nat) (hb : b < 18446744073709551616) : bits .andNot .u64 (b : Int) 9223372036854775808 = ((b % 9223372036854775808 : Nat) : Int) := by
  have := u64_andNot_nat b 9223372036854775808 hb (by decide)
  rw [show ((9223372036854775808 : Nat) : Int) = 9223372036854775808 from rfl] at this
  rw [this, show 18446744073709551615 - 9223372036854775808 = 2 ^ 63 - 1 by decide, Nat.and_two_pow_sub_one_eq_mod]
theorem and_31 (a : Nat) (ha : a < 4294967296) : bits .andNot .i64 (a : Int) 2147483648 = ((a % 2147483648 : Nat) : Int) := by
  show IntKind.i64.wrap ((BitVec.ofInt 64 (a : Int) &&& ~~~BitVec.ofInt 64 2147483648).toNat : Int) = _
  have h1 : (BitVec.ofInt 64 2147483648).toNat = 2147483648 := by decide
  have h2 : (BitVec.ofInt 64 (a : Int)).toNat = a := by
    rw [BitVec.toNat_ofInt]; omega
  rw [BitVec.toNat_and, BitVec.toNat_not, h1, h2]
  have h3 : a &&& (2 ^ 64 - 1 - 2147483648) = a % 2147483648 := by
    apply Nat.eq_of_testBit_eq
    intro i
    rw [show 2 ^ 64 - 1 - 2147483648 = 2 ^ 64 - (2 ^ 31 + 1) by decide, show 2147483648 = 2 ^ 31 by decide, Nat.testBit_and, Nat.testBit_mod_two_pow, Nat.testBit_two_pow_sub_succ (by decide), Nat.testBit_two_pow]
    by_cases h : i < 32
    · by_cases h31 : i = 31
      · subst h31; simp
      · have : i < 31 := by omega
        have h64 : i < 64 := by omega
        have hne : ¬ (31 = i) := by omega
        simp [this, h64, hne]
    · have : a.testBit i = false := Nat.testBit_lt_two_pow (Nat.lt_of_lt_of_le (by omega : a < 2 ^ 32) (Nat.pow_le_pow_right (by decide) (by omega)))
      simp [this]
  rw [h3]
  have : ((a % 2147483648 : Nat) : Int) < 9223372036854775808 := by omega
  exact wrap_small _ (by omega) this
theorem cn_lt {x : Nat} (hx : x < 4294967296) : cn .f32 x < 4294967296 := by
  unfold cn; split
  · decide
  · exact hx
end Go.Proofs.Ytaocilimggpdjaa
