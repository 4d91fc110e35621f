/- Plain laws of floats, continued: the nearest bfloat. No condition. -/
import Derived.Test.YtaocilimggpdjaaFl7
import Derived.Test.YtaocilimggpdjaaCode
namespace Go.Proofs.Ytaocilimggpdjaa
open Go Go.RowKit Ieee
set_option linter.unusedVariables false
set_option linter.unusedSimpArgs false
theorem and_16 (N a : Nat) (hN : 16 ≤ N) (ha : a < 2 ^ N) : a &&& (2 ^ N - (65535 + 1)) = a / 65536 * 65536 := by
  have h0 : 65535 < 2 ^ N := Nat.lt_of_lt_of_le (by decide : 65535 < 2 ^ 16) (Nat.pow_le_pow_right (by decide) hN)
  have e : a / 65536 * 65536 = (a >>> 16) <<< 16 := by rw [Nat.shiftLeft_eq, Nat.shiftRight_eq_div_pow]
  rw [e]
  apply Nat.eq_of_testBit_eq
  intro i
  rw [Nat.testBit_and, Nat.testBit_two_pow_sub_succ h0, Nat.testBit_shiftLeft, Nat.testBit_shiftRight, show 65535 = 2 ^ 16 - 1 by decide, Nat.testBit_two_pow_sub_one]
  by_cases h : i < N
  · by_cases h16 : i < 16
    · have : ¬ (i ≥ 16) := by omega
      simp [h, h16, this]
    · have h2 : i ≥ 16 := by omega
      simp [h, h16, h2, show 16 + (i - 16) = i by omega]
  · have h1 : a.testBit i = false := Nat.testBit_lt_two_pow (Nat.lt_of_lt_of_le ha (Nat.pow_le_pow_right (by decide) (by omega)))
    by_cases h2 : i ≥ 16
    · simp [h1, h2, show 16 + (i - 16) = i by omega]
    · simp [h1, h2]
theorem andNot_u32 (a : Nat) (ha : a < 4294967296) : bits .andNot .u32 (a : Int) 65535 = ((a / 65536 * 65536 : Nat) : Int) := by
  have := u32_andNot_nat a 65535 ha (by decide)
  rw [show ((65535 : Nat) : Int) = 65535 from rfl] at this
  rw [this, show 4294967295 - 65535 = 2 ^ 32 - (65535 + 1) by decide, and_16 32 a (by decide) (by omega)]
theorem andNot_i64 (a : Nat) (ha : a < 4611686018427387904) : bits .andNot .i64 (a : Int) 65535 = ((a / 65536 * 65536 : Nat) : Int) := by
  show IntKind.i64.wrap ((BitVec.ofInt 64 (a : Int) &&& ~~~BitVec.ofInt 64 65535).toNat : Int) = _
  have h1 : (BitVec.ofInt 64 65535).toNat = 65535 := by decide
  have h2 : (BitVec.ofInt 64 (a : Int)).toNat = a := by
    rw [BitVec.toNat_ofInt]; omega
  rw [BitVec.toNat_and, BitVec.toNat_not, h1, h2, show 2 ^ 64 - 1 - 65535 = 2 ^ 64 - (65535 + 1) by decide, and_16 64 a (by decide) (by omega)]
  exact wrap_small _ (by omega) (by omega)
/-- the word of the nearest bfloat of a word that is no NaN -/
def bfW (x : Nat) : Nat := (x + (32767 + x / 65536 % 2)) / 65536 * 65536
def bfE (c : Nat) : Nat := if isN .f32 c = true then nanOf .f32 else cn .f32 (bfW c)
theorem not_nan_bd {x : Nat} (hx : x < 4294967296) (h : isN .f32 x = false) : x ≤ 4286578688 := by
  obtain ⟨s, r, rfl, hr⟩ := word_of single (x := x) (by rw [s_sw]; omega)
  have hle : r ≤ single.infRung := by
    rcases Nat.lt_or_ge single.infRung r with h1 | h1
    · have h2 : isN .f32 (single.word s r) = true := nan_word single single_binade s h1 hr
      rw [h] at h2; cases h2
    · exact h1
  rw [s_ir] at hle
  unfold Format.word
  rw [s_sw]
  split <;> omega
theorem bfW_lt {x : Nat} (hx : x ≤ 4286578688) : bfW x < 4294967296 ∧ x + (32767 + x / 65536 % 2) < 4294967296 := by
  unfold bfW
  omega
theorem bfW_inf {x : Nat} (h : x = 2139095040 ∨ x = 4286578688) : bfW x = x := by rcases h with h | h <;> subst h <;> decide
theorem not_fin {x : Nat} (hx : x < 4294967296) (h : finB x = false) (hn : isN .f32 x = false) : x = 2139095040 ∨ x = 4286578688 := by
  obtain ⟨s, r, rfl, hr⟩ := word_of single (x := x) (by rw [s_sw]; omega)
  have hle : r = single.infRung := by
    rcases Nat.lt_trichotomy single.infRung r with h1 | h1 | h1
    · have h2 : isN .f32 (single.word s r) = true := nan_word single single_binade s h1 hr
      rw [hn] at h2; cases h2
    · exact h1.symm
    · obtain ⟨m, p, e, _⟩ := read_fin single s h1
      unfold finB at h
      rw [e] at h; cases h
  subst hle
  cases s
  · left; exact s_ir
  · right; unfold Format.word; rw [s_sw, s_ir]; rfl
theorem and1_u32 (a : Nat) (ha : a < 4294967296) : bits .and .u32 (a : Int) 1 = ((a % 2 : Nat) : Int) := by
  have := u32_and_nat a 1 ha (by decide)
  rw [show ((1 : Nat) : Int) = 1 from rfl] at this
  rw [this, Nat.and_one_is_mod]
theorem and1_i64 (a : Nat) (ha : a < 4294967296) : bits .and .i64 (a : Int) 1 = ((a % 2 : Nat) : Int) := by
  show IntKind.i64.wrap ((BitVec.ofInt 64 (a : Int) &&& BitVec.ofInt 64 1).toNat : Int) = _
  have h1 : (BitVec.ofInt 64 1).toNat = 1 := by decide
  have h2 : (BitVec.ofInt 64 (a : Int)).toNat = a := by
    rw [BitVec.toNat_ofInt]; omega
  rw [BitVec.toNat_and, h1, h2, Nat.and_one_is_mod]
  exact wrap_small _ (by omega) (by omega)
theorem bf_u32 {x : Nat} (h : x ≤ 4286578688) : (bits .andNot .u32 (((x : Int) + (32767 + bits .and .u32 ((x : Int) / 65536) 1)) % 4294967296) 65535).toNat = bfW x := by
  have h2 := (bfW_lt h).2
  rw [show (x : Int) / 65536 = ((x / 65536 : Nat) : Int) by omega, and1_u32 _ (by omega), show ((x : Int) + (32767 + ((x / 65536 % 2 : Nat) : Int))) % 4294967296 = ((x + (32767 + x / 65536 % 2) : Nat) : Int) by omega, andNot_u32 _ h2]
  rfl
theorem bf_i64 {x : Nat} (h : x ≤ 4286578688) : bits .andNot .i64 (wrap64 ((x : Int) + wrap64 (32767 + bits .and .i64 ((x : Int) / 65536) 1))) 65535 = ((bfW x : Nat) : Int) := by
  have h2 := (bfW_lt h).2
  rw [show (x : Int) / 65536 = ((x / 65536 : Nat) : Int) by omega, and1_i64 _ (by omega), show wrap64 ((x : Int) + wrap64 (32767 + ((x / 65536 % 2 : Nat) : Int))) = ((x + (32767 + x / 65536 % 2) : Nat) : Int) by unfold wrap64; omega, andNot_i64 _ (by omega)]
  rfl
end Go.Proofs.Ytaocilimggpdjaa
