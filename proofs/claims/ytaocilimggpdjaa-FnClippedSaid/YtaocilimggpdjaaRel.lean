/- Plain laws of floats: how far a result is from the true one, and roots. No condition. -/
import Derived.Test.YtaocilimggpdjaaSup
import Derived.Test.YtaocilimggpdjaaFl7
namespace Go.Proofs.Ytaocilimggpdjaa
open Go Ieee
set_option linter.unusedVariables false
set_option linter.unusedSimpArgs false
theorem near_rel (f : Format) (hI : f.infRung < f.signWeight) {q : Rat} {w : Nat} (h : Near f q w) (hf : Fin f w) (hq : 0 < q) (hn : (f.binade : Rat) ≤ q * (2 : Rat) ^ (-f.leastPlace)) :
    (f.binade : Rat) * (val f w - q) ≤ q ∧ (f.binade : Rat) * (q - val f w) ≤ q := by
  obtain ⟨s, r, e, hm, h1, h2⟩ := h
  obtain ⟨s0, r0, e0, hr⟩ := hf
  rw [e] at e0
  obtain ⟨rfl, rfl⟩ := word_inj (by have := hm.le; omega) (by omega) e0
  rw [h2 hq] at e
  have hv : val f w = (nval f r : Rat) * (2 : Rat) ^ f.leastPlace := by
    rw [e, val_word f false hr]; unfold sg; simp
  rw [rabs_pos (Rat.le_of_lt hq)] at hm
  obtain ⟨V, hV⟩ : ∃ V, V = q * (2 : Rat) ^ (-f.leastPlace) := ⟨_, rfl⟩
  rw [← hV] at hm hn
  have hB : (0 : Rat) ≤ f.binade := Rat.natCast_nonneg
  have hV0 : 0 ≤ V := Rat.le_trans hB hn
  have he := hm.err hr hV0
  have hP := pw_pos f.leastPlace
  have hq2 : q = V * (2 : Rat) ^ f.leastPlace := by rw [hV, units']
  have a1 : (f.binade : Rat) * ((nval f r : Rat) - V) ≤ V := by grind
  have a2 : (f.binade : Rat) * (V - (nval f r : Rat)) ≤ V := by grind
  have b1 := Rat.mul_le_mul_of_nonneg_right a1 (Rat.le_of_lt hP)
  have b2 := Rat.mul_le_mul_of_nonneg_right a2 (Rat.le_of_lt hP)
  rw [hv, hq2]
  constructor <;> grind
def U : Rat := 1 / 8388608
def cMin : Rat := 1 / 1099511627776
theorem U_pos : 0 < U ∧ U < 1 := by decide +kernel
theorem rel32 {q : Rat} {w : Nat} (h : Near single q w) (hf : Fin single w) (hq : cMin ≤ q) : (1 - U) * q ≤ val single w ∧ val single w ≤ (1 + U) * q := by
  have h0 : 0 < q := by have : (0 : Rat) < cMin := by { decide +kernel }
                        grind
  have e : (2 : Rat) ^ (-single.leastPlace) = (2 : Rat) ^ (149 : Int) := by rw [s_lp]; rfl
  have hb : (single.binade : Rat) = 8388608 := by have : single.binade = 8388608 := by { decide +kernel }
                                                  rw [this]; rfl
  have hc : (8388608 : Rat) ≤ cMin * (2 : Rat) ^ (149 : Int) := by decide +kernel
  have hn := near_rel single (inf_lt .f32) h hf h0 (by
    rw [e, hb]
    exact Rat.le_trans hc (Rat.mul_le_mul_of_nonneg_right hq (Rat.le_of_lt (pw_pos _))))
  rw [hb] at hn
  unfold U
  constructor <;> grind
set_option exponentiation.threshold 2000 in
theorem rel64 {q : Rat} {w : Nat} (h : Near double q w) (hf : Fin double w) (hq : cMin ≤ q) : (1 - U) * q ≤ val double w ∧ val double w ≤ (1 + U) * q := by
  have h0 : 0 < q := by have : (0 : Rat) < cMin := by { decide +kernel }
                        grind
  have e : (2 : Rat) ^ (-double.leastPlace) = (2 : Rat) ^ (1074 : Int) := by rw [d_lp]; rfl
  have hb : (double.binade : Rat) = 4503599627370496 := by have : double.binade = 4503599627370496 := by { decide +kernel }
                                                           rw [this]; rfl
  have hc : (4503599627370496 : Rat) ≤ cMin * (2 : Rat) ^ (1074 : Int) := by decide +kernel
  have hn := near_rel double (inf_lt .f64) h hf h0 (by
    rw [e, hb]
    exact Rat.le_trans hc (Rat.mul_le_mul_of_nonneg_right hq (Rat.le_of_lt (pw_pos _))))
  rw [hb] at hn
  unfold U
  constructor <;> grind
/-- the whole root -/
theorem rootFrom_spec (n : Nat) : ∀ todo root, root * root ≤ n → n < (root + 2 ^ todo) * (root + 2 ^ todo) → (Datum.rootFrom n todo root) * (Datum.rootFrom n todo root) ≤ n ∧ n < (Datum.rootFrom n todo root + 1) * (Datum.rootFrom n todo root + 1)
  | 0, root, h1, h2 => by unfold Datum.rootFrom; exact ⟨h1, by simpa using h2⟩
  | todo + 1, root, h1, h2 => by
    unfold Datum.rootFrom
    have hs : root + 1 <<< todo = root + 2 ^ todo := by rw [Nat.shiftLeft_eq, Nat.one_mul]
    simp only [hs]
    have hp : 2 ^ (todo + 1) = 2 ^ todo + 2 ^ todo := by rw [Nat.pow_succ]; omega
    rw [hp, ← Nat.add_assoc] at h2
    split
    · rename_i h3
      exact rootFrom_spec n todo _ h3 h2
    · rename_i h3
      exact rootFrom_spec n todo root h1 (by omega)
theorem root_bounds {n : Nat} : (Datum.rootFrom n (n.log2 / 2 + 1) 0) * (Datum.rootFrom n (n.log2 / 2 + 1) 0) ≤ n ∧ n < (Datum.rootFrom n (n.log2 / 2 + 1) 0 + 1) * (Datum.rootFrom n (n.log2 / 2 + 1) 0 + 1) := by
  refine rootFrom_spec n _ 0 (by omega) ?_
  rw [Nat.zero_add, ← Nat.pow_add]
  have h1 : n < 2 ^ (n.log2 + 1) := Nat.lt_log2_self
  exact Nat.lt_of_lt_of_le h1 (Nat.pow_le_pow_right (by decide) (by omega))
/-- the root of a number: its square is near -/
theorem root_sq {m : Nat} {i : Int} (hm : m ≠ 0) : ∃ M P, (Datum.number false m i).root 54 = some (.number false M P) ∧
    8388608 * (num false M P * num false M P - num false m i) ≤ num false m i ∧ 8388608 * (num false m i - num false M P * num false M P) ≤ num false m i := by
  obtain ⟨more0, h0⟩ : ∃ x, x = 2 * 54 - m.log2 := ⟨_, rfl⟩
  obtain ⟨more, hmo⟩ : ∃ x, x = more0 + ((i - (more0 : Int)) % 2).toNat := ⟨_, rfl⟩
  obtain ⟨n, hn⟩ : ∃ x, x = m <<< more := ⟨_, rfl⟩
  obtain ⟨W, hW⟩ : ∃ x, x = Datum.rootFrom n (n.log2 / 2 + 1) 0 := ⟨_, rfl⟩
  obtain ⟨e, he⟩ : ∃ x, x = (i - (more : Int)) / 2 := ⟨_, rfl⟩
  have heven : i - (more : Int) = e + e := by omega
  have hroot : (Datum.number false m i).root 54 = some (.number false (2 * W + (W * W != n).toNat) (e - 1)) := by
    unfold Datum.root
    simp only [if_neg hm]
    rw [← h0, ← hmo, ← hn, ← hW, ← he]
    rfl
  refine ⟨_, _, hroot, ?_⟩
  have hb := root_bounds (n := n)
  rw [← hW] at hb
  have hn2 : n = m * 2 ^ more := by rw [hn, Nat.shiftLeft_eq]
  have hbig : 2 ^ 108 ≤ n := by
    rw [hn2]
    have h1 : 2 ^ m.log2 ≤ m := Nat.log2_self_le hm
    have h2 : 2 ^ m.log2 * 2 ^ more ≤ m * 2 ^ more := Nat.mul_le_mul_right _ h1
    rw [← Nat.pow_add] at h2
    exact Nat.le_trans (Nat.pow_le_pow_right (by decide) (by omega)) h2
  have hWbig : 16777216 ≤ W := by
    rcases Nat.lt_or_ge W 16777216 with h | h
    · exfalso
      have h1 : (W + 1) * (W + 1) ≤ 16777216 * 16777216 := Nat.mul_le_mul h h
      have h2 : 16777216 * 16777216 < 2 ^ 108 := by decide
      omega
    · exact h
  have hval : num false m i = (n : Rat) * ((2 : Rat) ^ e * (2 : Rat) ^ e) := by
    have e1 : (m : Rat) * (2 : Rat) ^ ((more : Nat) : Int) * (2 : Rat) ^ (i - (more : Int)) = (m : Rat) * (2 : Rat) ^ i := by
      rw [Rat.mul_assoc, ← pw_add, show ((more : Nat) : Int) + (i - (more : Int)) = i by omega]
    rw [← pw_add, ← heven, hn2, Rat.natCast_mul, ← pw_nat, e1]
    unfold num sg
    simp
  obtain ⟨T, hT⟩ : ∃ T, T = (2 : Rat) ^ e * (2 : Rat) ^ e := ⟨_, rfl⟩
  have hTp : 0 ≤ T := by rw [hT]; exact Rat.mul_nonneg (Rat.le_of_lt (pw_pos _)) (Rat.le_of_lt (pw_pos _))
  have hhalf : (2 : Rat) ^ (e - 1) = (2 : Rat) ^ e * (1 / 2) := by
    rw [show e - 1 = e + -1 by omega, pw_add]
    have : (2 : Rat) ^ (-1 : Int) = 1 / 2 := by decide +kernel
    rw [this]
  obtain ⟨st, hst⟩ : ∃ st : Nat, st = (W * W != n).toNat := ⟨_, rfl⟩
  rw [← hst]
  have hsq : num false (2 * W + st) (e - 1) * num false (2 * W + st) (e - 1) = (((2 * W + st) * (2 * W + st) : Nat) : Rat) * (1 / 4) * T := by
    unfold num sg
    rw [hhalf, hT, Rat.natCast_mul]
    simp
    grind
  rw [hsq, hval, ← hT]
  -- in integers
  have key1 : 8388608 * ((2 * W + st) * (2 * W + st)) ≤ 8388608 * (4 * n) + 4 * n ∧ 8388608 * (4 * n) ≤ 8388608 * ((2 * W + st) * (2 * W + st)) + 4 * n := by
    have hWW : 16777216 * W ≤ W * W := Nat.mul_le_mul_right _ hWbig
    have hx : (W + 1) * (W + 1) = W * W + 2 * W + 1 := by rw [Nat.add_mul, Nat.mul_add]; omega
    by_cases hc : W * W = n
    · have : st = 0 := by rw [hst]; simp [hc]
      subst this
      have h4 : (2 * W + 0) * (2 * W + 0) = 4 * (W * W) := by rw [Nat.add_zero, Nat.mul_mul_mul_comm]
      rw [h4]; omega
    · have : st = 1 := by rw [hst]; simp [hc]
      subst this
      have h4 : (2 * W + 1) * (2 * W + 1) = 4 * (W * W) + 4 * W + 1 := by
        rw [Nat.add_mul, Nat.mul_add, Nat.mul_mul_mul_comm]; omega
      rw [h4]; omega
  obtain ⟨k1, k2⟩ := key1
  have r1 := nat_rat_le k1
  have r2 := nat_rat_le k2
  simp only [Rat.natCast_add, Rat.natCast_mul] at r1 r2
  have c8 : ((8388608 : Nat) : Rat) = 8388608 := rfl
  have c4 : ((4 : Nat) : Rat) = 4 := rfl
  have c2 : ((2 : Nat) : Rat) = 2 := rfl
  rw [c8, c4, c2] at r1 r2
  rw [Rat.natCast_mul, Rat.natCast_add, Rat.natCast_mul, c2]
  obtain ⟨Q, hQ⟩ : ∃ Q, Q = (2 * (W : Rat) + (st : Rat)) * (2 * (W : Rat) + (st : Rat)) := ⟨_, rfl⟩
  rw [← hQ] at r1 r2 ⊢
  have a1 : 8388608 * (Q * (1 / 4) - (n : Rat)) ≤ (n : Rat) := by grind
  have a2 : 8388608 * ((n : Rat) - Q * (1 / 4)) ≤ (n : Rat) := by grind
  have b1 := Rat.mul_le_mul_of_nonneg_right a1 hTp
  have b2 := Rat.mul_le_mul_of_nonneg_right a2 hTp
  constructor <;> grind
end Go.Proofs.Ytaocilimggpdjaa
