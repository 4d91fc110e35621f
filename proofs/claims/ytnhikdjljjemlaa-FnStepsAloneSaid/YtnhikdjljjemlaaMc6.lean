/- Joined texts 6: Rel Re2 Cl2 Ten Decay Suc WSum Ent Cl3 Sa1. Each is told at its own head. No condition. -/
import Derived.Deep.QuietTactic
import Derived.BigQuiet
import Derived.Test.YtnhikdjljjemlaaMc0
import Derived.Test.YtnhikdjljjemlaaMc1
import Derived.Test.YtnhikdjljjemlaaMc2
import Derived.Test.YtnhikdjljjemlaaMc3
import Derived.Test.YtnhikdjljjemlaaMc4
import Derived.Test.YtnhikdjljjemlaaMc5
/- Plain laws of floats: how far a result is from the true one, and roots. No condition. -/
namespace Go.Proofs.Ytnhikdjljjemlaa
open Go Ieee
set_option linter.unusedVariables false
set_option linter.unusedSimpArgs false
theorem near_rel (f : Format) (hI : f.infRung < f.signWeight) {q : Rat} {w : Nat} (h : Near f q w) (hf : Fin f w) (hq : 0 < q) (hn : (f.binade : Rat) ≤ q * (2 : Rat) ^ (-f.leastPlace)) :
    (f.binade : Rat) * (val f w - q) ≤ q ∧ (f.binade : Rat) * (q - val f w) ≤ q := by
  obtain ⟨s, r, e, hm, h1, h2⟩ := h
  obtain ⟨s0, r0, e0, hr⟩ := hf
  rw [e] at e0
  obtain ⟨rfl, rfl⟩ := word_inj (by have := hm.le; omega) (by omega) e0
  rw [h2 hq] at e
  have hv : val f w = (nval f r : Rat) * (2 : Rat) ^ f.leastPlace := by
    rw [e, val_word f false hr]; unfold sg; simp
  rw [rabs_pos (Rat.le_of_lt hq)] at hm
  obtain ⟨V, hV⟩ : ∃ V, V = q * (2 : Rat) ^ (-f.leastPlace) := ⟨_, rfl⟩
  rw [← hV] at hm hn
  have hB : (0 : Rat) ≤ f.binade := Rat.natCast_nonneg
  have hV0 : 0 ≤ V := Rat.le_trans hB hn
  have he := hm.err hr hV0
  have hP := pw_pos f.leastPlace
  have hq2 : q = V * (2 : Rat) ^ f.leastPlace := by rw [hV, units']
  have a1 : (f.binade : Rat) * ((nval f r : Rat) - V) ≤ V := by grind
  have a2 : (f.binade : Rat) * (V - (nval f r : Rat)) ≤ V := by grind
  have b1 := Rat.mul_le_mul_of_nonneg_right a1 (Rat.le_of_lt hP)
  have b2 := Rat.mul_le_mul_of_nonneg_right a2 (Rat.le_of_lt hP)
  rw [hv, hq2]
  constructor <;> grind
def U : Rat := 1 / 8388608
def cMin : Rat := 1 / 1099511627776
theorem U_pos : 0 < U ∧ U < 1 := by decide +kernel
theorem rel32 {q : Rat} {w : Nat} (h : Near single q w) (hf : Fin single w) (hq : cMin ≤ q) : (1 - U) * q ≤ val single w ∧ val single w ≤ (1 + U) * q := by
  have h0 : 0 < q := by have : (0 : Rat) < cMin := by { decide +kernel }
                        grind
  have e : (2 : Rat) ^ (-single.leastPlace) = (2 : Rat) ^ (149 : Int) := by rw [s_lp]; rfl
  have hb : (single.binade : Rat) = 8388608 := by have : single.binade = 8388608 := by { decide +kernel }
                                                  rw [this]; rfl
  have hc : (8388608 : Rat) ≤ cMin * (2 : Rat) ^ (149 : Int) := by decide +kernel
  have hn := near_rel single (inf_lt .f32) h hf h0 (by
    rw [e, hb]
    exact Rat.le_trans hc (Rat.mul_le_mul_of_nonneg_right hq (Rat.le_of_lt (pw_pos _))))
  rw [hb] at hn
  unfold U
  constructor <;> grind
set_option exponentiation.threshold 2000 in
theorem rel64 {q : Rat} {w : Nat} (h : Near double q w) (hf : Fin double w) (hq : cMin ≤ q) : (1 - U) * q ≤ val double w ∧ val double w ≤ (1 + U) * q := by
  have h0 : 0 < q := by have : (0 : Rat) < cMin := by { decide +kernel }
                        grind
  have e : (2 : Rat) ^ (-double.leastPlace) = (2 : Rat) ^ (1074 : Int) := by rw [d_lp]; rfl
  have hb : (double.binade : Rat) = 4503599627370496 := by have : double.binade = 4503599627370496 := by { decide +kernel }
                                                           rw [this]; rfl
  have hc : (4503599627370496 : Rat) ≤ cMin * (2 : Rat) ^ (1074 : Int) := by decide +kernel
  have hn := near_rel double (inf_lt .f64) h hf h0 (by
    rw [e, hb]
    exact Rat.le_trans hc (Rat.mul_le_mul_of_nonneg_right hq (Rat.le_of_lt (pw_pos _))))
  rw [hb] at hn
  unfold U
  constructor <;> grind
/-- the whole root -/
theorem rootFrom_spec (n : Nat) : ∀ todo root, root * root ≤ n → n < (root + 2 ^ todo) * (root + 2 ^ todo) → (Datum.rootFrom n todo root) * (Datum.rootFrom n todo root) ≤ n ∧ n < (Datum.rootFrom n todo root + 1) * (Datum.rootFrom n todo root + 1)
  | 0, root, h1, h2 => by unfold Datum.rootFrom; exact ⟨h1, by simpa using h2⟩
  | todo + 1, root, h1, h2 => by
    unfold Datum.rootFrom
    have hs : root + 1 <<< todo = root + 2 ^ todo := by rw [Nat.shiftLeft_eq, Nat.one_mul]
    simp only [hs]
    have hp : 2 ^ (todo + 1) = 2 ^ todo + 2 ^ todo := by rw [Nat.pow_succ]; omega
    rw [hp, ← Nat.add_assoc] at h2
    split
    · rename_i h3
      exact rootFrom_spec n todo _ h3 h2
    · rename_i h3
      exact rootFrom_spec n todo root h1 (by omega)
theorem root_bounds {n : Nat} : (Datum.rootFrom n (n.log2 / 2 + 1) 0) * (Datum.rootFrom n (n.log2 / 2 + 1) 0) ≤ n ∧ n < (Datum.rootFrom n (n.log2 / 2 + 1) 0 + 1) * (Datum.rootFrom n (n.log2 / 2 + 1) 0 + 1) := by
  refine rootFrom_spec n _ 0 (by omega) ?_
  rw [Nat.zero_add, ← Nat.pow_add]
  have h1 : n < 2 ^ (n.log2 + 1) := Nat.lt_log2_self
  exact Nat.lt_of_lt_of_le h1 (Nat.pow_le_pow_right (by decide) (by omega))
/-- the root of a number: its square is near -/
theorem root_sq {m : Nat} {i : Int} (hm : m ≠ 0) : ∃ M P, (Datum.number false m i).root 54 = some (.number false M P) ∧
    8388608 * (num false M P * num false M P - num false m i) ≤ num false m i ∧ 8388608 * (num false m i - num false M P * num false M P) ≤ num false m i := by
  obtain ⟨more0, h0⟩ : ∃ x, x = 2 * 54 - m.log2 := ⟨_, rfl⟩
  obtain ⟨more, hmo⟩ : ∃ x, x = more0 + ((i - (more0 : Int)) % 2).toNat := ⟨_, rfl⟩
  obtain ⟨n, hn⟩ : ∃ x, x = m <<< more := ⟨_, rfl⟩
  obtain ⟨W, hW⟩ : ∃ x, x = Datum.rootFrom n (n.log2 / 2 + 1) 0 := ⟨_, rfl⟩
  obtain ⟨e, he⟩ : ∃ x, x = (i - (more : Int)) / 2 := ⟨_, rfl⟩
  have heven : i - (more : Int) = e + e := by omega
  have hroot : (Datum.number false m i).root 54 = some (.number false (2 * W + (W * W != n).toNat) (e - 1)) := by
    unfold Datum.root
    simp only [if_neg hm]
    rw [← h0, ← hmo, ← hn, ← hW, ← he]
    rfl
  refine ⟨_, _, hroot, ?_⟩
  have hb := root_bounds (n := n)
  rw [← hW] at hb
  have hn2 : n = m * 2 ^ more := by rw [hn, Nat.shiftLeft_eq]
  have hbig : 2 ^ 108 ≤ n := by
    rw [hn2]
    have h1 : 2 ^ m.log2 ≤ m := Nat.log2_self_le hm
    have h2 : 2 ^ m.log2 * 2 ^ more ≤ m * 2 ^ more := Nat.mul_le_mul_right _ h1
    rw [← Nat.pow_add] at h2
    exact Nat.le_trans (Nat.pow_le_pow_right (by decide) (by omega)) h2
  have hWbig : 16777216 ≤ W := by
    rcases Nat.lt_or_ge W 16777216 with h | h
    · exfalso
      have h1 : (W + 1) * (W + 1) ≤ 16777216 * 16777216 := Nat.mul_le_mul h h
      have h2 : 16777216 * 16777216 < 2 ^ 108 := by decide
      omega
    · exact h
  have hval : num false m i = (n : Rat) * ((2 : Rat) ^ e * (2 : Rat) ^ e) := by
    have e1 : (m : Rat) * (2 : Rat) ^ ((more : Nat) : Int) * (2 : Rat) ^ (i - (more : Int)) = (m : Rat) * (2 : Rat) ^ i := by
      rw [Rat.mul_assoc, ← pw_add, show ((more : Nat) : Int) + (i - (more : Int)) = i by omega]
    rw [← pw_add, ← heven, hn2, Rat.natCast_mul, ← pw_nat, e1]
    unfold num sg
    simp
  obtain ⟨T, hT⟩ : ∃ T, T = (2 : Rat) ^ e * (2 : Rat) ^ e := ⟨_, rfl⟩
  have hTp : 0 ≤ T := by rw [hT]; exact Rat.mul_nonneg (Rat.le_of_lt (pw_pos _)) (Rat.le_of_lt (pw_pos _))
  have hhalf : (2 : Rat) ^ (e - 1) = (2 : Rat) ^ e * (1 / 2) := by
    rw [show e - 1 = e + -1 by omega, pw_add]
    have : (2 : Rat) ^ (-1 : Int) = 1 / 2 := by decide +kernel
    rw [this]
  obtain ⟨st, hst⟩ : ∃ st : Nat, st = (W * W != n).toNat := ⟨_, rfl⟩
  rw [← hst]
  have hsq : num false (2 * W + st) (e - 1) * num false (2 * W + st) (e - 1) = (((2 * W + st) * (2 * W + st) : Nat) : Rat) * (1 / 4) * T := by
    unfold num sg
    rw [hhalf, hT, Rat.natCast_mul]
    simp
    grind
  rw [hsq, hval, ← hT]
  -- in integers
  have key1 : 8388608 * ((2 * W + st) * (2 * W + st)) ≤ 8388608 * (4 * n) + 4 * n ∧ 8388608 * (4 * n) ≤ 8388608 * ((2 * W + st) * (2 * W + st)) + 4 * n := by
    have hWW : 16777216 * W ≤ W * W := Nat.mul_le_mul_right _ hWbig
    have hx : (W + 1) * (W + 1) = W * W + 2 * W + 1 := by rw [Nat.add_mul, Nat.mul_add]; omega
    by_cases hc : W * W = n
    · have : st = 0 := by rw [hst]; simp [hc]
      subst this
      have h4 : (2 * W + 0) * (2 * W + 0) = 4 * (W * W) := by rw [Nat.add_zero, Nat.mul_mul_mul_comm]
      rw [h4]; omega
    · have : st = 1 := by rw [hst]; simp [hc]
      subst this
      have h4 : (2 * W + 1) * (2 * W + 1) = 4 * (W * W) + 4 * W + 1 := by
        rw [Nat.add_mul, Nat.mul_add, Nat.mul_mul_mul_comm]; omega
      rw [h4]; omega
  obtain ⟨k1, k2⟩ := key1
  have r1 := nat_rat_le k1
  have r2 := nat_rat_le k2
  simp only [Rat.natCast_add, Rat.natCast_mul] at r1 r2
  have c8 : ((8388608 : Nat) : Rat) = 8388608 := rfl
  have c4 : ((4 : Nat) : Rat) = 4 := rfl
  have c2 : ((2 : Nat) : Rat) = 2 := rfl
  rw [c8, c4, c2] at r1 r2
  rw [Rat.natCast_mul, Rat.natCast_add, Rat.natCast_mul, c2]
  obtain ⟨Q, hQ⟩ : ∃ Q, Q = (2 * (W : Rat) + (st : Rat)) * (2 * (W : Rat) + (st : Rat)) := ⟨_, rfl⟩
  rw [← hQ] at r1 r2 ⊢
  have a1 : 8388608 * (Q * (1 / 4) - (n : Rat)) ≤ (n : Rat) := by grind
  have a2 : 8388608 * ((n : Rat) - Q * (1 / 4)) ≤ (n : Rat) := by grind
  have b1 := Rat.mul_le_mul_of_nonneg_right a1 hTp
  have b2 := Rat.mul_le_mul_of_nonneg_right a2 hTp
  constructor <;> grind
end Go.Proofs.Ytnhikdjljjemlaa
/- Plain laws of floats: roots and sums of squares are near the true ones. No condition. -/
namespace Go.Proofs.Ytnhikdjljjemlaa
open Go Ieee
set_option linter.unusedVariables false
set_option linter.unusedSimpArgs false
theorem sq_le {a b : Rat} (ha : 0 ≤ a) (hb : 0 ≤ b) (h : a * a ≤ b * b) : a ≤ b := by
  rcases rat_tri a b with h1 | h1 | h1
  · grind
  · grind
  · exfalso
    have h2 := Rat.mul_le_mul_of_nonneg_left (Rat.le_of_lt h1) hb
    have h3 : b * a < a * a := by
      have := Rat.mul_lt_mul_of_pos_right h1 (show (0 : Rat) < a by grind)
      exact this
    grind
theorem mul_mono {a b c d : Rat} (h1 : a ≤ b) (h2 : c ≤ d) (ha : 0 ≤ a) (hc : 0 ≤ c) : a * c ≤ b * d :=
  Rat.le_trans (Rat.mul_le_mul_of_nonneg_right h1 hc) (Rat.mul_le_mul_of_nonneg_left h2 (Rat.le_trans ha h1))
def cRoot : Rat := 1 / 68719476736
def hi5 : Rat := (1 + U) * (1 + U) * (1 + U) * (1 + U) * (1 + U)
def lo5 : Rat := (1 - U) * (1 - U) * (1 - U) * (1 - U) * (1 - U)
theorem U_le : (0 : Rat) ≤ 1 - U ∧ (0 : Rat) ≤ 1 + U := by decide +kernel
theorem near_num64 (M : Nat) (P : Int) : Near double (num false M P) (double.write (.number false M P)) := near_num double (by decide) false M P
theorem num_nonneg (M : Nat) (P : Int) : 0 ≤ num false M P := by
  unfold num sg
  have h := Rat.mul_nonneg (show (0 : Rat) ≤ (M : Rat) from Rat.natCast_nonneg) (Rat.le_of_lt (pw_pos P))
  simpa using h
/-- a root in 64 bits -/
theorem root_rel64 {y : Nat} (hy : Fin double y) (h1 : cRoot ≤ val double y) (h2 : val double y ≤ 1000000) : Fin double (fsq y) ∧ 1 / 4194304 ≤ val double (fsq y) ∧ val double (fsq y) ≤ 2000 ∧
    val double (fsq y) * val double (fsq y) ≤ (1 + U) * (1 + U) * (1 + U) * val double y ∧ (1 - U) * (1 - U) * (1 - U) * val double y ≤ val double (fsq y) * val double (fsq y) := by
  obtain ⟨s, m, i, e1, e2⟩ := hy.read
  have hc0 : (0 : Rat) < cRoot := by decide +kernel
  have hpos : 0 < num s m i := by rw [← e2]; grind
  have hs : s = false := by
    cases s
    · rfl
    · exfalso
      have h := num_nonneg m i
      have h3 : num true m i = -num false m i := by have := num_neg false m i; simpa using this
      rw [h3] at hpos; grind
  subst hs
  have hm : m ≠ 0 := num_ne (t := false) (n := m) (q := i) (by grind)
  obtain ⟨M, P, hr, k1, k2⟩ := root_sq (i := i) hm
  have hsq : fsq y = double.write (.number false M P) := by
    unfold fsq Format.sqrt
    rw [e1, show double.fractionBits + 2 = 54 from rfl, hr]
    rfl
  rw [hsq]
  obtain ⟨t, ht⟩ : ∃ t, t = num false M P := ⟨_, rfl⟩
  obtain ⟨Y, hY⟩ : ∃ Y, Y = val double y := ⟨_, rfl⟩
  rw [← e2, ← hY, ← ht] at k1 k2
  rw [← hY] at h1 h2 ⊢
  have ht0 : 0 ≤ t := by rw [ht]; exact num_nonneg M P
  have a1 : t * t ≤ (1 + U) * Y := by unfold U; grind
  have a2 : (1 - U) * Y ≤ t * t := by unfold U; grind
  have b1 : t ≤ 1999 := by
    refine sq_le ht0 (by decide +kernel) ?_
    have : (1 + U) * Y ≤ (1 + U) * 1000000 := Rat.mul_le_mul_of_nonneg_left h2 U_le.2
    have c : (1 + U) * 1000000 ≤ (1999 : Rat) * 1999 := by decide +kernel
    grind
  have b2 : 1 / 2097152 ≤ t := by
    refine sq_le (by decide +kernel) ht0 ?_
    have : (1 - U) * cRoot ≤ (1 - U) * Y := Rat.mul_le_mul_of_nonneg_left h1 U_le.1
    have c : (1 / 2097152 : Rat) * (1 / 2097152) ≤ (1 - U) * cRoot := by decide +kernel
    grind
  have hn := near_num64 M P
  rw [← ht] at hn
  have hbt : Btw .f64 0 1999 (double.write (.number false M P)) := near_btw (k := .f64) (a := 0) (b := 1999) (smallI_of (by decide) (by decide)) (smallI_of (by decide) (by decide)) ht0 b1 hn
  have hcm : cMin ≤ t := by have : cMin ≤ 1 / 2097152 := by { decide +kernel }
                            grind
  have hrel := rel64 hn hbt.fin hcm
  obtain ⟨w, hw⟩ : ∃ w, w = val double (double.write (.number false M P)) := ⟨_, rfl⟩
  rw [← hw] at hrel ⊢
  have hhi : w ≤ 1999 := by rw [hw]; exact hbt.hi
  have hlo0 : 0 ≤ (1 - U) * t := Rat.mul_nonneg U_le.1 ht0
  have hw0 : 0 ≤ w := by grind
  have s1 := mul_mono hrel.2 hrel.2 hw0 hw0
  have s2 := mul_mono hrel.1 hrel.1 hlo0 hlo0
  have u1 := Rat.mul_le_mul_of_nonneg_left a1 (show (0 : Rat) ≤ (1 + U) * (1 + U) by decide +kernel)
  have u2 := Rat.mul_le_mul_of_nonneg_left a2 (show (0 : Rat) ≤ (1 - U) * (1 - U) by decide +kernel)
  refine ⟨hbt.fin, ?_, ?_, ?_, ?_⟩
  · have : (1 - U) * (1 / 2097152) ≤ (1 - U) * t := Rat.mul_le_mul_of_nonneg_left b2 U_le.1
    have c : (1 / 4194304 : Rat) ≤ (1 - U) * (1 / 2097152) := by decide +kernel
    grind
  · have : (1999 : Rat) ≤ 2000 := by decide +kernel
    grind
  · grind
  · grind
/-- a root in 32 bits -/
theorem root_rel {x : Nat} (hx : Fin single x) (h1 : cRoot ≤ val single x) (h2 : val single x ≤ 1000000) : Fin single (rootE x) ∧ 1 / 8388608 ≤ val single (rootE x) ∧ val single (rootE x) ≤ 2001 ∧
    val single (rootE x) * val single (rootE x) ≤ hi5 * val single x ∧ lo5 * val single x ≤ val single (rootE x) * val single (rootE x) := by
  have hw := wide_val hx
  obtain ⟨f, l1, l2, l3, l4⟩ := root_rel64 hw.1 (by rw [hw.2]; exact h1) (by rw [hw.2]; exact h2)
  rw [hw.2] at l3 l4
  have e : rootE x = fcv .f64 (fsq (fcv .f32 x .f64)) .f32 := rfl
  rw [e]
  obtain ⟨r, hr⟩ : ∃ r, r = fsq (fcv .f32 x .f64) := ⟨_, rfl⟩
  rw [← hr] at f l1 l2 l3 l4 ⊢
  obtain ⟨ρ, hρ⟩ : ∃ ρ, ρ = val double r := ⟨_, rfl⟩
  obtain ⟨Y, hY⟩ : ∃ Y, Y = val single x := ⟨_, rfl⟩
  have hn := narrow_near f
  rw [← hρ] at l1 l2 l3 l4 hn
  rw [← hY] at l3 l4 ⊢
  have r0 : 0 ≤ ρ := by have : (0 : Rat) ≤ 1 / 4194304 := by { decide +kernel }
                        grind
  have hbt : Btw .f32 0 2000 (fcv .f64 r .f32) := near_btw (k := .f32) (a := 0) (b := 2000) (smallI_of (by decide) (by decide)) (smallI_of (by decide) (by decide)) r0 l2 hn
  have hcm : cMin ≤ ρ := by have : cMin ≤ 1 / 4194304 := by { decide +kernel }
                            grind
  have hrel := rel32 hn hbt.fin hcm
  obtain ⟨w, hw2⟩ : ∃ w, w = val single (fcv .f64 r .f32) := ⟨_, rfl⟩
  rw [← hw2] at hrel ⊢
  have hhi : w ≤ 2000 := by rw [hw2]; exact hbt.hi
  have hlo0 : 0 ≤ (1 - U) * ρ := Rat.mul_nonneg U_le.1 r0
  have hw0 : 0 ≤ w := by grind
  have s1 := mul_mono hrel.2 hrel.2 hw0 hw0
  have s2 := mul_mono hrel.1 hrel.1 hlo0 hlo0
  have u1 := Rat.mul_le_mul_of_nonneg_left l3 (show (0 : Rat) ≤ (1 + U) * (1 + U) by decide +kernel)
  have u2 := Rat.mul_le_mul_of_nonneg_left l4 (show (0 : Rat) ≤ (1 - U) * (1 - U) by decide +kernel)
  refine ⟨hbt.fin, ?_, ?_, ?_, ?_⟩
  · have : (1 - U) * (1 / 4194304) ≤ (1 - U) * ρ := Rat.mul_le_mul_of_nonneg_left l1 U_le.1
    have c : (1 / 8388608 : Rat) ≤ (1 - U) * (1 / 4194304) := by decide +kernel
    grind
  · have : (2000 : Rat) ≤ 2001 := by decide +kernel
    grind
  · unfold hi5; grind
  · unfold lo5; grind
/-- powers -/
def rp (c : Rat) : Nat → Rat
  | 0 => 1
  | k + 1 => rp c k * c
theorem rp_nonneg {c : Rat} (h : 0 ≤ c) : ∀ k, 0 ≤ rp c k
  | 0 => by unfold rp; decide +kernel
  | k + 1 => Rat.mul_nonneg (rp_nonneg h k) h
theorem rp_up : ∀ k, 1 ≤ rp (1 + U) k
  | 0 => by unfold rp; decide +kernel
  | k + 1 => by
    have ih := rp_up k
    have h := mul_mono ih (show (1 : Rat) ≤ 1 + U by decide +kernel) (by decide +kernel) (by decide +kernel)
    unfold rp; grind
theorem rp_down : ∀ k, rp (1 - U) k ≤ 1
  | 0 => by unfold rp; decide +kernel
  | k + 1 => by
    have ih := rp_down k
    have h := mul_mono ih (show (1 : Rat) - U ≤ 1 by decide +kernel) (rp_nonneg U_le.1 k) U_le.1
    unfold rp; grind
theorem rp_half : ∀ k, k ≤ 12 → 1 / 2 ≤ rp (1 - U) k := by decide +kernel
/-- a product, squared -/
theorem rel32_sq {q : Rat} {w : Nat} (h : Near single q w) (hf : Fin single w) (hq : cMin * cMin ≤ q * q) : val single w * val single w ≤ (1 + U) * (1 + U) * (q * q) ∧ (1 - U) * (1 - U) * (q * q) ≤ val single w * val single w := by
  have hc : (0 : Rat) < cMin := by decide +kernel
  obtain ⟨s, r, e, hm, h1, h2⟩ := h
  have hqa : rabs q * rabs q = q * q := by unfold rabs; split <;> grind
  have hq0 : cMin ≤ rabs q := by
    refine sq_le (Rat.le_of_lt hc) (rabs_nonneg q) ?_
    rw [hqa]; exact hq
  have hpos : 0 < rabs q := by grind
  have hn2 : Near single (rabs q) (single.word false r) := by
    refine ⟨false, r, rfl, ?_, fun h3 => ?_, fun _ => rfl⟩
    · rw [rabs_pos (Rat.le_of_lt hpos)]; exact hm
    · grind
  obtain ⟨s0, r0, e0, hr⟩ := hf
  rw [e] at e0
  obtain ⟨rfl, rfl⟩ := word_inj (by have := hm.le; have := inf_lt .f32; exact Nat.lt_of_le_of_lt hm.le this) (Nat.lt_trans hr (inf_lt .f32)) e0
  have hr2 := rel32 hn2 ⟨false, r, rfl, hr⟩ hq0
  have hv : val single w * val single w = val single (single.word false r) * val single (single.word false r) := by
    rw [e, val_word single s hr, val_word single false hr]
    have := sg_sq s
    unfold sg at *
    cases s <;> simp <;> grind
  rw [hv]
  have hlo0 : 0 ≤ (1 - U) * rabs q := Rat.mul_nonneg U_le.1 (rabs_nonneg q)
  have hw0 : 0 ≤ val single (single.word false r) := by grind
  have s1 := mul_mono hr2.2 hr2.2 hw0 hw0
  have s2 := mul_mono hr2.1 hr2.1 hlo0 hlo0
  rw [← hqa]
  constructor <;> grind
/-- sums of squares -/
def sqS (G : List Nat) : Nat → Rat
  | 0 => 0
  | k + 1 => sqS G k + val single (G.getD k 0) * val single (G.getD k 0)
def cSq : Rat := 1 / 1073741824
def okN (x : Nat) : Prop := Fin single x ∧ (val single x * val single x = 0 ∨ cSq ≤ val single x * val single x) ∧ val single x * val single x ≤ 100
theorem sqS_nonneg {G : List Nat} (h : ∀ i, okN (G.getD i 0)) : ∀ k, 0 ≤ sqS G k ∧ (sqS G k = 0 ∨ cSq ≤ sqS G k) ∧ sqS G k ≤ 100 * (k : Rat)
  | 0 => by unfold sqS; exact ⟨Rat.le_refl, .inl rfl, by simp⟩
  | k + 1 => by
    obtain ⟨h1, h2, h3⟩ := sqS_nonneg h k
    obtain ⟨_, h4, h5⟩ := h k
    have hc : (0 : Rat) < cSq := by decide +kernel
    have e : ((k + 1 : Nat) : Rat) = (k : Rat) + 1 := by rw [Rat.natCast_add]; rfl
    have h6 : (0 : Rat) ≤ val single (G.getD k 0) * val single (G.getD k 0) := by rcases h4 with h | h <;> grind
    unfold sqS
    rw [e]
    refine ⟨by grind, ?_, by grind⟩
    rcases h2 with h2 | h2 <;> rcases h4 with h4 | h4
    · left; grind
    · right; grind
    · right; grind
    · right; grind
theorem dot_end {S A q w lo hi : Rat} (h1 : (1 - U) * q ≤ w) (h2 : w ≤ (1 + U) * q) (q1 : q ≤ hi * (S + A)) (q2 : lo * (S + A) ≤ q) (q0 : 0 ≤ q) : 0 ≤ w ∧ w ≤ hi * (1 + U) * (S + A) ∧ lo * (1 - U) * (S + A) ≤ w := by
  have e1 : hi * (1 + U) * (S + A) = (1 + U) * (hi * (S + A)) := by grind
  have e2 : lo * (1 - U) * (S + A) = (1 - U) * (lo * (S + A)) := by grind
  rw [e1, e2]
  exact ⟨Rat.le_trans (Rat.mul_nonneg U_le.1 q0) h1, Rat.le_trans h2 (Rat.mul_le_mul_of_nonneg_left q1 U_le.2), Rat.le_trans (Rat.mul_le_mul_of_nonneg_left q2 U_le.1) h1⟩
theorem dot_ge {S A c : Rat} (hS : 0 ≤ S) (hA : 0 ≤ A) (s1 : S = 0 ∨ c ≤ S) (g2 : A = 0 ∨ c ≤ A) (hz : ¬ S + A = 0) : c ≤ S + A := by
  rcases s1 with h1 | h1
  · rcases g2 with h2 | h2
    · exact absurd (by rw [h1, h2]; exact Rat.add_zero 0) hz
    · rw [h1]; grind
  · grind
theorem dot_qc {S q lo : Rat} (hS : 0 ≤ S) (hl : 1 / 2 ≤ lo) (hc : cSq ≤ S) (q2 : lo * S ≤ q) : cMin ≤ q := by
  have h1 : (1 / 2 : Rat) * S ≤ lo * S := Rat.mul_le_mul_of_nonneg_right hl hS
  have h3 : (1 / 2 : Rat) * cSq ≤ 1 / 2 * S := Rat.mul_le_mul_of_nonneg_left hc (by decide +kernel)
  have h2 : cMin ≤ 1 / 2 * cSq := by decide +kernel
  exact Rat.le_trans h2 (Rat.le_trans h3 (Rat.le_trans h1 q2))
set_option maxHeartbeats 4000000 in
theorem dot_rel {G : List Nat} (h : ∀ i, okN (G.getD i 0)) : ∀ k : Nat, k ≤ 8 → Fin single (dotS G G k) ∧ 0 ≤ val single (dotS G G k) ∧ val single (dotS G G k) ≤ rp (1 + U) (k + 1) * sqS G k ∧ rp (1 - U) (k + 1) * sqS G k ≤ val single (dotS G G k)
  | 0, _ => by
    unfold sqS
    show Fin single 0 ∧ 0 ≤ val single 0 ∧ val single 0 ≤ _ ∧ _ ≤ val single 0
    rw [zero_fin.2]
    exact ⟨zero_fin.1, Rat.le_refl, by simp, by simp⟩
  | k + 1, hk => by
    obtain ⟨f1, d0, d1, d2⟩ := dot_rel h k (by omega)
    obtain ⟨g1, g2, g3⟩ := h k
    obtain ⟨s0, s1, s2⟩ := sqS_nonneg h k
    obtain ⟨x, hx⟩ : ∃ x, x = G.getD k 0 := ⟨_, rfl⟩
    obtain ⟨A, hA⟩ : ∃ A, A = val single x * val single x := ⟨_, rfl⟩
    rw [← hx] at g1 g2 g3
    rw [← hA] at g2 g3
    have hc : (0 : Rat) < cSq := by decide +kernel
    have hA0 : 0 ≤ A := by rcases g2 with h | h <;> grind
    -- the product
    have hn := fop_mul (k := .f32) g1 g1
    have hp : Fin single (fop .mul .f32 x x) ∧ val single (fop .mul .f32 x x) ≤ (1 + U) * A ∧ (1 - U) * A ≤ val single (fop .mul .f32 x x) ∧ (A = 0 → val single (fop .mul .f32 x x) = 0) := by
      have hn' : Near single A (fop .mul .f32 x x) := by rw [hA]; exact hn
      have hb : Btw .f32 0 100 (fop .mul .f32 x x) := near_btw (k := .f32) (a := 0) (b := 100) (smallI_of (by decide) (by decide)) (smallI_of (by decide) (by decide)) hA0 g3 hn'
      rcases g2 with h | h
      · rw [h] at hn'
        have hz := Near.int32 (n := 0) hn' (by decide)
        have hz2 : val single (fop .mul .f32 x x) = 0 := hz.2
        refine ⟨hb.fin, ?_, ?_, fun _ => hz2⟩ <;> rw [hz2, h] <;> simp
      · have hr := rel32 hn' hb.fin (by have : cMin ≤ cSq := by { decide +kernel }
                                        grind)
        exact ⟨hb.fin, hr.2, hr.1, fun h0 => by rw [h0] at h; grind⟩
    obtain ⟨pf, p1, p2, p3⟩ := hp
    obtain ⟨p, hpp⟩ : ∃ p, p = fop .mul .f32 x x := ⟨_, rfl⟩
    obtain ⟨d, hd⟩ : ∃ d, d = dotS G G k := ⟨_, rfl⟩
    have ed : dotS G G (k + 1) = fop .add .f32 d p := by rw [hd, hpp, hx]; rfl
    have es : sqS G (k + 1) = sqS G k + A := by rw [hA, hx]; rfl
    rw [← hpp] at pf p1 p2 p3
    rw [← hd] at f1 d0 d1 d2
    rw [ed, es]
    obtain ⟨S, hS⟩ : ∃ S, S = sqS G k := ⟨_, rfl⟩
    rw [← hS] at s0 s1 s2 d1 d2 ⊢
    obtain ⟨hi, hhi⟩ : ∃ c, c = rp (1 + U) (k + 1) := ⟨_, rfl⟩
    obtain ⟨lo, hlo⟩ : ∃ c, c = rp (1 - U) (k + 1) := ⟨_, rfl⟩
    have ehi : rp (1 + U) (k + 1 + 1) = hi * (1 + U) := by rw [hhi]; rfl
    have elo : rp (1 - U) (k + 1 + 1) = lo * (1 - U) := by rw [hlo]; rfl
    rw [ehi, elo]
    rw [← hhi] at d1
    rw [← hlo] at d2
    have hi1 : 1 + U ≤ hi := by
      rw [hhi]
      have h1 := rp_up k
      have h2 := Rat.mul_le_mul_of_nonneg_right h1 U_le.2
      show 1 + U ≤ rp (1 + U) k * (1 + U)
      grind
    have lo1 : lo ≤ 1 - U := by
      rw [hlo]
      have h1 := rp_down k
      have h2 := Rat.mul_le_mul_of_nonneg_right h1 U_le.1
      show rp (1 - U) k * (1 - U) ≤ 1 - U
      grind
    have lo0 : 1 / 2 ≤ lo := by rw [hlo]; exact rp_half (k + 1) (by omega)
    have hi2 : hi ≤ 2 := by
      rw [hhi]
      have : ∀ j, j ≤ 9 → rp (1 + U) j ≤ 2 := by decide +kernel
      exact this (k + 1) (by omega)
    have q1 : val single d + val single p ≤ hi * (S + A) := by
      have := Rat.mul_le_mul_of_nonneg_right hi1 hA0
      grind
    have q2 : lo * (S + A) ≤ val single d + val single p := by
      have := Rat.mul_le_mul_of_nonneg_right lo1 hA0
      grind
    have hp0 : 0 ≤ val single p := by have := Rat.mul_nonneg U_le.1 hA0; grind
    have hns := fop_add (k := .f32) f1 pf
    obtain ⟨q, hq⟩ : ∃ q, q = val single d + val single p := ⟨_, rfl⟩
    have hns' : Near single q (fop .add .f32 d p) := by rw [hq]; exact hns
    rw [← hq] at q1 q2
    have hq0 : 0 ≤ q := by grind
    have hSA : S + A ≤ 100 * ((k : Rat) + 1) := by grind
    have hk8 : (k : Rat) ≤ 8 := by have : ((k : Nat) : Rat) ≤ ((8 : Nat) : Rat) := nat_rat_le (by omega)
                                   exact this
    have hqb : q ≤ 2000 := by
      have h1 : hi * (S + A) ≤ 2 * (S + A) := Rat.mul_le_mul_of_nonneg_right hi2 (by grind)
      grind
    have hb : Btw .f32 0 2000 (fop .add .f32 d p) := near_btw (k := .f32) (a := 0) (b := 2000) (smallI_of (by decide) (by decide)) (smallI_of (by decide) (by decide)) hq0 hqb hns'
    have hSA0 : 0 ≤ S + A := by grind
    by_cases hz : S + A = 0
    · rw [hz] at q1 q2 ⊢
      have hqz : q = 0 := by grind
      rw [hqz] at hns'
      have hv := (Near.int32 (n := 0) hns' (by decide)).2
      have hv2 : val single (fop .add .f32 d p) = 0 := hv
      refine ⟨hb.fin, ?_, ?_, ?_⟩ <;> rw [hv2] <;> simp
    · have hge : cSq ≤ S + A := dot_ge s0 hA0 s1 g2 hz
      have hqc : cMin ≤ q := dot_qc hSA0 lo0 hge q2
      have hr := rel32 hns' hb.fin hqc
      exact ⟨hb.fin, dot_end hr.1 hr.2 q1 q2 hq0⟩
end Go.Proofs.Ytnhikdjljjemlaa
/- Plain laws of clipping: the length behind it is nearly the greatest one at most. No condition. -/
namespace Go.Proofs.Ytnhikdjljjemlaa
open Go Ieee
set_option linter.unusedVariables false
set_option linter.unusedSimpArgs false
theorem okN_zero : okN 0 := ⟨zero_fin.1, .inl (by rw [zero_fin.2]; decide +kernel), by rw [zero_fin.2]; decide +kernel⟩
theorem word_zero {x : Nat} (hx : Fin single x) (h : val single x = 0) : x = 0 ∨ x = 2147483648 := by
  obtain ⟨s, r, rfl, hr⟩ := hx
  rw [val_word single s hr] at h
  have h1 : nval single r = 0 := by
    rcases Nat.eq_zero_or_pos (nval single r) with h2 | h2
    · exact h2
    · exfalso
      have h3 : (0 : Rat) < (nval single r : Rat) := by have := nat_rat_lt h2; simpa using this
      have h4 := Rat.mul_pos h3 (pw_pos single.leastPlace)
      cases s <;> unfold sg at h <;> simp at h <;> grind
  have h2 : r = 0 := by
    rcases Nat.eq_zero_or_pos r with h3 | h3
    · exact h3
    · have := nval_lt (f := single) h3
      rw [nval_zero] at this; omega
  subst h2
  cases s
  · left; rfl
  · right; decide +kernel
theorem m0_fin : Fin single 2147483648 ∧ val single 2147483648 = 0 := by
  have e : single.word true 0 = 2147483648 := by decide +kernel
  have hr : 0 < single.infRung := by rw [s_ir]; decide
  have h := val_word single true (r := 0) hr
  rw [e, nval_zero] at h
  exact ⟨⟨true, 0, e.symm, hr⟩, by rw [h]; simp⟩
theorem root_zero {x : Nat} (hx : Fin single x) (h : val single x = 0) : Fin single (rootE x) ∧ val single (rootE x) = 0 := by
  rcases word_zero hx h with rfl | rfl
  · rw [show rootE 0 = 0 by decide +kernel]; exact zero_fin
  · rw [show rootE 2147483648 = 2147483648 by decide +kernel]; exact m0_fin
theorem rp_two : ∀ j, j ≤ 9 → rp (1 + U) j ≤ 1000001 / 1000000 * (1001 / 1000) := by decide +kernel
theorem hi5_le : hi5 ≤ 1001 / 1000 ∧ 0 ≤ hi5 ∧ 0 ≤ lo5 ∧ lo5 ≤ 1 ∧ 999 / 1000 ≤ lo5 := by decide +kernel
set_option maxHeartbeats 4000000 in
/-- a length -/
theorem len_rel {X : List Nat} (h : ∀ i, okN (X.getD i 0)) {n : Nat} (hn : n ≤ 8) : Fin single (clR X n) ∧ 0 ≤ val single (clR X n) ∧
    val single (clR X n) * val single (clR X n) ≤ hi5 * (rp (1 + U) (n + 1) * sqS X n) ∧ lo5 * (rp (1 - U) (n + 1) * sqS X n) ≤ val single (clR X n) * val single (clR X n) := by
  obtain ⟨f, d0, d1, d2⟩ := dot_rel h n hn
  obtain ⟨s0, s1, s2⟩ := sqS_nonneg h n
  have e : clR X n = rootE (dotS X X n) := rfl
  rw [e]
  obtain ⟨D, hD⟩ : ∃ D, D = dotS X X n := ⟨_, rfl⟩
  rw [← hD] at f d0 d1 d2 ⊢
  obtain ⟨S, hS⟩ : ∃ S, S = sqS X n := ⟨_, rfl⟩
  rw [← hS] at s0 s1 s2 d1 d2 ⊢
  have lo0 := rp_half (n + 1) (by omega)
  have hi2 := rp_two (n + 1) (by omega)
  have hup := rp_up (n + 1)
  obtain ⟨hi, hhi⟩ : ∃ c, c = rp (1 + U) (n + 1) := ⟨_, rfl⟩
  obtain ⟨lo, hlo⟩ : ∃ c, c = rp (1 - U) (n + 1) := ⟨_, rfl⟩
  rw [← hhi] at d1 hi2 hup ⊢
  rw [← hlo] at d2 lo0 ⊢
  have h5 := hi5_le
  rcases s1 with s1 | s1
  · rw [s1] at d1 d2 ⊢
    have hz : val single D = 0 := by grind
    obtain ⟨f2, v2⟩ := root_zero f hz
    rw [v2]
    exact ⟨f2, Rat.le_refl, by simp, by simp⟩
  · have hc : cRoot ≤ val single D := by
      have a : (1 / 2 : Rat) * S ≤ lo * S := Rat.mul_le_mul_of_nonneg_right lo0 s0
      have b : cRoot ≤ 1 / 2 * cSq := by decide +kernel
      grind
    have hk8 : (n : Rat) ≤ 8 := by have : ((n : Nat) : Rat) ≤ ((8 : Nat) : Rat) := nat_rat_le hn
                                   exact this
    have hb : val single D ≤ 1000000 := by
      have a : hi * S ≤ 2 * S := Rat.mul_le_mul_of_nonneg_right (by have : (1000001 / 1000000 : Rat) * (1001 / 1000) ≤ 2 := by { decide +kernel }
                                                                    grind) s0
      grind
    obtain ⟨f2, l1, l2, l3, l4⟩ := root_rel f hc hb
    have u1 := Rat.mul_le_mul_of_nonneg_left d1 h5.2.1
    have u2 := Rat.mul_le_mul_of_nonneg_left d2 h5.2.2.1
    have l0 : (0 : Rat) ≤ 1 / 8388608 := by decide +kernel
    exact ⟨f2, by grind, by grind, by grind⟩
def cLim : Rat := 1000009 / 1000000
theorem lim_ok : ∀ n, n ≤ 8 → hi5 * rp (1 + U) (n + 1) * ((1 + U) * (1 + U)) * ((1 + U) * (1 + U)) ≤ cLim * cLim * (lo5 * rp (1 - U) (n + 1)) ∧ 0 < lo5 * rp (1 - U) (n + 1) ∧ 0 ≤ hi5 * rp (1 + U) (n + 1) := by decide +kernel
def okG (x : Nat) : Prop := Fin single x ∧ (val single x * val single x = 0 ∨ 1 / 256 ≤ val single x * val single x) ∧ val single x * val single x ≤ 90
theorem okG.ok {x : Nat} (h : okG x) : okN x := by
  obtain ⟨h1, h2, h3⟩ := h
  refine ⟨h1, ?_, by grind⟩
  rcases h2 with h2 | h2
  · exact .inl h2
  · have : cSq ≤ 1 / 256 := by decide +kernel
    exact .inr (by grind)
theorem sqS_le90 {G : List Nat} (h : ∀ i, okG (G.getD i 0)) : ∀ k : Nat, sqS G k ≤ 90 * (k : Rat)
  | 0 => by unfold sqS; simp
  | k + 1 => by
    have ih := sqS_le90 h k
    have e : ((k + 1 : Nat) : Rat) = (k : Rat) + 1 := by rw [Rat.natCast_add]; rfl
    have := (h k).2.2
    unfold sqS
    rw [e]; grind
theorem clZ {K S lam β M : Rat} (l2 : K * S ≤ lam * lam) (hb : 0 ≤ β * β) (h : (β * lam) * (β * lam) ≤ ((1 + U) * M) * ((1 + U) * M)) : K * (β * β * S) ≤ (1 + U) * (1 + U) * (M * M) := by
  have a := Rat.mul_le_mul_of_nonneg_left l2 hb
  have e1 : K * (β * β * S) = β * β * (K * S) := by grind
  have e2 : β * β * (lam * lam) = (β * lam) * (β * lam) := by grind
  have e3 : (1 + U) * (1 + U) * (M * M) = ((1 + U) * M) * ((1 + U) * M) := by grind
  rw [e2] at a
  rw [e1, e3]; exact Rat.le_trans a h
theorem clL {L H Q β S : Rat} (m1 : L ≤ H * Q) (hs : Q ≤ (1 + U) * (1 + U) * (β * β) * S) (n3 : 0 ≤ H) : L ≤ H * ((1 + U) * (1 + U)) * (β * β * S) := by
  have a := Rat.mul_le_mul_of_nonneg_left hs n3
  have e1 : H * ((1 + U) * (1 + U)) * (β * β * S) = H * ((1 + U) * (1 + U) * (β * β) * S) := by grind
  rw [e1]; exact Rat.le_trans m1 a
theorem sq_prod (a b : Rat) : a * b * (a * b) = a * a * (b * b) := by grind
theorem cl_bl {β q lam M c : Rat} (h : β ≤ c * q) (hl : q * lam = M) (l0 : 0 ≤ lam) : β * lam ≤ c * M := by
  have a := Rat.mul_le_mul_of_nonneg_right h l0
  rw [Rat.mul_assoc, hl] at a; exact a
theorem le_of_mul {K a b : Rat} (hK : 0 < K) (h : K * a ≤ K * b) : a ≤ b := by
  rcases rat_tri a b with h1 | h1 | h1
  · exact Rat.le_of_lt h1
  · rw [h1]; exact Rat.le_refl
  · exfalso
    have := Rat.mul_lt_mul_of_pos_left h1 hK
    exact absurd h (Rat.not_le.mpr this)
theorem clF {K L H Z M2 C : Rat} (hL : L ≤ H * ((1 + U) * (1 + U)) * Z) (hZ : K * Z ≤ (1 + U) * (1 + U) * M2) (n1 : H * ((1 + U) * (1 + U)) * ((1 + U) * (1 + U)) ≤ C * K) (hK : 0 ≤ K) (hH : 0 ≤ H) (hM : 0 ≤ M2) : K * L ≤ K * (C * M2) := by
  have a := Rat.mul_le_mul_of_nonneg_left hL hK
  have d := Rat.mul_le_mul_of_nonneg_left hZ (show 0 ≤ H * ((1 + U) * (1 + U)) from Rat.mul_nonneg hH (by decide +kernel))
  have e := Rat.mul_le_mul_of_nonneg_right n1 hM
  have e1 : K * (H * ((1 + U) * (1 + U)) * Z) = H * ((1 + U) * (1 + U)) * (K * Z) := by grind
  have e2 : H * ((1 + U) * (1 + U)) * ((1 + U) * (1 + U) * M2) = H * ((1 + U) * (1 + U)) * ((1 + U) * (1 + U)) * M2 := by grind
  have e3 : C * K * M2 = K * (C * M2) := by grind
  rw [e1] at a; rw [e2] at d; rw [e3] at e
  exact Rat.le_trans a (Rat.le_trans d e)
set_option maxHeartbeats 8000000 in
/-- a length that is greater than the greatest one is clipped -/
theorem clip_bound {X : List Nat} (h : ∀ i, okG (X.getD i 0)) {n : Nat} (hn : n ≤ 8) {c : Nat} (hc : Fin single c) (c1 : 1 / 8 ≤ val single c) (hgt : val single c < val single (clR X n)) :
    (∀ i, okN ((listOf n (clG c X n)).getD i 0)) ∧ val single (clR (listOf n (clG c X n)) n) ≤ cLim * val single c := by
  have hcc : cn .f32 c = c := cn_not (Fin.not (k := .f32) hc)
  obtain ⟨f, l0, l1, l2⟩ := len_rel (fun i => (h i).ok) hn
  have s90 := sqS_le90 h n
  obtain ⟨s0, s1, _⟩ := sqS_nonneg (fun i => (h i).ok) n
  obtain ⟨l, hl⟩ : ∃ l, l = clR X n := ⟨_, rfl⟩
  have hG : ∀ i, clG c X n i = fop .mul .f32 (X.getD i 0) (fop .quo .f32 c l) := by intro i; unfold clG; rw [hcc, hl]
  rw [← hl] at f l0 l1 l2 hgt
  obtain ⟨lam, hlam⟩ : ∃ x, x = val single l := ⟨_, rfl⟩
  obtain ⟨M, hM⟩ : ∃ x, x = val single c := ⟨_, rfl⟩
  obtain ⟨S, hS⟩ : ∃ x, x = sqS X n := ⟨_, rfl⟩
  rw [← hlam] at l0 l1 l2 hgt
  rw [← hM] at c1 hgt ⊢
  rw [← hS] at l1 l2 s90 s0 s1
  have hk8 : (n : Rat) ≤ 8 := by have : ((n : Nat) : Rat) ≤ ((8 : Nat) : Rat) := nat_rat_le hn
                                 exact this
  have hM0 : 0 < M := by have : (0 : Rat) < 1 / 8 := by { decide +kernel }
                         grind
  have hlpos : 0 < lam := by grind
  have hl39 : lam ≤ 39 := by
    refine sq_le l0 (by decide +kernel) ?_
    have a := rp_two (n + 1) (by omega)
    have h5 := hi5_le
    have b : rp (1 + U) (n + 1) * S ≤ (1000001 / 1000000 * (1001 / 1000)) * 720 := mul_mono a (by grind) (rp_nonneg U_le.2 _) s0
    have d : hi5 * (rp (1 + U) (n + 1) * S) ≤ (1001 / 1000) * ((1000001 / 1000000 * (1001 / 1000)) * 720) := mul_mono h5.1 b h5.2.1 (Rat.mul_nonneg (rp_nonneg U_le.2 _) s0)
    have e : (1001 / 1000 : Rat) * ((1000001 / 1000000 * (1001 / 1000)) * 720) ≤ 39 * 39 := by decide +kernel
    grind
  -- the factor
  have hquo := fop_quo (k := .f32) hc f (by show val single l ≠ 0; rw [← hlam]; grind)
  obtain ⟨b, hb⟩ : ∃ b, b = fop .quo .f32 c l := ⟨_, rfl⟩
  rw [← hb] at hquo hG
  obtain ⟨q, hq⟩ : ∃ q, q = M / lam := ⟨_, rfl⟩
  have hquo' : Near single q b := by rw [hq, hM, hlam]; exact hquo
  have hql : q * lam = M := by rw [hq]; exact Rat.div_mul_cancel (by grind)
  have hq0 : 0 ≤ q := by
    rcases rat_tri q 0 with h1 | h1 | h1
    · exfalso
      have := Rat.mul_le_mul_of_nonneg_right (Rat.le_of_lt h1) l0
      grind
    · grind
    · grind
  have hq1 : q ≤ 1 := by
    rcases rat_tri q 1 with h1 | h1 | h1
    · grind
    · grind
    · exfalso
      have := Rat.mul_le_mul_of_nonneg_right (Rat.le_of_lt h1) l0
      grind
  have hq2 : 1 / 312 ≤ q := by
    rcases rat_tri q (1 / 312) with h1 | h1 | h1
    · exfalso
      have a := Rat.mul_lt_mul_of_pos_right h1 hlpos
      have d : (1 / 312 : Rat) * lam ≤ 1 / 312 * 39 := Rat.mul_le_mul_of_nonneg_left hl39 (by decide +kernel)
      have e : (1 / 312 : Rat) * 39 ≤ 1 / 8 := by decide +kernel
      grind
    · grind
    · grind
  have hbt : Btw .f32 0 1 b := near_btw (k := .f32) (a := 0) (b := 1) (smallI_of (by decide) (by decide)) (smallI_of (by decide) (by decide)) hq0 hq1 hquo'
  have hrb := rel32 hquo' hbt.fin (by have : cMin ≤ 1 / 312 := by { decide +kernel }
                                      grind)
  obtain ⟨β, hβ⟩ : ∃ x, x = val single b := ⟨_, rfl⟩
  rw [← hβ] at hrb
  have hβ1 : β ≤ 1 := by rw [hβ]; exact hbt.hi
  have hβ0 : 0 ≤ β := by rw [hβ]; exact hbt.lo
  have hβ2 : 1 / 313 ≤ β := by
    have a := Rat.mul_le_mul_of_nonneg_left hq2 U_le.1
    have d : (1 / 313 : Rat) ≤ (1 - U) * (1 / 312) := by decide +kernel
    grind
  have hββ : β * β ≤ 1 := by have := mul_mono hβ1 hβ1 hβ0 hβ0; grind
  have hββ0 : 0 ≤ β * β := Rat.mul_nonneg hβ0 hβ0
  -- the clipped numbers
  have one : ∀ i, okN (fop .mul .f32 (X.getD i 0) b) ∧ val single (fop .mul .f32 (X.getD i 0) b) * val single (fop .mul .f32 (X.getD i 0) b) ≤ (1 + U) * (1 + U) * (β * β) * (val single (X.getD i 0) * val single (X.getD i 0)) := by
    intro i
    obtain ⟨g1, g2, g3⟩ := h i
    have hm := fop_mul (k := .f32) g1 hbt.fin
    obtain ⟨x, hx⟩ : ∃ x, x = X.getD i 0 := ⟨_, rfl⟩
    rw [← hx] at g1 g2 g3 hm ⊢
    obtain ⟨A, hA⟩ : ∃ A, A = val single x * val single x := ⟨_, rfl⟩
    rw [← hA] at g2 g3 ⊢
    have hm' : Near single (val single x * β) (fop .mul .f32 x b) := by rw [hβ]; exact hm
    have hsq : (val single x * β) * (val single x * β) = A * (β * β) := by rw [hA]; grind
    have hA0 : 0 ≤ A := by rcases g2 with h1 | h1
                           · grind
                           · have : (0 : Rat) ≤ 1 / 256 := by decide +kernel
                             grind
    have hAB : A * (β * β) ≤ 90 := by
      have := Rat.mul_le_mul_of_nonneg_left hββ hA0
      grind
    have habs : -10 ≤ val single x * β ∧ val single x * β ≤ 10 := by
      have h1 : rabs (val single x * β) ≤ 10 := by
        refine sq_le (rabs_nonneg _) (by decide +kernel) ?_
        have : rabs (val single x * β) * rabs (val single x * β) = A * (β * β) := by rw [← hsq]; unfold rabs; split <;> grind
        rw [this]
        have : (90 : Rat) ≤ 10 * 10 := by decide +kernel
        grind
      unfold rabs at h1
      split at h1 <;> constructor <;> grind
    have hbo : Btw .f32 (-10) 10 (fop .mul .f32 x b) := near_btw (k := .f32) (a := -10) (b := 10) (smallI_of (by decide) (by decide)) (smallI_of (by decide) (by decide)) habs.1 habs.2 hm'
    rcases g2 with g2 | g2
    · have hz : val single x * β = 0 := by
        have : (val single x * β) * (val single x * β) = 0 := by rw [hsq, g2]; simp
        rcases rat_tri (val single x * β) 0 with h1 | h1 | h1
        · have := Rat.mul_pos (show (0 : Rat) < -(val single x * β) by grind) (show (0 : Rat) < -(val single x * β) by grind); grind
        · exact h1
        · have := Rat.mul_pos h1 h1; grind
      rw [hz] at hm'
      have hv := (Near.int32 (n := 0) hm' (by decide)).2
      have hv2 : val single (fop .mul .f32 x b) = 0 := hv
      refine ⟨⟨hbo.fin, .inl (by rw [hv2]; simp), by rw [hv2]; decide +kernel⟩, ?_⟩
      rw [hv2, g2]; simp
    · have hlow : (1 / 256 : Rat) * (1 / 313 * (1 / 313)) ≤ A * (β * β) := mul_mono g2 (mul_mono hβ2 hβ2 (by decide +kernel) (by decide +kernel)) (by decide +kernel) (by decide +kernel)
      have hr := rel32_sq hm' hbo.fin (by rw [hsq]; have : cMin * cMin ≤ (1 / 256 : Rat) * (1 / 313 * (1 / 313)) := by { decide +kernel }
                                          grind)
      rw [hsq] at hr
      refine ⟨⟨hbo.fin, .inr ?_, ?_⟩, ?_⟩
      · have a := Rat.mul_le_mul_of_nonneg_left hlow (show (0 : Rat) ≤ (1 - U) * (1 - U) by decide +kernel)
        have d : cSq ≤ (1 - U) * (1 - U) * ((1 / 256 : Rat) * (1 / 313 * (1 / 313))) := by decide +kernel
        grind
      · have a := Rat.mul_le_mul_of_nonneg_left hAB (show (0 : Rat) ≤ (1 + U) * (1 + U) by decide +kernel)
        have d : (1 + U) * (1 + U) * 90 ≤ (100 : Rat) := by decide +kernel
        grind
      · grind
  have hO : ∀ i, okN ((listOf n (clG c X n)).getD i 0) := by
    intro i
    by_cases hi : i < n
    · rw [listOf_getD _ hi, hG]; exact (one i).1
    · have e : (listOf n (clG c X n)).getD i 0 = 0 := by rw [List.getD_eq_getElem?_getD, List.getElem?_eq_none (by rw [listOf_length]; omega)]; rfl
      rw [e]; exact okN_zero
  refine ⟨hO, ?_⟩
  have hsum : ∀ k, k ≤ n → sqS (listOf n (clG c X n)) k ≤ (1 + U) * (1 + U) * (β * β) * sqS X k := by
    intro k
    induction k with
    | zero => intro _; unfold sqS; simp
    | succ k ih =>
      intro hk
      have i1 := ih (by omega)
      have i2 := (one k).2
      unfold sqS
      rw [listOf_getD _ (by omega), hG]
      grind
  have hs := hsum n (Nat.le_refl _)
  rw [← hS] at hs
  obtain ⟨f2, m0, m1, _⟩ := len_rel hO hn
  obtain ⟨lam2, hlam2⟩ : ∃ x, x = val single (clR (listOf n (clG c X n)) n) := ⟨_, rfl⟩
  rw [← hlam2] at m0 m1 ⊢
  obtain ⟨n1, n2, n3⟩ := lim_ok n hn
  obtain ⟨K, hK⟩ : ∃ K, K = lo5 * rp (1 - U) (n + 1) := ⟨_, rfl⟩
  obtain ⟨H, hH⟩ : ∃ H, H = hi5 * rp (1 + U) (n + 1) := ⟨_, rfl⟩
  rw [← hK, ← hH] at n1
  rw [← hK] at n2
  rw [← hH] at n3
  have l2' : K * S ≤ lam * lam := by rw [hK]; grind
  have m1' : lam2 * lam2 ≤ H * sqS (listOf n (clG c X n)) n := by rw [hH]; grind
  -- b lam is nearly M
  have hbl : β * lam ≤ (1 + U) * M := cl_bl hrb.2 hql l0
  have hbl2 : (β * lam) * (β * lam) ≤ ((1 + U) * M) * ((1 + U) * M) := mul_mono hbl hbl (Rat.mul_nonneg hβ0 l0) (Rat.mul_nonneg hβ0 l0)
  obtain ⟨Z, hZ⟩ : ∃ Z, Z = β * β * S := ⟨_, rfl⟩
  have hZ0 : 0 ≤ Z := by rw [hZ]; exact Rat.mul_nonneg hββ0 s0
  have hZK : K * Z ≤ (1 + U) * (1 + U) * (M * M) := by rw [hZ]; exact clZ l2' hββ0 hbl2
  have hL : lam2 * lam2 ≤ H * ((1 + U) * (1 + U)) * Z := by rw [hZ]; exact clL m1' hs n3
  have hMM : 0 ≤ M * M := Rat.mul_nonneg (Rat.le_of_lt hM0) (Rat.le_of_lt hM0)
  have hfin : K * (lam2 * lam2) ≤ K * (cLim * cLim * (M * M)) := clF hL hZK n1 (Rat.le_of_lt n2) n3 hMM
  have hres : lam2 * lam2 ≤ cLim * cLim * (M * M) := le_of_mul n2 hfin
  refine sq_le m0 (Rat.mul_nonneg (by decide +kernel) (Rat.le_of_lt hM0)) ?_
  have e4 : cLim * M * (cLim * M) = cLim * cLim * (M * M) := sq_prod cLim M
  rw [e4]; exact hres
end Go.Proofs.Ytnhikdjljjemlaa
/- What the laws choose by the bytes that they get. No condition. -/
namespace Go.Proofs.Ytnhikdjljjemlaa
open Go Go.RowKit
set_option linter.unusedVariables false
theorem b10Long_no (a1 a2 : Option Addr) (n1 n2 c1 c2 : Nat) (w : World) (h1 : n1 ≤ 1048576) (h2 : n2 ≤ 1048576) :
    Calls Try.prog 7 #[.slice a1 n1 c1, .slice a2 n2 c2] w fun e w' => e = .returned (.bool false) ∧ w = w' := by
  go_enter Try.func7, Try.ntmps7
  go_wp2
  go_ret
  refine ⟨?_, rfl⟩
  simp
  omega
theorem b10Long_yes (a1 a2 : Option Addr) (n1 n2 c1 c2 : Nat) (w : World) (h : ¬ (n1 ≤ 1048576 ∧ n2 ≤ 1048576)) :
    Calls Try.prog 7 #[.slice a1 n1 c1, .slice a2 n2 c2] w fun e w' => e = .returned (.bool true) ∧ w = w' := by
  by_cases h1 : 1048576 < n1
  · clear h
    go_enter Try.func7, Try.ntmps7
    go_wp2
    go_ret
    exact ⟨rfl, rfl⟩
  · have h2 : 1048576 < n2 := by omega
    clear h
    go_enter Try.func7, Try.ntmps7
    go_wp2
    go_ret
    refine ⟨?_, rfl⟩
    simp
    omega
theorem b10At_any (w : World) (ad : Option Addr) (cap : Nat) (xs : List Int) (h : Ints .u8 w ad cap xs) (i n : Int) (h0 : 0 ≤ i) (h1 : i ≤ 1000000) (hn : 1 ≤ n) (hn2 : n ≤ 1000000) :
    Calls Try.prog 9 #[.slice ad xs.length cap, .int .i64 i, .int .i64 n] w fun e w' => ∃ r : Nat, e = .returned (.int .i64 r) ∧ (r : Int) < n ∧ w = w' := by
  have hm := Nat.le_trans h.len h.cap
  unfold maxLen at hm
  obtain ⟨i, rfl⟩ := Int.eq_ofNat_of_zero_le h0
  by_cases hn1 : n ≤ 1
  · go_enter Try.func9, Try.ntmps9
    go_wp2
    go_ret
    exact ⟨0, rfl, by omega, rfl⟩
  · by_cases hi : i < xs.length
    · obtain ⟨b, off, rfl, _, hc⟩ := h.spot (i := i) hi
      have hcell := hc i hi
      have hw := h.wf (xs.getD i 0) (by rw [List.getD_eq_getElem?_getD, List.getElem?_eq_getElem hi]; exact List.getElem_mem hi)
      obtain ⟨x, hx⟩ : ∃ x, x = xs.getD i 0 := ⟨_, rfl⟩
      rw [← hx] at hcell hw
      have hb := bounds_u8 hw
      obtain ⟨hb0, hb1⟩ := hb
      obtain ⟨l, hl⟩ : ∃ l, l = xs.length := ⟨_, rfl⟩
      rw [← hl] at hi hm ⊢
      clear hx hw hc h hl
      go_enter Try.func9, Try.ntmps9
      go_wp2
      go_ret
      have g0 := Int.emod_nonneg x (show n ≠ 0 by omega)
      have g1 := Int.emod_lt_of_pos x (show 0 < n by omega)
      exact ⟨(x % n).toNat, by rw [Int.toNat_of_nonneg g0]; rfl, by omega, rfl⟩
    · clear h
      obtain ⟨l, hl⟩ : ∃ l, l = xs.length := ⟨_, rfl⟩
      rw [← hl] at hi hm ⊢
      clear hl
      go_enter Try.func9, Try.ntmps9
      go_wp2
      go_ret
      have g0 := Int.emod_nonneg ((i : Int) * 37 + 11) (show n ≠ 0 by omega)
      have g1 := Int.emod_lt_of_pos ((i : Int) * 37 + 11) (show 0 < n by omega)
      exact ⟨(((i : Int) * 37 + 11) % n).toNat, by rw [Int.toNat_of_nonneg g0]; rfl, by omega, rfl⟩
end Go.Proofs.Ytnhikdjljjemlaa
/- What parameters that become less are. No condition. -/
namespace Go.Proofs.Ytnhikdjljjemlaa
open Go Go.RowKit
set_option linter.unusedVariables false
def decF (r x : Nat) : Nat := fop .sub .f32 x (fop .mul .f32 r x)
theorem getD_getElem {α : Type} {xs : List α} {k : Nat} {d : α} (h : k < xs.length) : xs.getD k d = xs[k] := by simp [h]
theorem map_take_next {α β : Type} {xs : List α} {ys : List β} {f : α → β} {k : Nat} {y : β} {d : α} (h : ys = (xs.take k).map f) (hk : k < xs.length) (hy : y = f (xs.getD k d)) : ys ++ [y] = (xs.take (k + 1)).map f := by
  rw [List.take_succ_eq_append_getElem hk, List.map_append, ← h, hy, getD_getElem hk]; rfl
def decSpec (r : Nat) (xs : List Nat) : List Nat := if xs.length ≤ 256 then xs.map (decF r) else []
end Go.Proofs.Ytnhikdjljjemlaa
/- What sums and dots of lists are. No condition. -/
namespace Go.Proofs.Ytnhikdjljjemlaa
open Go Go.RowKit Ieee
set_option linter.unusedVariables false
set_option linter.unusedSimpArgs false
def VS (c : Nat) (v : Value) : Prop := ∃ r, v = .float .f32 r ∧ cn .f32 r = c
theorem F32s.cut {w : World} {g off cap : Nat} {xs : List Nat} (h : F32s w (some ⟨g, off, none⟩) cap xs) (m : Nat) (hm : m ≤ xs.length) : F32s w (some ⟨g, off, none⟩) cap (xs.take m) ∧ F32s w (some ⟨g, off + m, none⟩) (cap - m) (xs.drop m) := by
  have h1 := h.len; have h2 := h.cap
  refine ⟨⟨by simp; omega, h2, ?_, fun x hx => h.lt x (List.mem_of_mem_take hx)⟩, ⟨by simp; omega, by omega, ?_, fun x hx => h.lt x (List.mem_of_mem_drop hx)⟩⟩
  · rcases h.rd with h3 | ⟨b, o, e, hb, hc⟩
    · left; rw [List.map_take, h3]; simp
    · right
      refine ⟨b, o, e, hb, fun j hj => ?_⟩
      simp only [List.length_map, List.length_take] at hj
      rw [hc j (by simp; omega), List.map_take, List.getElem?_take, if_pos (by omega)]
  · rcases h.rd with h3 | ⟨b, o, e, hb, hc⟩
    · left; rw [List.map_drop, h3]; simp
    · right
      cases e
      refine ⟨g, off + m, rfl, hb, fun j hj => ?_⟩
      simp only [List.length_map, List.length_drop] at hj
      rw [Nat.add_assoc, hc (m + j) (by simp; omega), List.map_drop, List.getElem?_drop]
end Go.Proofs.Ytnhikdjljjemlaa
/- The law of sums, walked. No condition. -/
namespace Go.Proofs.Ytnhikdjljjemlaa
open Go Go.RowKit Ieee
set_option linter.unusedVariables false
set_option linter.unusedSimpArgs false
theorem keepD {a w w' : World} {n : Nat} (h : Below a.heap.size a w) (hd : Dr (w.drewN n) w') : Below a.heap.size a w' := by
  obtain ⟨m, rfl⟩ := hd
  exact below_drewN (below_drewN h _) _
theorem canon_list {xs : List Nat} (h : ∀ x ∈ xs, x < 4294967296) : ∀ i, cn .f32 ((xs.map (cn .f32)).getD i 0) = (xs.map (cn .f32)).getD i 0 ∧ (xs.map (cn .f32)).getD i 0 < 4294967296 := by
  intro i
  rw [cn_getD, cn_cn]
  refine ⟨rfl, ?_⟩
  unfold cn
  split
  · decide
  · by_cases hi : i < xs.length
    · rw [List.getD_eq_getElem?_getD, List.getElem?_eq_getElem hi]; exact h _ (List.getElem_mem hi)
    · rw [List.getD_eq_getElem?_getD, List.getElem?_eq_none (by omega)]; decide
theorem F32s.none_ (w : World) (ad : Option Addr) (c : Nat) (hc : c ≤ maxLen) : F32s w ad c [] := ⟨Nat.zero_le _, hc, .inl rfl, fun x hx => nomatch hx⟩
theorem spec_SameNumber (a b : Nat) (ha : a < 4294967296) (hb : b < 4294967296) (w : World) : Calls Try.prog 14 #[.float .f32 a, .float .f32 b] w fun e w' => e = .returned (.bool (decide (cn .f32 a = cn .f32 b))) ∧ Dr w w' := by
  have k1 : ∀ W, Calls Try.prog 44 #[.float .f32 a, .float .f32 b] W fun e w' => e = .returned (.bool (decide (cn .f32 a = cn .f32 b))) ∧ W = w' := by
    intro W
    have k1 := fun W => spec_l01Bits a ha W
    have k2 := fun W => spec_l01Bits b hb W
    obtain ⟨p, hp⟩ : ∃ p, p = cn .f32 a := ⟨_, rfl⟩
    obtain ⟨q, hq⟩ : ∃ q, q = cn .f32 b := ⟨_, rfl⟩
    rw [← hp] at k1 ⊢
    rw [← hq] at k2 ⊢
    clear hp hq ha hb
    go_enter Try.func44, Try.ntmps44
    go_wp2_with fail
    refine (k1 _).mono ?_
    rintro e w1 ⟨rfl, rfl⟩
    go_wp2_with fail
    refine (k2 _).mono ?_
    rintro e w1 ⟨rfl, rfl⟩
    go_wp2
    go_ret
    refine ⟨?_, rfl⟩
    congr 2
    by_cases h : p = q
    · subst h; simp
    · have h2 : ¬ (p : Int) = q := by omega
      simp [h, h2]
  go_enter Try.func14, Try.ntmps14
  go_wp2_with fail
  refine (k1 _).mono ?_
  rintro e w1 ⟨rfl, rfl⟩
  go_wp2
  go_ret
  exact ⟨rfl, Dr.refl _⟩
end Go.Proofs.Ytnhikdjljjemlaa
/- What the program's LossEntropy returns. No condition. -/
namespace Go.Proofs.Ytnhikdjljjemlaa
open Go Go.RowKit Ieee
set_option linter.unusedVariables false
set_option linter.unusedSimpArgs false
/-- a number less the greatest one, the exponential function of it, their sum, the shares, the gradients, the loss -/
def dE (X : List Nat) (b i : Nat) : Nat := fop .sub .f32 (X.getD i 0) (X.getD b 0)
def eE (X : List Nat) (b i : Nat) : Nat := expF (dE X b i)
def sE (X : List Nat) (b n : Nat) : Nat := sumS (listOf n (eE X b)) n
def rE (X : List Nat) (b n i : Nat) : Nat := fop .quo .f32 (eE X b i) (sE X b n)
def lE (X : List Nat) (b n l i : Nat) : Nat := if i = l then fop .sub .f32 (rE X b n i) 1065353216 else rE X b n i
def tE (X : List Nat) (b n l : Nat) : Nat := fop .sub .f32 (logG (sE X b n)) (dE X b l)
def entOk (n : Nat) (l : Int) : Bool := inB n 1 8 && inB l 0 ((n : Int) - 1)
theorem fop_lt {op : BinOp} (x y : Nat) : fop op .f32 x y < 4294967296 := by
  rw [← fop_cn, ← cn_fbits op .f32 x y (default : World)]
  unfold cn
  split
  · decide
  · exact fbits_lt op .f32 x y _
theorem ent_facts {xs : List Nat} (hx : ∀ x ∈ xs, x < 4294967296) {n : Nat} (hn : xs.length = n) (i : Nat) (hi : i < n) :
    okExp (dE (xs.map (cn .f32)) (gBest xs n) i) ∧ (isN .f32 (eE (xs.map (cn .f32)) (gBest xs n) i) = true ∨ Btw .f32 0 1 (eE (xs.map (cn .f32)) (gBest xs n) i)) := by
  have hm := gBest_max hx n (by omega) i hi
  unfold gtF at hm
  have ho : FloatKind.f32.format.order ((xs.map (cn .f32)).getD i 0) ((xs.map (cn .f32)).getD (gBest xs n) 0) ≠ some .gt := by
    rw [cn_getD, cn_getD, order_cn]
    intro e; rw [e] at hm; exact absurd hm (by decide)
  have h := exp_le (fop_lt _ _) (sub_le ho)
  rw [cn_fop] at h
  exact h
theorem ent_best {xs : List Nat} (hx : ∀ x ∈ xs, x < 4294967296) (b : Nat) : isN .f32 (eE (xs.map (cn .f32)) b b) = true ∨ eE (xs.map (cn .f32)) b b = 1065353216 := by
  unfold eE dE
  obtain ⟨m, hm⟩ : ∃ m, m = (xs.map (cn .f32)).getD b 0 := ⟨_, rfl⟩
  rw [← hm]
  cases hf : finB m
  · left
    have e : fop .sub .f32 m m = nanOf .f32 := by unfold fop; rw [sub_self_not hf]; rfl
    rw [e]; decide +kernel
  · right
    rw [fop_some (sub_self_fin hf)]; decide +kernel
theorem listOf_getD2 {n k : Nat} (f : Nat → Nat) : (listOf n f).getD k 0 = if k < n then f k else 0 := by
  by_cases h : k < n
  · rw [if_pos h, listOf_getD f h]
  · rw [if_neg h, List.getD_eq_getElem?_getD, List.getElem?_eq_none (by rw [listOf_length]; omega)]; rfl
theorem ent_sum {xs : List Nat} (hx : ∀ x ∈ xs, x < 4294967296) {n : Nat} (hn : xs.length = n) (h1 : 1 ≤ n) (h8 : n ≤ 8) :
    isN .f32 (sE (xs.map (cn .f32)) (gBest xs n) n) = true ∨ Btw .f32 1 n (sE (xs.map (cn .f32)) (gBest xs n) n) := by
  have hb : gBest xs n < n := by have := gBest_le xs n; omega
  have h := sum_btw (E := listOf n (eE (xs.map (cn .f32)) (gBest xs n))) (b := gBest xs n) (fun i => by
    rw [listOf_getD2]
    split
    · rename_i hi; exact (ent_facts hx hn i hi).2
    · right
      refine ⟨zero_fin.1, ?_, ?_⟩
      · show ((0 : Int) : Rat) ≤ val single 0
        rw [zero_fin.2]; decide +kernel
      · show val single 0 ≤ ((1 : Int) : Rat)
        rw [zero_fin.2]; decide +kernel) (by rw [listOf_getD2, if_pos hb]; exact ent_best hx _) n (by omega)
  rw [if_pos hb] at h
  exact h
set_option maxRecDepth 100000 in
set_option maxHeartbeats 2000000 in
theorem impl_exps (w : World) (ad : Option Addr) (cap : Nat) (xs : List Nat) (h : F32s w ad cap xs) (n : Nat) (hN : n = xs.length) (h1 : 1 ≤ n) (h8 : n ≤ 8) :
    Calls Try.prog 63 #[.slice ad n cap] w fun e w' => ∃ ad' cap' ys, e = .returned (.tuple #[.float .f32 (xs.getD (gBest xs n) 0), .slice ad' n cap']) ∧
      RepF w' w.heap.size w'.heap.size ad' n cap' ys ∧ Hid (ys.map (cn .f32) = listOf n (eE (xs.map (cn .f32)) (gBest xs n))) ∧ Below w.heap.size w w' := by
  obtain ⟨i0, hi, hz0, hz1, hz2⟩ := info_parts info_f32
  have hlt' := h.lt
  have kg := fun W hW => impl_greatestOf W ad cap xs hW (by omega) (by omega)
  rw [← hN] at kg
  have hbn : gBest xs n < n := by have := gBest_le xs n; omega
  have hfa := fun i (hi : i < n) => ent_facts hlt' hN.symm i hi
  have hd : ∀ i (w : World), cn .f32 (fbits .sub .f32 (xs.getD i 0) (xs.getD (gBest xs n) 0) w) = dE (xs.map (cn .f32)) (gBest xs n) i := by
    intro i w; rw [cn_fbits]; unfold dE; rw [cn_getD, cn_getD]
  obtain ⟨b, hb⟩ : ∃ b, b = gBest xs n := ⟨_, rfl⟩
  rw [← hb] at kg hbn hfa hd ⊢
  obtain ⟨X, hX⟩ : ∃ X, X = xs.map (cn .f32) := ⟨_, rfl⟩
  rw [← hX] at hfa hd ⊢
  obtain ⟨m, hm⟩ : ∃ m, m = xs.getD b 0 := ⟨_, rfl⟩
  rw [← hm] at hd ⊢
  have HM := Lib.hid hm; have HD := Lib.hid hd; have HFA := Lib.hid hfa; have KG := Lib.hid kg; have HN := Lib.hid hN
  clear hm hd hfa kg hX hb hN hlt'
  go_enter Try.func63, Try.ntmps63
  go_wp2_with fail
  refine (KG.out _ h).mono ?_
  rintro e w1 ⟨rfl, rfl⟩
  have HB1 := Lib.hid (Below.refl w.heap.size w)
  obtain ⟨bl, off, rfl, hbl, hc⟩ := h.spot (k := b) (by rw [← HN.out]; exact hbn)
  have hcb := hc b (by rw [← HN.out]; exact hbn)
  rw [← HM.out] at hcb
  have HC := Lib.hid hc; clear hc
  have hs1 := HB1.out.size
  go_wp2
  clear hcb
  go_loopw [5, 16] (fun v i wr => ∃ k : Nat, i = .int .i64 k ∧ k ≤ n ∧ ∃ ys : List Nat, Hid (wr.ownsRow w.heap.size 24 1 v k (ys.map (Value.float .f32)) ∧ ys.map (cn .f32) = listOf k (eE X b) ∧ ∀ y ∈ ys, y < 4294967296) ∧ Hid (Below w.heap.size w wr) ∧ w.heap.size ≤ wr.heap.size) (fun _ i _ => n - (intOf i).toNat)
  case atStart => exact ⟨0, rfl, Nat.zero_le _, [], Lib.hid ⟨World.ownsRow_made _ _ _ (Nat.le_refl _) (Nat.zero_le _) rfl, rfl, fun y hy => nomatch hy⟩, Lib.hid (below1 _ _), by simp⟩
  case round =>
    obtain ⟨k, rfl, hk, ys, HO, HB, hbs⟩ := hrel
    by_cases hlt : k < n
    · have hck : wr.cell? ⟨bl, off + k, none⟩ = some (.float .f32 (xs.getD k 0)) := (HB.out.cell (p := ⟨bl, off + k, none⟩) hbl).trans (HC.out k (by rw [← HN.out]; exact hlt))
      have hD := fun w => HD.out k w
      obtain ⟨x, hx⟩ : ∃ x, x = xs.getD k 0 := ⟨_, rfl⟩
      rw [← hx] at hck
      rw [← hx] at hD
      have HDk := Lib.hid hD; clear hx hD
      have HOR := Lib.hid HO.out.1
      go_wp2_with fail
      generalize hz : fbits BinOp.sub FloatKind.f32 x m _ = z
      have hzc : cn .f32 z = dE X b k := by rw [← hz]; exact HDk.out _
      have hzl : z < 4294967296 := by rw [← hz]; exact fbits_lt _ .f32 _ _ _
      have hok : okExp z := okExp_of_cn (by rw [hzc]; exact (HFA.out k hlt).1)
      have HZ := Lib.hid hzc
      clear hz hzc
      refine (impl_ExpNumber z hzl hok _).mono ?_
      rintro e w3 ⟨r, rfl, hr, hd3⟩
      have hb3 : Below wr.heap.size wr w3 := by
        obtain ⟨q, rfl⟩ := hd3
        exact below_drewN (below_drewN (Below.refl _ _) _) _
      have hown3 := owns_below HOR.out hb3
      have HOW := Lib.hid hown3; have HB3 := Lib.hid (HB.out.trans (hb3.mono hbs)); have hs3 := hb3.size
      clear hown3 hb3 hd3 hok HOR
      go_wp2_with (at_builtin; refine wp_app rfl _ _ 29 rfl w.heap.size i0 (.float .f32 0) 1 4 Try.underlying29 hi hz0 hz1 hz2 rfl (by decide) rfl (one_cell _ rfl) _ _ _ rfl HOW.out rfl ?c3 ?c4 ?c5 ?_)
      case c3 => unfold maxLen; omega
      case c4 => omega
      case c5 => omega
      intro v' w9 hown1 hb9 hbs9
      have HO9 := Lib.hid hown1; have HB9 := Lib.hid (HB3.out.trans hb9)
      clear hown1 hb9
      go_wp2
      go_roundw
      case rel =>
        refine ⟨k + 1, by go_num, hlt, ys ++ [r], Lib.hid ⟨by rw [List.map_append]; exact HO9.out, ?_, ?_⟩, HB9, hbs9⟩
        · rw [List.map_append, HO.out.2.1, listOf_succ]
          congr 1
          show [cn .f32 r] = [eE X b k]
          rw [hr.out.1, HZ.out]; rfl
        · intro y hy
          rcases List.mem_append.1 hy with hy | hy
          · exact HO.out.2.2 y hy
          · simp at hy; rw [hy]; exact hr.out.2
      case measure => simp [intOf]; omega
    · have hkn : k = n := by omega
      subst hkn
      obtain ⟨ad', cap', rfl, hr⟩ := RepF.of_owns HO.out.1 HO.out.2.2
      have HR := Lib.hid (hr.bounds hs1 (Nat.le_refl _))
      clear hr
      go_wp2
      go_ret2
      exact ⟨ad', cap', ys, rfl, HR.out, Lib.hid HO.out.2.1, HB1.out.trans (HB.out.mono hs1)⟩
end Go.Proofs.Ytnhikdjljjemlaa
/- Plain laws of FnClipped, and what it calls. No condition. -/
namespace Go.Proofs.Ytnhikdjljjemlaa
open Go Go.RowKit Ieee
set_option linter.unusedVariables false
set_option linter.unusedSimpArgs false
/-- plain numbers -/
def okGb (x : Nat) : Bool := decide (x % 2147483648 < 2139095040) && decide (val single x * val single x = 0 ∨ 1 / 256 ≤ val single x * val single x) && decide (val single x * val single x ≤ 90)
theorem pl_facts : ∀ j, j < 129 → okGb (plainQ 1088421888 j) = true ∧ okGb (plainQ 1098907648 j) = true := by decide +kernel
theorem pl_same : ∀ j, j < 129 → FloatKind.f32.format.order (decF 0 (plainQ 1088421888 j)) (plainQ 1088421888 j) = some .eq ∧ FloatKind.f32.format.order (decF 0 (plainQ 1098907648 j)) (plainQ 1098907648 j) = some .eq := by decide +kernel
def powOk (b : Nat) : Nat → Nat → Bool
  | 0, a => !isN .f32 a
  | k + 1, a => !isN .f32 a && powOk b k (fop .mul .f32 a b)
theorem pl_pow : ∀ j, j < 129 → powOk (plainQ 1088421888 j) 20 1065353216 = true ∧ powOk (plainQ 1098907648 j) 20 1065353216 = true := by decide +kernel
theorem fin_of {x : Nat} (hx : x < 4294967296) (h : x % 2147483648 < 2139095040) : Fin single x := by
  obtain ⟨s, r, rfl, hr⟩ := word_of single (x := x) (by rw [s_sw]; omega)
  refine ⟨s, r, rfl, ?_⟩
  rw [s_ir]
  rw [s_sw] at hr
  have e : single.word s r % 2147483648 = r := by
    unfold Format.word
    rw [s_sw]
    cases s <;> simp <;> omega
  omega
theorem okGb_ok {x : Nat} (hx : x < 4294967296) (h : okGb x = true) : okG x := by
  unfold okGb at h
  simp only [Bool.and_eq_true, decide_eq_true_eq] at h
  exact ⟨fin_of hx h.1.1, h.1.2, h.2⟩
theorem isPl.ok {x : Nat} (h : isPl x) : okG x := by
  refine okGb_ok (isPl_lt h) ?_
  obtain ⟨j, hj, h⟩ := h
  rcases h with rfl | rfl
  · exact (pl_facts j hj).1
  · exact (pl_facts j hj).2
theorem isPl.same {x : Nat} (h : isPl x) : FloatKind.f32.format.order (decF 0 x) x = some .eq := by
  obtain ⟨j, hj, h⟩ := h
  rcases h with rfl | rfl
  · exact (pl_same j hj).1
  · exact (pl_same j hj).2
theorem isPl.cn {x : Nat} (h : isPl x) : cn .f32 x = x := cn_not (Fin.not (k := .f32) h.ok.1)
theorem powOk_at {b : Nat} : ∀ n m, powOk b n (powF b m) = true → ∀ k, k ≤ n → isN .f32 (powF b (m + k)) = false
  | 0, m, h, k, hk => by
    have : k = 0 := by omega
    subst this
    simpa [powOk] using h
  | n + 1, m, h, k, hk => by
    unfold powOk at h
    simp only [Bool.and_eq_true, Bool.not_eq_true'] at h
    cases k with
    | zero => exact h.1
    | succ k =>
      have := powOk_at n (m + 1) h.2 k (by omega)
      rw [show m + (k + 1) = m + 1 + k by omega]; exact this
theorem isPl.pow {x : Nat} (h : isPl x) {k : Nat} (hk : k ≤ 20) : isN .f32 (powF x k) = false := by
  have hp : powOk x 20 (powF x 0) = true := by
    obtain ⟨j, hj, h⟩ := h
    rcases h with rfl | rfl
    · exact (pl_pow j hj).1
    · exact (pl_pow j hj).2
  have := powOk_at 20 0 hp k hk
  rwa [Nat.zero_add] at this
theorem powF_lt (b k : Nat) : powF b k < 4294967296 := by
  cases k with
  | zero => unfold powF; decide
  | succ k => exact fop_lt _ _
theorem cn_word {x y : Nat} (h : cn .f32 y = x) (hx : isN .f32 x = false) : y = x := by
  have h1 : isN .f32 y = false := by rw [← isN_cn, h]; exact hx
  rwa [cn_not h1] at h
/-- the greatest length -/
def mW (j : Nat) : Nat := fop .quo .f32 (floatOfInt .f32 (1 + (j : Int))) 1090519040
def mP (j : Nat) : Nat := fop .mul .f64 (fcv .f32 (mW j) .f64) 4607182463836013682
theorem mW_facts : ∀ j : Nat, j < 64 → floatBits .quo .f32 (floatOfInt .f32 (1 + (j : Int))) 1090519040 = some (mW j) ∧ floatBits .mul .f64 (fcv .f32 (mW j) .f64) 4607182463836013682 = some (mP j) ∧ mW j < 2139095040 ∧ mP j < 9218868437227405312 ∧ 1 / 8 ≤ val single (mW j) ∧ cLim * val single (mW j) ≤ val double (mP j) := by decide +kernel
theorem mW_fin {j : Nat} (hj : j < 64) : Fin single (mW j) := ⟨false, mW j, rfl, by rw [s_ir]; exact (mW_facts j hj).2.2.1⟩
theorem mP_fin {j : Nat} (hj : j < 64) : Fin double (mP j) := ⟨false, mP j, rfl, by have := (mW_facts j hj).2.2.2.1; exact Nat.lt_of_lt_of_le this (by decide +kernel)⟩
/-- the length behind clipping -/
theorem second_ok {X : List Nat} (h : ∀ i, okG (X.getD i 0)) {n j : Nat} (hn : n ≤ 8) (hj : j < 64) : Fin single (clR (clY (mW j) X n) n) ∧ val single (clR (clY (mW j) X n) n) ≤ cLim * val single (mW j) := by
  have hc := mW_fin hj
  have c1 := (mW_facts j hj).2.2.2.2.1
  have hl := len_rel (fun i => (h i).ok) hn
  cases hg : gtC (clR X n) (mW j)
  · have hY : clY (mW j) X n = X := by unfold clY; rw [if_neg (by rw [hg]; decide)]
    rw [hY]
    refine ⟨hl.1, ?_⟩
    have hle : val single (clR X n) ≤ val single (mW j) := by
      rcases rat_tri (val single (clR X n)) (val single (mW j)) with h1 | h1 | h1
      · exact Rat.le_of_lt h1
      · rw [h1]; exact Rat.le_refl
      · exfalso
        have := (order_val (k := .f32) hl.1 hc).2.1.2 h1
        unfold gtC at hg
        rw [this] at hg
        exact absurd hg (by decide)
    have h0 : (0 : Rat) ≤ val single (mW j) := Rat.le_trans (by decide +kernel) c1
    have h2 : 1 * val single (mW j) ≤ cLim * val single (mW j) := Rat.mul_le_mul_of_nonneg_right (by decide +kernel) h0
    rw [Rat.one_mul] at h2
    exact Rat.le_trans hle h2
  · have hY : clY (mW j) X n = listOf n (clG (mW j) X n) := by unfold clY; rw [if_pos hg]
    rw [hY]
    have hgt : val single (mW j) < val single (clR X n) := by
      refine (order_val (k := .f32) hl.1 hc).2.1.1 ?_
      unfold gtC at hg
      simpa using hg
    obtain ⟨h1, h2⟩ := clip_bound h hn hc c1 hgt
    exact ⟨(len_rel h1 hn).1, h2⟩
theorem second_cmp {X : List Nat} (h : ∀ i, okG (X.getD i 0)) {n j : Nat} (hn : n ≤ 8) (hj : j < 64) {r : Nat} (hr : cn .f32 r = clR (clY (mW j) X n) n) :
    FloatKind.f64.format.order (fcv .f32 r .f64) (mP j) ≠ some .gt := by
  obtain ⟨f, l⟩ := second_ok h hn hj
  have e := Fin.cn (k := .f32) f hr
  subst e
  intro hgt
  have hw := wide_val f
  have h1 := (order_val (k := .f64) hw.1 (mP_fin hj)).2.1.1 hgt
  have h2 : val double (mP j) < val single (clR (clY (mW j) X n) n) := by rw [← hw.2]; exact h1
  have h3 := (mW_facts j hj).2.2.2.2.2
  exact absurd (Rat.le_trans l h3) (Rat.not_le.mpr h2)
theorem long_ge {X : List Nat} (h : ∀ i, okG (X.getD i 0)) {n : Nat} (hn : n ≤ 8) {r : Nat} (hr : cn .f32 r = clR X n) : (FloatKind.f32.format.order r 0 = some .gt ∨ FloatKind.f32.format.order r 0 = some .eq) ∧ Fin single r := by
  have hl := len_rel (fun i => (h i).ok) hn
  have e := Fin.cn (k := .f32) hl.1 hr
  subst e
  refine ⟨?_, hl.1⟩
  rcases rat_tri (val single (clR X n)) 0 with h1 | h1 | h1
  · exact absurd hl.2.1 (Rat.not_le.mpr h1)
  · right
    exact (order_val (k := .f32) hl.1 zero_fin.1).2.2.2 (by show val single _ = val single 0; rw [zero_fin.2]; exact h1)
  · left
    exact (order_val (k := .f32) hl.1 zero_fin.1).2.1.2 (by show val single 0 < val single _; rw [zero_fin.2]; exact h1)
set_option maxHeartbeats 4000000 in
theorem b10_same (w : World) (a b : Option Addr) (ca cb : Nat) (xs ys : List Nat) (hx : F32s w a ca xs) (hy : F32s w b cb ys) (n : Nat) (h1 : xs.length = n) (h2 : ys.length = n) (he : xs.map (cn .f32) = ys.map (cn .f32)) :
    Calls Try.prog 15 #[.slice a n ca, .slice b n cb] w fun e w' => e = .returned (.bool true) ∧ Dr w w' := by
  have HX := Lib.hid hx; have HY := Lib.hid hy; have L1 := Lib.hid h1; have L2 := Lib.hid h2
  have hm := Nat.le_trans hx.len hx.cap
  rw [h1] at hm
  unfold maxLen at hm
  have HE : Hid (∀ k, cn .f32 (xs.getD k 0) = cn .f32 (ys.getD k 0)) := Lib.hid (fun k => by rw [← cn_getD, ← cn_getD, he])
  have LX := Lib.hid (fun k (hk : k < n) => hx.lt (xs.getD k 0) (by rw [List.getD_eq_getElem?_getD, List.getElem?_eq_getElem (by omega)]; exact List.getElem_mem (by omega)))
  have LY := Lib.hid (fun k (hk : k < n) => hy.lt (ys.getD k 0) (by rw [List.getD_eq_getElem?_getD, List.getElem?_eq_getElem (by omega)]; exact List.getElem_mem (by omega)))
  clear hx hy h1 h2 he
  go_enter Try.func15, Try.ntmps15
  go_wp2
  go_loopw [5] (fun i wr => ∃ k : Nat, i = .int .i64 k ∧ k ≤ n ∧ Dr w wr) (fun i _ => n - (intOf i).toNat)
  case atStart => exact ⟨0, rfl, Nat.zero_le _, Dr.refl _⟩
  case round =>
    obtain ⟨k, rfl, hk, hd⟩ := hrel
    by_cases hlt : k < n
    · have h3 := HX.out.below hd.below
      have h4 := HY.out.below hd.below
      obtain ⟨b1, o1, rfl, _, hc1⟩ := h3.spot (k := k) (by rw [L1.out]; exact hlt)
      obtain ⟨b2, o2, rfl, _, hc2⟩ := h4.spot (k := k) (by rw [L2.out]; exact hlt)
      have hk1 := hc1 k (by rw [L1.out]; exact hlt)
      have hk2 := hc2 k (by rw [L2.out]; exact hlt)
      have l1 := LX.out k hlt
      have l2 := LY.out k hlt
      have he := HE.out k
      obtain ⟨x, hx⟩ : ∃ x, x = xs.getD k 0 := ⟨_, rfl⟩
      obtain ⟨y, hy⟩ : ∃ y, y = ys.getD k 0 := ⟨_, rfl⟩
      rw [← hx] at hk1 l1 he
      rw [← hy] at hk2 l2 he
      have C := Lib.hid (fun W => spec_SameNumber x y l1 l2 W)
      have hdt : decide (cn .f32 x = cn .f32 y) = true := decide_eq_true he
      rw [hdt] at C
      clear h3 h4 hc1 hc2 l1 l2 he hdt hx hy
      have HD := Lib.hid hd
      clear hd
      go_wp2
      refine wp_region_drawn (fun f args u => Hid (u = .bool true)) (by kernel_rfl) (by kernel_rfl) ?_
      repeat (refine wset_step (fun K hK nq => ?_); go_simp; refine hK _ ?_; clear hK K)
      refine wset_step (fun K hK nq => ?_)
      go_simp
      refine ⟨(C.out _).mono ?_, ?_⟩
      · rintro e w' ⟨rfl, q, rfl⟩
        exact ⟨_, rfl, ⟨_, World.drewN_drewN _ _ _⟩, Lib.hid rfl⟩
      rintro u hu
      obtain rfl := hu.out
      clear hu
      refine hK _ ?_
      clear hK K
      repeat (refine wset_step (fun K hK nq => ?_); go_simp; refine hK _ ?_; clear hK K)
      refine wset_nil ?_
      rintro w' ⟨q, rfl⟩
      go_wp2
      go_roundw
      case rel => exact ⟨k + 1, by go_num, hlt, HD.out.drewN _⟩
      case measure => simp [intOf]; omega
    · go_wp2
      go_ret
      exact ⟨rfl, hd⟩
end Go.Proofs.Ytnhikdjljjemlaa
/- A step's parts: one item alone. No condition. -/
namespace Go.Proofs.Ytnhikdjljjemlaa
open Go Go.RowKit Ieee
set_option linter.unusedVariables false
set_option linter.unusedSimpArgs false
theorem F32s.one {w : World} {b off cap : Nat} {xs : List Nat} (h : F32s w (some ⟨b, off, none⟩) cap xs) {i : Nat} (hi : i < xs.length) : F32s w (some ⟨b, off + i, none⟩) (cap - i) [xs.getD i 0] := by
  have h1 := (h.cut i (by omega)).2
  have h2 := (h1.cut 1 (by simp; omega)).1
  have e : (xs.drop i).take 1 = [xs.getD i 0] := by
    rw [List.getD_eq_getElem?_getD, List.getElem?_eq_getElem hi, List.drop_eq_getElem_cons hi]; rfl
  rwa [e] at h2
theorem zero_row {S n j : Nat} (hj : j < S) : (zeroRows S n).getD j [] = List.replicate n 0 := by
  unfold zeroRows
  rw [List.getD_eq_getElem?_getD, List.getElem?_replicate, if_pos hj]; rfl
theorem stepOk_zero {k n s : Nat} (hk : k < 5) (hn : n ≤ 256) (hs : s ≤ 999) : stepOk (k : Int) n n (zeroRows (slotsN k) n) s = true := by
  unfold stepOk
  simp only [Bool.and_eq_true, decide_eq_true_eq]
  refine ⟨inB_iff.2 ⟨by omega, by omega⟩, hn, trivial, fit_iff.2 ⟨by simp [zeroRows], fun i hi => ?_⟩, inB_iff.2 ⟨by omega, by omega⟩⟩
  rw [zero_row (by simpa [zeroRows] using hi)]; simp
theorem stepOk_rows {k n s : Nat} (hk : k < 5) (hn : n ≤ 256) (hs : s ≤ 999) {Xs : List (List Nat)} (hl : Xs.length = slotsN k) (hr : ∀ i, i < Xs.length → (Xs.getD i []).length = n) : stepOk (k : Int) n n Xs s = true := by
  unfold stepOk
  simp only [Bool.and_eq_true, decide_eq_true_eq]
  exact ⟨inB_iff.2 ⟨by omega, by omega⟩, hn, trivial, fit_iff.2 ⟨hl, hr⟩, inB_iff.2 ⟨by omega, by omega⟩⟩
/-- the shape of the slots that a step gives -/
theorem slots_shape {S n : Nat} (hS : S ≤ 2) {U V : Nat → Nat} {Ys : List (List Nat)} (h : Ys.map (List.map (cn .f32)) = rowsOf S n U V) :
    Ys.length = S ∧ (∀ i, i < Ys.length → (Ys.getD i []).length = n) ∧ (∀ i, i < n → (1 ≤ S → cn .f32 ((Ys.getD 0 []).getD i 0) = U i) ∧ (2 ≤ S → cn .f32 ((Ys.getD 1 []).getD i 0) = V i)) := by
  have hl : Ys.length = S := by
    have := congrArg List.length h
    unfold rowsOf at this
    simp at this; omega
  have hrow : ∀ j, j < Ys.length → (Ys.getD j []).map (cn .f32) = if j = 0 then listOf n U else listOf n V := by
    intro j hj
    have e : (Ys.map (List.map (cn .f32))).getD j [] = (Ys.getD j []).map (cn .f32) := by
      rw [List.getD_eq_getElem?_getD, List.getD_eq_getElem?_getD, List.getElem?_map, List.getElem?_eq_getElem hj]; rfl
    rw [← e, h]
    unfold rowsOf
    rw [List.getD_eq_getElem?_getD, List.getElem?_take, if_pos (by omega)]
    rcases j with _ | _ | j
    · rfl
    · rfl
    · omega
  refine ⟨hl, fun j hj => ?_, fun i hi => ⟨fun h1 => ?_, fun h2 => ?_⟩⟩
  · have := congrArg List.length (hrow j hj)
    rw [List.length_map] at this
    rw [this]; split <;> exact listOf_length _ _
  · have := congrArg (fun l => l.getD i 0) (hrow 0 (by omega))
    simp only [cn_getD, if_pos] at this
    rw [this, listOf_getD _ hi]
  · have := congrArg (fun l => l.getD i 0) (hrow 1 (by omega))
    simp only [cn_getD] at this
    rw [this, if_neg (by decide), listOf_getD _ hi]
/-- the slots' items at one place -/
def oneOf (Ys : List (List Nat)) (i : Nat) : List (List Nat) := Ys.map (fun r => [r.getD i 0])
theorem oneOf_getD {Ys : List (List Nat)} {i j : Nat} (hj : j < Ys.length) : (oneOf Ys i).getD j [] = [(Ys.getD j []).getD i 0] := by
  simp [oneOf, List.getD_eq_getElem?_getD, hj]
theorem stA_one {Ys : List (List Nat)} {i : Nat} (h : 0 < Ys.length) : stA (oneOf Ys i) 0 = stA Ys i := by
  unfold stA; rw [oneOf_getD h, cn_getD, cn_getD]; rfl
theorem stB_one {Ys : List (List Nat)} {i : Nat} (h : 1 < Ys.length) : stB (oneOf Ys i) 0 = stB Ys i := by
  unfold stB; rw [oneOf_getD h, cn_getD, cn_getD]; rfl
theorem stA_none {Ys : List (List Nat)} {i : Nat} (h : Ys.length = 0) : stA Ys i = 0 := by
  have : Ys = [] := List.length_eq_zero_iff.1 h
  subst this; rfl
theorem stB_none {Ys : List (List Nat)} {i : Nat} (h : Ys.length ≤ 1) : stB Ys i = 0 := by
  match Ys, h with
  | [], _ => rfl
  | [_], _ => rfl
theorem oneOf_length (Ys : List (List Nat)) (i : Nat) : (oneOf Ys i).length = Ys.length := by unfold oneOf; rw [List.length_map]
theorem stA_one' {Ys : List (List Nat)} {i : Nat} : stA (oneOf Ys i) 0 = stA Ys i := by
  by_cases h : 0 < Ys.length
  · exact stA_one h
  · rw [stA_none (by rw [oneOf_length]; omega), stA_none (by omega)]
theorem stB_one' {Ys : List (List Nat)} {i : Nat} : stB (oneOf Ys i) 0 = stB Ys i := by
  by_cases h : 1 < Ys.length
  · exact stB_one h
  · rw [stB_none (by rw [oneOf_length]; omega), stB_none (by omega)]
theorem stU_one {k : Int} {b1 b2 : Nat} {gs : List Nat} {Ys : List (List Nat)} {i : Nat} : stU k b1 b2 [gs.getD i 0] (oneOf Ys i) 0 = stU k b1 b2 gs Ys i := by
  unfold stU; rw [stA_one']; rfl
theorem stV_one {b2 : Nat} {gs : List Nat} {Ys : List (List Nat)} {i : Nat} : stV b2 [gs.getD i 0] (oneOf Ys i) 0 = stV b2 gs Ys i := by
  unfold stV; rw [stB_one']; rfl
/-- a step acts item by item -/
theorem stO_one {k : Int} {r b1 b2 ep s : Nat} {ps gs : List Nat} {Ys : List (List Nat)} {i : Nat} : stO k r b1 b2 ep s [ps.getD i 0] [gs.getD i 0] (oneOf Ys i) 0 = stO k r b1 b2 ep s ps gs Ys i := by
  unfold stO; rw [stU_one, stV_one]; rfl
/-- nothing is taken away -/
theorem sub_zero32 {x : Nat} (hx : x < 4294967296) : fop .sub .f32 (cn .f32 x) 0 = cn .f32 x := by
  cases h : isN .f32 x
  · rw [cn_not h]
    obtain ⟨s, r, e1, hr⟩ := word_of single (x := x) (by rw [s_sw]; omega)
    by_cases h1 : r < single.infRung
    · have hf : Fin single x := ⟨s, r, e1, h1⟩
      by_cases h0 : val single x = 0
      · rcases word_zero hf h0 with rfl | rfl <;> decide +kernel
      · obtain ⟨y, h2, h3⟩ := sub_near (k := .f32) hf zero_fin.1
        have h4 : y = x := h3.exact hf (by rw [show val FloatKind.f32.format 0 = 0 from zero_fin.2]; show val single x - 0 = val single x; grind) (by rw [show val FloatKind.f32.format 0 = 0 from zero_fin.2]; show val single x - 0 ≠ 0; grind)
        unfold fop
        rw [h2, h4]; rfl
    · by_cases h2 : r = single.infRung
      · rw [e1, h2]
        cases s <;> decide +kernel
      · exfalso
        have hb : single.binade ≤ single.infRung := by decide +kernel
        have h3 : isN .f32 x = (single.read x).isNaN := rfl
        rw [h3, e1, read_word single s hr, if_neg (by omega), if_neg h1, if_neg h2] at h
        cases h
  · rw [cn_nan h]; decide +kernel
/-- a plain step without gradients -/
theorem stO_plain {r b1 b2 ep s n i : Nat} {ps : List Nat} {Xs : List (List Nat)} (h : fop .mul .f32 (cn .f32 r) 0 = 0) (hp : ∀ x ∈ ps, x < 4294967296) : stO 0 r b1 b2 ep s ps (List.replicate n 0) Xs i = cn .f32 (ps.getD i 0) := by
  have hg : (List.replicate n 0).getD i 0 = 0 := by
    rw [List.getD_eq_getElem?_getD, List.getElem?_replicate]; split <;> rfl
  have hl : ps.getD i 0 < 4294967296 := by
    rw [List.getD_eq_getElem?_getD]
    cases e : ps[i]? with
    | none => simp
    | some x => exact hp x (List.mem_of_getElem? e)
  unfold stO outE
  rw [if_pos rfl, hg, cn_zero, h, sub_zero32 hl]
theorem slots_one {S n j : Nat} (hS : S ≤ 2) (hj : j < n) {U V U' V' : Nat → Nat} {Bs Ks : List (List Nat)} (h1 : ∀ i, i < 1 → (1 ≤ S → cn .f32 ((Bs.getD 0 []).getD i 0) = U i) ∧ (2 ≤ S → cn .f32 ((Bs.getD 1 []).getD i 0) = V i))
    (h2 : ∀ i, i < n → (1 ≤ S → cn .f32 ((Ks.getD 0 []).getD i 0) = U' i) ∧ (2 ≤ S → cn .f32 ((Ks.getD 1 []).getD i 0) = V' i)) (hU : U 0 = U' j) (hV : V 0 = V' j) :
    ∀ k, k < S → cn .f32 ((Bs.getD k []).getD 0 0) = cn .f32 ((Ks.getD k []).getD j 0) := by
  intro k hk
  rcases k with _ | _ | k
  · rw [(h1 0 (by omega)).1 (by omega), (h2 j hj).1 (by omega), hU]
  · rw [(h1 0 (by omega)).2 (by omega), (h2 j hj).2 (by omega), hV]
  · omega
theorem map_ext {n : Nat} {xs ys : List Nat} (h1 : xs.length = n) (h2 : ys.length = n) (h : ∀ i, i < n → cn .f32 (xs.getD i 0) = cn .f32 (ys.getD i 0)) : xs.map (cn .f32) = ys.map (cn .f32) := by
  refine List.ext_getElem (by rw [List.length_map, List.length_map, h1, h2]) fun i hi hj => ?_
  rw [List.length_map] at hi hj
  have := h i (by omega)
  rw [List.getD_eq_getElem?_getD, List.getD_eq_getElem?_getD, List.getElem?_eq_getElem hi, List.getElem?_eq_getElem hj] at this
  simpa using this
theorem wrap_one {j : Nat} (h : j ≤ 1000) : IntKind.i64.wrap ((j : Int) + 1) = (j : Int) + 1 := by
  rw [IntKind.wrap_i64]; omega
theorem owns_lit (w : World) (base : Nat) (e : TypeId) (x : Value) (hb : base ≤ w.heap.size) : (w.alloc (.cells #[x] e)).ownsRow base e 1 (.slice (some ⟨w.heap.size, 0, none⟩) 1 1) 1 [x] :=
  ⟨rfl, .inr ⟨w.heap.size, 1, #[x], rfl, hb, heap_alloc_new w _, Nat.le_refl _, by decide, rfl, rfl⟩⟩
theorem oneOf_take {Ys : List (List Nat)} {i m : Nat} (hm : m < Ys.length) : (oneOf Ys i).take (m + 1) = (oneOf Ys i).take m ++ [[(Ys.getD m []).getD i 0]] := by
  rw [List.take_add_one, ← oneOf_getD hm, List.getD_eq_getElem?_getD, List.getElem?_eq_getElem (by rw [oneOf_length]; exact hm)]; rfl
theorem repF_lit (w : World) (base x : Nat) (hb : base ≤ w.heap.size) (hx : x < 4294967296) : RepF (w.alloc (.cells #[.float .f32 x] 24)) base (w.alloc (.cells #[.float .f32 x] 24)).heap.size (some ⟨w.heap.size, 0, none⟩) 1 1 [x] := by
  obtain ⟨ad, cap, e, h⟩ := RepF.of_owns (xs := [x]) (owns_lit w base 24 (.float .f32 x) hb) (by simpa using hx)
  cases e
  exact h
/-- a step of fitting lists, with what the rows are told place by place -/
theorem step_fit (w : World) {lo hi : Nat} (k : Nat) (hk : k < 5) (r b1 b2 ep : Nat) (n : Nat) (hn : n ≤ 256) (pa : Option Addr) (pc : Nat) (ps : List Nat) (hp : F32s w pa pc ps) (hpn : ps.length = n) (ga : Option Addr) (gc : Nat) (gs : List Nat) (hg : F32s w ga gc gs) (hgn : gs.length = n)
    (sa : Option Addr) (S sc : Nat) (hS : S = slotsN k) (vs : List Value) (Xs : List (List Nat)) (h : RepFF w lo hi sa S sc vs Xs) (hr : ∀ i, i < Xs.length → (Xs.getD i []).length = n) (s : Nat) (hs : s ≤ 999) :
    Calls Try.prog 12 #[.agg #[.int .i64 k, .float .f32 r, .float .f32 b1, .float .f32 b2, .float .f32 ep], .slice pa n pc, .slice ga n gc, .slice sa S sc, .int .i64 s] w fun e w' =>
      ∃ a1 c1 ys a2 c2 us Ys, e = .returned (.tuple #[.slice a1 n c1, .slice a2 S c2, .bool true]) ∧ Hid (RepF w' w.heap.size w'.heap.size a1 n c1 ys) ∧ Hid (RepFF w' w.heap.size w'.heap.size a2 S c2 us Ys) ∧ Hid (∀ i, i < n → cn .f32 (ys.getD i 0) = stO k r b1 b2 ep s ps gs Xs i) ∧
        Hid (∀ j, j < Ys.length → (Ys.getD j []).length = n) ∧ Hid (∀ i, i < n → (1 ≤ S → cn .f32 ((Ys.getD 0 []).getD i 0) = stU k b1 b2 gs Xs i) ∧ (2 ≤ S → cn .f32 ((Ys.getD 1 []).getD i 0) = stV b2 gs Xs i)) ∧ Below w.heap.size w w' := by
  have hS2 : S ≤ 2 := by rw [hS]; exact slotsN_le _
  have hxl := h.len
  have hok : stepOk (k : Int) ps.length gs.length Xs s = true := by rw [hpn, hgn]; exact stepOk_rows hk hn hs (by rw [hxl, hS]) hr
  have h1 := impl_StepParams_yes w (k : Int) r b1 b2 ep pa pc ps hp ga gc gs hg sa S sc vs Xs h (by omega) s hok
  rw [hpn, hgn, Int.toNat_natCast] at h1
  refine h1.mono ?_
  rintro e w' ⟨a1, n1, c1, ys, a2, n2, c2, us, Ys, lo1, hi1, lo2, hi2, rfl, r1, r2, y1, y2, -, ⟨g1, g2, g3, g4, -⟩, hb⟩
  have e1 : n1 = n := by
    have := congrArg List.length y1
    rw [List.length_map, listOf_length, r1.len] at this; exact this
  rw [← hS] at y2
  obtain ⟨t1, t2, t3⟩ := slots_shape hS2 y2
  have e2 : n2 = S := by rw [← r2.len, t1]
  subst e1 e2
  refine ⟨a1, c1, ys, a2, c2, us, Ys, rfl, Lib.hid (r1.bounds g1 g2), Lib.hid (r2.bounds g3 g4), Lib.hid (fun i hi => ?_), Lib.hid t2, Lib.hid t3, hb⟩
  have := congrArg (fun l => l.getD i 0) y1
  simp only [cn_getD] at this
  rw [this, listOf_getD _ hi]
/-- the plain step without gradients and slots -/
theorem step_plain (w : World) (r : Nat) (h0 : fop .mul .f32 (cn .f32 r) 0 = 0) (n : Nat) (hn : n ≤ 256) (pa : Option Addr) (pc : Nat) (ps : List Nat) (hp : F32s w pa pc ps) (hpn : ps.length = n) (ga : Option Addr) (gc : Nat) (hg : F32s w ga gc (List.replicate n 0))
    (sa : Option Addr) (sc : Nat) {lo hi : Nat} (h : RepFF w lo hi sa 0 sc [] []) (s : Nat) (hs : s ≤ 999) :
    Calls Try.prog 12 #[.agg #[.int .i64 0, .float .f32 r, .float .f32 0, .float .f32 0, .float .f32 0], .slice pa n pc, .slice ga n gc, .slice sa 0 sc, .int .i64 s] w fun e w' =>
      ∃ a1 c1 ys a2 c2, e = .returned (.tuple #[.slice a1 n c1, .slice a2 0 c2, .bool true]) ∧ Hid (F32s w' a1 c1 ys) ∧ Hid (ys.length = n) ∧ Hid (ys.map (cn .f32) = ps.map (cn .f32)) ∧ Below w.heap.size w w' := by
  have h1 := step_fit w 0 (by decide) r 0 0 0 n hn pa pc ps hp hpn ga gc _ hg (by simp) sa 0 sc rfl [] [] h (fun i hi => by simp at hi) s hs
  refine h1.mono ?_
  rintro e w' ⟨a1, c1, ys, a2, c2, us, Ys, rfl, r1, r2, y1, -, -, hb⟩
  exact ⟨a1, c1, ys, a2, c2, rfl, Lib.hid r1.out.arg, Lib.hid r1.out.len, Lib.hid (map_ext r1.out.len hpn fun i hi => (y1.out i hi).trans (stO_plain h0 hp.lt)), hb⟩
end Go.Proofs.Ytnhikdjljjemlaa
