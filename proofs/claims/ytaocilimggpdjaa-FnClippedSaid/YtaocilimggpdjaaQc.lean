/- Plain laws of floats as rational numbers: what rounding leaves. No condition. -/
import Derived.Test.YtaocilimggpdjaaQa
namespace Go.Proofs.Ytaocilimggpdjaa
open Go Go.RowKit Ieee
set_option linter.unusedVariables false
set_option linter.unusedSimpArgs false
/-- 'r' is the rung nearest to 'V' (in units of the least place), the even one in the middle -/
structure Mid (f : Format) (V : Rat) (r : Nat) : Prop where
  le : r ≤ f.infRung
  low : r = 0 ∨ ((nval f (r - 1) : Rat) + nval f r ≤ 2 * V ∧ (r % 2 = 1 → (nval f (r - 1) : Rat) + nval f r < 2 * V))
  high : r = f.infRung ∨ (2 * V ≤ (nval f r : Rat) + nval f (r + 1) ∧ (r % 2 = 1 → 2 * V < (nval f r : Rat) + nval f (r + 1)))
theorem nat_rat_le {a b : Nat} (h : a ≤ b) : (a : Rat) ≤ b := Rat.natCast_le_natCast.2 h
theorem nat_rat_lt {a b : Nat} (h : a < b) : (a : Rat) < b := Rat.natCast_lt_natCast.2 h
theorem nval_le {f : Format} {x y : Nat} (h : x ≤ y) : nval f x ≤ nval f y := by
  rcases Nat.lt_or_ge x y with h1 | h1
  · exact Nat.le_of_lt (nval_lt h1)
  · have : x = y := by omega
    rw [this]; exact Nat.le_refl _
theorem Mid.mono {f : Format} {V W : Rat} {r s : Nat} (h : Mid f V r) (k : Mid f W s) (hv : V ≤ W) : r ≤ s := by
  rcases Nat.lt_or_ge s r with hlt | hge
  · exfalso
    have hr0 : r ≠ 0 := by omega
    have hs : s ≠ f.infRung := by have := h.le; omega
    obtain ⟨l1, l2⟩ := h.low.resolve_left hr0
    obtain ⟨u1, u2⟩ := k.high.resolve_left hs
    have a1 : (nval f s : Rat) ≤ nval f (r - 1) := nat_rat_le (nval_le (by omega))
    have a2 : (nval f (s + 1) : Rat) ≤ nval f r := nat_rat_le (nval_le (by omega))
    rcases Nat.lt_or_ge (s + 1) r with h2 | h2
    · have a3 : (nval f (s + 1) : Rat) < nval f r := nat_rat_lt (nval_lt h2)
      grind
    · have e : r = s + 1 := by omega
      subst e
      rcases Nat.mod_two_eq_zero_or_one s with h3 | h3
      · have := l2 (by omega)
        simp only [Nat.add_sub_cancel] at this l1
        grind
      · have := u2 h3
        simp only [Nat.add_sub_cancel] at l1
        grind
  · exact hge
theorem Mid.unique {f : Format} {V : Rat} {r s : Nat} (h : Mid f V r) (k : Mid f V s) : r = s :=
  Nat.le_antisymm (h.mono k Rat.le_refl) (k.mono h Rat.le_refl)
/-- what a number is exactly -/
theorem Mid.exact {f : Format} {r : Nat} (hr : r ≤ f.infRung) : Mid f (nval f r : Rat) r := by
  refine ⟨hr, ?_, ?_⟩
  · rcases Nat.eq_zero_or_pos r with h | h
    · exact .inl h
    · right
      have : (nval f (r - 1) : Rat) < nval f r := nat_rat_lt (nval_lt (by omega))
      constructor
      · grind
      · intro _; grind
  · right
    have : (nval f r : Rat) < nval f (r + 1) := nat_rat_lt (nval_lt (by omega))
    constructor
    · grind
    · intro _; grind
theorem Mid.half_even {f : Format} {r : Nat} (hr : r < f.infRung) {V : Rat} (hV : 2 * V = (nval f r : Rat) + nval f (r + 1)) : Mid f V (if r % 2 = 0 then r else r + 1) := by
  by_cases h : r % 2 = 0
  · rw [if_pos h]
    refine ⟨by omega, ?_, .inr ⟨by grind, fun h1 => by omega⟩⟩
    rcases Nat.eq_zero_or_pos r with h2 | h2
    · exact .inl h2
    · right
      have : (nval f (r - 1) : Rat) ≤ nval f (r + 1) := nat_rat_le (nval_le (by omega))
      exact ⟨by grind, fun h1 => by omega⟩
  · rw [if_neg h]
    refine ⟨by omega, .inr ⟨?_, fun h1 => by omega⟩, .inr ⟨?_, fun h1 => by omega⟩⟩
    · simp only [Nat.add_sub_cancel]; grind
    · have : (nval f r : Rat) ≤ nval f (r + 1 + 1) := nat_rat_le (nval_le (by omega))
      grind
/-- an integer nearest to a number -/
theorem cut_even (neg : Bool) (N d : Nat) : (2 * (Toward.even.cut neg N d : Rat) - 1) * (2 : Rat) ^ d ≤ 2 * N ∧ 2 * (N : Rat) ≤ (2 * (Toward.even.cut neg N d : Rat) + 1) * (2 : Rat) ^ d ∧
    ((Toward.even.cut neg N d) % 2 = 1 → (2 * (Toward.even.cut neg N d : Rat) - 1) * (2 : Rat) ^ d < 2 * N ∧ 2 * (N : Rat) < (2 * (Toward.even.cut neg N d : Rat) + 1) * (2 : Rat) ^ d) := by
  have hp : ∀ n : Nat, ((2 ^ n : Nat) : Rat) = (2 : Rat) ^ n := fun n => by rw [Rat.natCast_pow]; rfl
  unfold Toward.cut
  simp only [Nat.shiftLeft_eq, Nat.one_mul]
  by_cases h : d ≤ N.log2 + 2
  · rw [Nat.min_eq_left h]
    obtain ⟨g, hg⟩ : ∃ g, g = 2 ^ d := ⟨_, rfl⟩
    have hgp : 0 < g := by rw [hg]; exact Nat.two_pow_pos _
    rw [← hp, ← hg]
    have hdiv := Nat.div_add_mod N g
    have hmod := Nat.mod_lt N hgp
    generalize N / g = q at *
    generalize N % g = t at *
    obtain ⟨M, hM⟩ : ∃ M, M = g * q := ⟨_, rfl⟩
    have hN : (N : Rat) = (g : Rat) * q + t := by rw [← hdiv, Rat.natCast_add, Rat.natCast_mul]
    have ht0 : (0 : Rat) ≤ t := Rat.natCast_nonneg
    have htg : (t : Rat) < g := nat_rat_lt hmod
    have hg0 : (0 : Rat) < g := by have := nat_rat_lt hgp; simpa using this
    rw [hN]
    by_cases h1 : g < 2 * t
    · have h1r : (g : Rat) < 2 * t := by have := nat_rat_lt h1; rw [Rat.natCast_mul] at this; simpa using this
      simp only [h1, decide_true, Bool.true_or, Bool.toNat_true]
      rw [Rat.natCast_add]
      refine ⟨by grind, by grind, fun _ => ⟨by grind, by grind⟩⟩
    · by_cases h2 : g = 2 * t
      · have h2r : (g : Rat) = 2 * t := by rw [h2, Rat.natCast_mul]; rfl
        by_cases h3 : q % 2 = 1
        · have e : (decide (g < 2 * t) || (g == 2 * t && q % 2 == 1)) = true := by simp [h1, ← h2, h3]
          rw [e]
          simp only [Bool.toNat_true]
          rw [Rat.natCast_add]
          refine ⟨by grind, by grind, fun h4 => by omega⟩
        · have e : (decide (g < 2 * t) || (g == 2 * t && q % 2 == 1)) = false := by simp [h1, h3]
          rw [e]
          simp only [Bool.toNat_false, Nat.add_zero]
          refine ⟨by grind, by grind, fun h4 => by omega⟩
      · have h4 : 2 * t < g := by omega
        have h4r : 2 * (t : Rat) < g := by have := nat_rat_lt h4; rw [Rat.natCast_mul] at this; simpa using this
        have e : (decide (g < 2 * t) || (g == 2 * t && q % 2 == 1)) = false := by simp [h1, h2]
        rw [e]
        simp only [Bool.toNat_false, Nat.add_zero]
        refine ⟨by grind, by grind, fun _ => ⟨by grind, by grind⟩⟩
  · rw [Nat.min_eq_right (by omega)]
    have hlt : N < 2 ^ (N.log2 + 1) := Nat.lt_log2_self
    have h2 : 2 ^ (N.log2 + 2) = 2 * 2 ^ (N.log2 + 1) := by rw [Nat.pow_succ]; omega
    have e1 : N / 2 ^ (N.log2 + 2) = 0 := Nat.div_eq_of_lt (by omega)
    have e2 : N % 2 ^ (N.log2 + 2) = N := Nat.mod_eq_of_lt (by omega)
    rw [e1, e2]
    have e3 : (decide (2 ^ (N.log2 + 2) < 2 * N) || (2 ^ (N.log2 + 2) == 2 * N && 0 % 2 == 1)) = false := by
      simp; omega
    rw [e3]
    simp only [Bool.toNat_false, Nat.add_zero]
    have h5 : 2 * N < 2 ^ d := by
      have : 2 ^ (N.log2 + 2) ≤ 2 ^ d := Nat.pow_le_pow_right (by decide) (by omega)
      omega
    have h5r : 2 * (N : Rat) < (2 : Rat) ^ d := by have := nat_rat_lt h5; rw [hp, Rat.natCast_mul] at this; simpa using this
    have h6 : (0 : Rat) ≤ N := Rat.natCast_nonneg
    have h7 : (0 : Rat) < (2 : Rat) ^ d := by rw [← hp]; have := nat_rat_lt (Nat.two_pow_pos d); simpa using this
    refine ⟨by grind, by grind, fun h8 => by omega⟩
theorem binade_pos (f : Format) : 0 < f.binade := Nat.two_pow_pos _
/-- the rungs of one binade -/
theorem nval_rung (f : Format) (e k : Nat) (h1 : e = 0 ∨ f.binade ≤ k) (h2 : k ≤ 2 * f.binade) : nval f (e * f.binade + k) = k * 2 ^ e := by
  have hB := binade_pos f
  unfold nval
  rcases Nat.lt_or_ge k f.binade with hk | hk
  · have he : e = 0 := by omega
    subst he
    rw [if_pos (by omega)]; simp
  · rw [if_neg (by have := Nat.zero_le (e * f.binade); omega)]
    rcases Nat.lt_or_ge k (2 * f.binade) with hk2 | hk2
    · have e1 : (e * f.binade + k) / f.binade = e + 1 := by
        rw [Nat.add_comm, Nat.add_mul_div_right _ _ hB]
        have : k / f.binade = 1 := by
          rw [Nat.div_eq_iff hB]; omega
        omega
      have e2 : (e * f.binade + k) % f.binade = k - f.binade := by
        rw [Nat.add_comm, Nat.add_mul_mod_self_right, Nat.mod_eq_sub_mod hk, Nat.mod_eq_of_lt (by omega)]
      rw [e1, e2]
      congr 1; omega
    · have hke : k = 2 * f.binade := by omega
      subst hke
      have e0 : e * f.binade + 2 * f.binade = (e + 2) * f.binade := by rw [Nat.add_mul]
      rw [e0, Nat.mul_div_cancel _ hB, Nat.mul_mod_left]
      simp only [Nat.add_zero]
      rw [show e + 2 - 1 = e + 1 by omega, Nat.pow_succ]
      rw [Nat.mul_comm (2 ^ e) 2, ← Nat.mul_assoc, Nat.mul_comm f.binade 2]
theorem binade_even (f : Format) (hF : 1 ≤ f.fractionBits) (e k : Nat) : (e * f.binade + k) % 2 = k % 2 := by
  have : f.binade % 2 = 0 := by
    unfold Format.binade
    obtain ⟨n, hn⟩ : ∃ n, f.fractionBits = n + 1 := ⟨f.fractionBits - 1, by omega⟩
    rw [hn, Nat.pow_succ]; omega
  rw [Nat.add_mod, Nat.mul_mod, this]; simp
/-- what the format writes is nearest -/
theorem near_mid (f : Format) (hF : 1 ≤ f.fractionBits) (neg : Bool) (m : Nat) (p : Int) : ∃ r, f.nearest neg m p = f.word neg r ∧ Mid f ((m : Rat) * (2 : Rat) ^ (p - f.leastPlace)) r := by
  have hB := binade_pos f
  by_cases hm : m = 0
  · subst hm
    refine ⟨0, by unfold Format.nearest; rw [if_pos rfl], Nat.zero_le _, .inl rfl, .inr ?_⟩
    have h1 : (0 : Rat) ≤ nval f 0 := Rat.natCast_nonneg
    have h2 : (nval f 0 : Rat) < nval f (0 + 1) := nat_rat_lt (nval_lt (by omega))
    have h3 : ((0 : Nat) : Rat) = 0 := rfl
    rw [h3, Rat.zero_mul]
    exact ⟨by grind, fun h => by omega⟩
  unfold Format.nearest
  rw [if_neg hm]
  obtain ⟨last, hlast⟩ : ∃ last, last = max (p + m.log2 - f.fractionBits) f.leastPlace := ⟨_, rfl⟩
  simp only [← hlast]
  obtain ⟨e, he⟩ : ∃ e : Nat, last - f.leastPlace = e := ⟨(last - f.leastPlace).toNat, by omega⟩
  rw [he]
  obtain ⟨k, hk⟩ : ∃ k, k = Toward.even.cut neg (m <<< (p - last).toNat) (last - p).toNat := ⟨_, rfl⟩
  rw [← hk]
  obtain ⟨c1, c2, c3⟩ := cut_even neg (m <<< (p - last).toNat) (last - p).toNat
  rw [← hk] at c1 c2 c3
  -- the number in units of its last place
  obtain ⟨W, hW⟩ : ∃ W : Rat, W = (m : Rat) * (2 : Rat) ^ (p - last) := ⟨_, rfl⟩
  have hpd : (0 : Rat) < (2 : Rat) ^ (last - p).toNat := Rat.pow_pos (by decide)
  have hWN : ((m <<< (p - last).toNat : Nat) : Rat) = W * (2 : Rat) ^ (last - p).toNat := by
    rw [hW, Nat.shiftLeft_eq, Rat.natCast_mul, ← pw_nat]
    have e1 : (2 : Rat) ^ (p - last) * (2 : Rat) ^ (last - p).toNat = (2 : Rat) ^ (((p - last).toNat : Nat) : Int) := by
      rw [← Rat.zpow_natCast (2 : Rat) (last - p).toNat, ← pw_add]; congr 1; omega
    rw [← e1]; grind
  rw [hWN] at c1 c2 c3
  have d1 : 2 * (k : Rat) - 1 ≤ 2 * W := by
    apply Rat.le_of_mul_le_mul_right _ hpd; grind
  have d2 : 2 * W ≤ 2 * (k : Rat) + 1 := by
    apply Rat.le_of_mul_le_mul_right _ hpd; grind
  have d3 : k % 2 = 1 → 2 * (k : Rat) - 1 < 2 * W ∧ 2 * W < 2 * (k : Rat) + 1 := by
    intro h
    obtain ⟨x1, x2⟩ := c3 h
    constructor
    · rw [← Rat.not_le]; intro h; have := Rat.mul_le_mul_of_nonneg_right h (Rat.le_of_lt hpd); grind
    · rw [← Rat.not_le]; intro h; have := Rat.mul_le_mul_of_nonneg_right h (Rat.le_of_lt hpd); grind
  clear c1 c2 c3 hWN hpd
  have hVW : (m : Rat) * (2 : Rat) ^ (p - f.leastPlace) = W * (2 : Rat) ^ e := by
    rw [hW, ← Rat.zpow_natCast (2 : Rat) e]
    have : (2 : Rat) ^ (p - f.leastPlace) = (2 : Rat) ^ (p - last) * (2 : Rat) ^ (e : Int) := by rw [← pw_add]; congr 1; omega
    rw [this]; grind
  rw [hVW]
  -- the size of it
  have hlog1 := Nat.log2_self_le hm
  have hlog2 : m < 2 ^ (m.log2 + 1) := Nat.lt_log2_self
  have hBF : (f.binade : Rat) = (2 : Rat) ^ (f.fractionBits : Int) := by rw [pw_nat]; rfl
  have hW2 : W < 2 * f.binade := by
    have h1 : (m : Rat) < (2 : Rat) ^ ((m.log2 + 1 : Nat) : Int) := by rw [pw_nat]; exact nat_rat_lt hlog2
    have h2 : W < (2 : Rat) ^ ((m.log2 + 1 : Nat) : Int) * (2 : Rat) ^ (p - last) := by
      rw [hW]; exact Rat.mul_lt_mul_of_pos_right h1 (pw_pos _)
    have h3 : (2 : Rat) ^ ((m.log2 + 1 : Nat) : Int) * (2 : Rat) ^ (p - last) ≤ 2 * f.binade := by
      rw [← pw_add, hBF]
      have e21 : (2 : Rat) ^ (1 : Int) = 2 := by decide +kernel
      have h4 : (2 : Rat) * (2 : Rat) ^ (f.fractionBits : Int) = (2 : Rat) ^ ((f.fractionBits : Int) + 1) := by rw [pw_add, e21]; grind
      rw [h4]
      have h5 : ((m.log2 + 1 : Nat) : Int) + (p - last) ≤ (f.fractionBits : Int) + 1 := by omega
      obtain ⟨n, hn⟩ : ∃ n : Nat, (f.fractionBits : Int) + 1 = ((m.log2 + 1 : Nat) : Int) + (p - last) + n := ⟨((f.fractionBits : Int) + 1 - (((m.log2 + 1 : Nat) : Int) + (p - last))).toNat, by omega⟩
      rw [hn, pw_add _ (n : Int)]
      have h6 : (1 : Rat) ≤ (2 : Rat) ^ (n : Int) := by rw [pw_nat]; have := nat_rat_le (Nat.one_le_two_pow (n := n)); simpa using this
      have h7 := pw_pos (((m.log2 + 1 : Nat) : Int) + (p - last))
      have := Rat.mul_le_mul_of_nonneg_left h6 (Rat.le_of_lt h7)
      grind
    grind
  have hW1 : e = 0 ∨ (f.binade : Rat) ≤ W := by
    rcases Nat.eq_zero_or_pos e with h0 | h0
    · exact .inl h0
    · right
      have hl : last = p + m.log2 - f.fractionBits := by omega
      have h1 : (2 : Rat) ^ ((m.log2 : Nat) : Int) ≤ (m : Rat) := by rw [pw_nat]; exact nat_rat_le hlog1
      have h2 : (2 : Rat) ^ ((m.log2 : Nat) : Int) * (2 : Rat) ^ (p - last) ≤ W := by
        rw [hW]; exact Rat.mul_le_mul_of_nonneg_right h1 (Rat.le_of_lt (pw_pos _))
      rw [← pw_add] at h2
      have h3 : ((m.log2 : Nat) : Int) + (p - last) = f.fractionBits := by omega
      rw [h3, ← hBF] at h2
      exact h2
  have hW0 : 0 ≤ W := by rw [hW]; exact Rat.mul_nonneg Rat.natCast_nonneg (Rat.le_of_lt (pw_pos _))
  have hk2 : k ≤ 2 * f.binade := by
    have h1 : (2 * k : Nat) < 4 * f.binade + 2 := by
      have : ((2 * k : Nat) : Rat) < ((4 * f.binade + 2 : Nat) : Rat) := by
        rw [Rat.natCast_mul, Rat.natCast_add, Rat.natCast_mul]
        have e2 : ((2 : Nat) : Rat) = 2 := rfl
        have e4 : ((4 : Nat) : Rat) = 4 := rfl
        rw [e2, e4]; grind
      exact Rat.natCast_lt_natCast.1 this
    omega
  have hk1 : e = 0 ∨ f.binade ≤ k := by
    rcases hW1 with h | h
    · exact .inl h
    · right
      have : (2 * f.binade : Nat) < 2 * k + 2 := by
        have : ((2 * f.binade : Nat) : Rat) < ((2 * k + 2 : Nat) : Rat) := by
          rw [Rat.natCast_mul, Rat.natCast_add, Rat.natCast_mul]
          have e2 : ((2 : Nat) : Rat) = 2 := rfl
          rw [e2]; grind
        exact Rat.natCast_lt_natCast.1 this
      omega
  have hE : (0 : Rat) < (2 : Rat) ^ e := Rat.pow_pos (by decide)
  have hEn : ∀ j : Nat, ((j * 2 ^ e : Nat) : Rat) = (j : Rat) * (2 : Rat) ^ e := fun j => by rw [Rat.natCast_mul, Rat.natCast_pow]; rfl
  obtain ⟨R, hR⟩ : ∃ R, R = e * f.binade + k := ⟨_, rfl⟩
  have hnR : (nval f R : Rat) = (k : Rat) * (2 : Rat) ^ e := by rw [hR, nval_rung f e k hk1 hk2, hEn]
  have hpar : R % 2 = k % 2 := by rw [hR]; exact binade_even f hF e k
  -- below
  have hlow : R = 0 ∨ ((nval f (R - 1) : Rat) + nval f R ≤ 2 * (W * (2 : Rat) ^ e) ∧ (R % 2 = 1 → (nval f (R - 1) : Rat) + nval f R < 2 * (W * (2 : Rat) ^ e))) := by
    rcases Nat.eq_zero_or_pos R with h0 | h0
    · exact .inl h0
    · right
      by_cases hkb : e = 0 ∨ f.binade + 1 ≤ k
      · have hk0 : 1 ≤ k := by
          rcases hkb with h | h
          · subst h; omega
          · omega
        have hprev : (nval f (R - 1) : Rat) = ((k : Rat) - 1) * (2 : Rat) ^ e := by
          have : R - 1 = e * f.binade + (k - 1) := by omega
          rw [this, nval_rung f e (k - 1) (by omega) (by omega), hEn]
          congr 1
          have : ((k - 1 + 1 : Nat) : Rat) = (k : Rat) := by congr 1; omega
          rw [Rat.natCast_add] at this
          have e1 : ((1 : Nat) : Rat) = 1 := rfl
          rw [e1] at this; grind
        rw [hprev, hnR]
        have g1 := Rat.mul_le_mul_of_nonneg_right d1 (Rat.le_of_lt hE)
        refine ⟨by grind, fun h => ?_⟩
        have g2 := Rat.mul_lt_mul_of_pos_right (d3 (by omega)).1 hE
        grind
      · have he1 : e ≠ 0 := fun h => hkb (.inl h)
        have hke : k = f.binade := by have := hk1.resolve_left he1; omega
        have hWb := hW1.resolve_left he1
        have hprev : (nval f (R - 1) : Rat) < nval f R := nat_rat_lt (nval_lt (by omega))
        have g1 := Rat.mul_le_mul_of_nonneg_right hWb (Rat.le_of_lt hE)
        rw [hnR] at hprev ⊢
        have hkr : (k : Rat) = f.binade := by rw [hke]
        rw [hkr] at hprev ⊢
        exact ⟨by grind, fun _ => by grind⟩
  -- above
  have hhigh : 2 * (W * (2 : Rat) ^ e) ≤ (nval f R : Rat) + nval f (R + 1) ∧ (R % 2 = 1 → 2 * (W * (2 : Rat) ^ e) < (nval f R : Rat) + nval f (R + 1)) := by
    by_cases hkb : k + 1 ≤ 2 * f.binade
    · have hnext : (nval f (R + 1) : Rat) = ((k : Rat) + 1) * (2 : Rat) ^ e := by
        have : R + 1 = e * f.binade + (k + 1) := by omega
        rw [this, nval_rung f e (k + 1) (by omega) hkb, hEn, Rat.natCast_add]; rfl
      rw [hnext, hnR]
      have g1 := Rat.mul_le_mul_of_nonneg_right d2 (Rat.le_of_lt hE)
      refine ⟨by grind, fun h => ?_⟩
      have g2 := Rat.mul_lt_mul_of_pos_right (d3 (by omega)).2 hE
      grind
    · have hke : k = 2 * f.binade := by omega
      have hnext : (nval f R : Rat) < nval f (R + 1) := nat_rat_lt (nval_lt (by omega))
      have g1 := Rat.mul_lt_mul_of_pos_right hW2 hE
      rw [hnR] at hnext ⊢
      have hkr : (k : Rat) = 2 * f.binade := by rw [hke, Rat.natCast_mul]; rfl
      rw [hkr] at hnext ⊢
      exact ⟨by grind, fun _ => by grind⟩
  rw [Int.toNat_natCast, ← hR]
  refine ⟨min R f.infRung, rfl, Nat.min_le_right _ _, ?_, ?_⟩
  · rcases Nat.lt_or_ge f.infRung R with h | h
    · rw [Nat.min_eq_right (by omega)]
      rcases Nat.eq_zero_or_pos f.infRung with h0 | h0
      · exact .inl h0
      · right
        have hev : f.infRung % 2 = 0 := by
          unfold Format.infRung
          have := binade_even f hF (2 ^ f.exponentBits - 1) 0
          simpa using this
        obtain ⟨l1, _⟩ := hlow.resolve_left (by omega)
        have a1 : (nval f (f.infRung - 1) : Rat) ≤ nval f (R - 1) := nat_rat_le (nval_le (by omega))
        have a2 : (nval f f.infRung : Rat) ≤ nval f R := nat_rat_le (nval_le (by omega))
        exact ⟨by grind, fun h => by omega⟩
    · rw [Nat.min_eq_left h]; exact hlow
  · rcases Nat.lt_or_ge R f.infRung with h | h
    · rw [Nat.min_eq_left (by omega)]; exact .inr hhigh
    · rw [Nat.min_eq_right h]; exact .inl rfl
end Go.Proofs.Ytaocilimggpdjaa
