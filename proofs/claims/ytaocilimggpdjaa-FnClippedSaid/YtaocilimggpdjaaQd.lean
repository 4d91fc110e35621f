/- Plain laws of floats as rational numbers: each operation leaves the nearest number. No condition. -/
import Derived.Test.YtaocilimggpdjaaQc
namespace Go.Proofs.Ytaocilimggpdjaa
open Go Go.RowKit Ieee
set_option linter.unusedVariables false
set_option linter.unusedSimpArgs false
theorem rat_tri (a b : Rat) : a < b ∨ a = b ∨ b < a := by grind
def rabs (q : Rat) : Rat := if q < 0 then -q else q
theorem rabs_nonneg (q : Rat) : 0 ≤ rabs q := by unfold rabs; split <;> grind
theorem rabs_pos {q : Rat} (h : 0 ≤ q) : rabs q = q := by unfold rabs; rw [if_neg (by grind)]
theorem rabs_neg {q : Rat} (h : q ≤ 0) : rabs q = -q := by unfold rabs; split <;> grind
theorem sg_abs (s : Bool) {v : Rat} (hv : 0 ≤ v) : rabs (sg s * v) = v := by
  unfold sg
  cases s
  · simp only [Bool.false_eq_true, if_false]; rw [Rat.one_mul, rabs_pos hv]
  · simp only [if_true]; rw [rabs_neg (by grind)]; grind
/-- the word of the number nearest to 'q' -/
def Near (f : Format) (q : Rat) (w : Nat) : Prop :=
  ∃ s r, w = f.word s r ∧ Mid f (rabs q * (2 : Rat) ^ (-f.leastPlace)) r ∧ (q < 0 → s = true) ∧ (0 < q → s = false)
/-- a finite word -/
def Fin (f : Format) (w : Nat) : Prop := ∃ s r, w = f.word s r ∧ r < f.infRung
/-- what a word is worth -/
def val (f : Format) (w : Nat) : Rat := rv (f.read w)
theorem read_num (f : Format) (s : Bool) {r : Nat} (hr : r < f.infRung) : ∃ m p, f.read (f.word s r) = .number s m p ∧ (m : Rat) * (2 : Rat) ^ p = (nval f r : Rat) * (2 : Rat) ^ f.leastPlace := by
  obtain ⟨m, p, h1, h2, h3⟩ := read_fin f s hr
  refine ⟨m, p, h1, ?_⟩
  rw [← h3, Nat.shiftLeft_eq, Rat.natCast_mul, ← pw_nat]
  have : (2 : Rat) ^ p = (2 : Rat) ^ (((p - f.leastPlace).toNat : Nat) : Int) * (2 : Rat) ^ f.leastPlace := by rw [← pw_add]; congr 1; omega
  rw [this]; grind
theorem val_word (f : Format) (s : Bool) {r : Nat} (hr : r < f.infRung) : val f (f.word s r) = sg s * ((nval f r : Rat) * (2 : Rat) ^ f.leastPlace) := by
  obtain ⟨m, p, h1, h2⟩ := read_num f s hr
  unfold val
  rw [h1]
  unfold rv num
  rw [← h2]; grind
theorem pw_cancel (p : Int) : (2 : Rat) ^ p * (2 : Rat) ^ (-p) = 1 := by
  rw [← pw_add, show p + -p = 0 by omega, pw_zero]
theorem units (f : Format) (v : Rat) : v * (2 : Rat) ^ f.leastPlace * (2 : Rat) ^ (-f.leastPlace) = v := by
  rw [Rat.mul_assoc, pw_cancel]; grind
theorem units' (f : Format) (v : Rat) : v * (2 : Rat) ^ (-f.leastPlace) * (2 : Rat) ^ f.leastPlace = v := by
  rw [Rat.mul_assoc, Rat.mul_comm ((2 : Rat) ^ (-f.leastPlace)), pw_cancel]; grind
theorem word_inj {f : Format} {s t : Bool} {r q : Nat} (hr : r < f.signWeight) (hq : q < f.signWeight) (h : f.word s r = f.word t q) : s = t ∧ r = q := by
  unfold Format.word at h
  cases s <;> cases t <;> simp at h ⊢ <;> omega
/-- a number of the format is what is nearest to itself -/
theorem Near.exact {f : Format} {w : Nat} (h : Fin f w) {q : Rat} (hq : q = val f w) (h0 : q ≠ 0) {w' : Nat} (hn : Near f q w') : w' = w := by
  obtain ⟨s, r, rfl, hr⟩ := h
  obtain ⟨t, r', rfl, hm, h1, h2⟩ := hn
  rw [val_word f s hr] at hq
  have hp := pw_pos f.leastPlace
  have hn0 : (0 : Rat) ≤ nval f r := Rat.natCast_nonneg
  have hv0 : (0 : Rat) ≤ (nval f r : Rat) * (2 : Rat) ^ f.leastPlace := Rat.mul_nonneg hn0 (Rat.le_of_lt hp)
  have ha : rabs q = (nval f r : Rat) * (2 : Rat) ^ f.leastPlace := by rw [hq]; exact sg_abs s hv0
  rw [ha, units] at hm
  have e := hm.unique (Mid.exact (Nat.le_of_lt hr))
  subst e
  have : t = s := by
    unfold sg at hq
    cases s
    · simp only [Bool.false_eq_true, if_false] at hq
      rw [Rat.one_mul] at hq
      exact h2 (by grind)
    · simp only [if_true] at hq
      exact h1 (by grind)
  rw [this]
/-- the same where zeros are not told apart -/
theorem Near.val_exact {f : Format} {w : Nat} (h : Fin f w) {q : Rat} (hq : q = val f w) {w' : Nat} (hn : Near f q w') : Fin f w' ∧ val f w' = q := by
  by_cases h0 : q = 0
  · obtain ⟨t, r', rfl, hm, h1, h2⟩ := hn
    obtain ⟨s, r, rfl, hr⟩ := h
    have : Mid f (rabs q * (2 : Rat) ^ (-f.leastPlace)) 0 := by
      rw [h0, rabs_pos Rat.le_refl, Rat.zero_mul]
      have := Mid.exact (f := f) (r := 0) (Nat.zero_le _)
      rw [nval_zero] at this; exact this
    have e := hm.unique this
    subst e
    have hi : 0 < f.infRung := by omega
    refine ⟨⟨t, 0, rfl, hi⟩, ?_⟩
    rw [val_word f t hi, nval_zero, h0]
    have e0 : ((0 : Nat) : Rat) = 0 := rfl
    rw [e0]; grind
  · have := hn.exact h hq h0
    subst this
    exact ⟨h, hq.symm⟩
theorem abs_val (f : Format) (s : Bool) {r : Nat} (hr : r < f.infRung) : rabs (val f (f.word s r)) * (2 : Rat) ^ (-f.leastPlace) = nval f r := by
  rw [val_word f s hr, sg_abs s (Rat.mul_nonneg Rat.natCast_nonneg (Rat.le_of_lt (pw_pos _))), units]
/-- nearest numbers stand as the numbers do -/
theorem Near.mono {f : Format} {q q' : Rat} {w w' : Nat} (h : Near f q w) (h' : Near f q' w') (hw : Fin f w) (hw' : Fin f w') (hI : f.infRung < f.signWeight) (hq : q ≤ q') : val f w ≤ val f w' := by
  obtain ⟨s, r, rfl, hm, h1, h2⟩ := h
  obtain ⟨t, r', rfl, hm', h1', h2'⟩ := h'
  obtain ⟨s0, r0, e0, hr⟩ := hw
  obtain ⟨t0, r0', e0', hr'⟩ := hw'
  obtain ⟨rfl, rfl⟩ := word_inj (by have := hm.le; omega) (by omega) e0
  obtain ⟨rfl, rfl⟩ := word_inj (by have := hm'.le; omega) (by omega) e0'
  rw [val_word f _ hr, val_word f _ hr']
  have hp := pw_pos f.leastPlace
  have hpn := pw_pos (-f.leastPlace)
  have n0 : (0 : Rat) ≤ (nval f r : Rat) * (2 : Rat) ^ f.leastPlace := Rat.mul_nonneg Rat.natCast_nonneg (Rat.le_of_lt hp)
  have n1 : (0 : Rat) ≤ (nval f r' : Rat) * (2 : Rat) ^ f.leastPlace := Rat.mul_nonneg Rat.natCast_nonneg (Rat.le_of_lt hp)
  have zero : ∀ {x : Rat} {k : Nat}, x = 0 → Mid f (rabs x * (2 : Rat) ^ (-f.leastPlace)) k → k = 0 := by
    intro x k hx hk
    rw [hx, rabs_pos Rat.le_refl, Rat.zero_mul] at hk
    have := Mid.exact (f := f) (r := 0) (Nat.zero_le _)
    rw [nval_zero] at this
    exact hk.unique this
  have z0 : (nval f 0 : Rat) = 0 := by rw [nval_zero]; rfl
  unfold sg
  rcases rat_tri q 0 with a | a | a
  · rw [h1 a]
    rcases rat_tri q' 0 with b | b | b
    · rw [h1' b]
      have hle : rabs q' * (2 : Rat) ^ (-f.leastPlace) ≤ rabs q * (2 : Rat) ^ (-f.leastPlace) := by
        apply Rat.mul_le_mul_of_nonneg_right _ (Rat.le_of_lt hpn)
        rw [rabs_neg (Rat.le_of_lt a), rabs_neg (Rat.le_of_lt b)]; grind
      have := nat_rat_le (nval_le (f := f) (hm'.mono hm hle))
      have := Rat.mul_le_mul_of_nonneg_right this (Rat.le_of_lt hp)
      simp only [if_true]; grind
    · have := zero b hm'
      subst this
      rw [z0]
      simp only [if_true]; grind
    · rw [h2' b]
      simp only [if_true, Bool.false_eq_true, if_false]; grind
  · have := zero a hm
    subst this
    rw [z0]
    rcases rat_tri q' 0 with b | b | b
    · grind
    · have := zero b hm'
      subst this
      rw [z0]; grind
    · rw [h2' b]
      simp only [Bool.false_eq_true, if_false]; grind
  · rw [h2 a, h2' (by grind)]
    have hle : rabs q * (2 : Rat) ^ (-f.leastPlace) ≤ rabs q' * (2 : Rat) ^ (-f.leastPlace) := by
      apply Rat.mul_le_mul_of_nonneg_right _ (Rat.le_of_lt hpn)
      rw [rabs_pos (Rat.le_of_lt a), rabs_pos (by grind)]; exact hq
    have := nat_rat_le (nval_le (f := f) (hm.mono hm' hle))
    have := Rat.mul_le_mul_of_nonneg_right this (Rat.le_of_lt hp)
    simp only [Bool.false_eq_true, if_false]; grind
/-- what is written for a number -/
theorem near_num (f : Format) (hF : 1 ≤ f.fractionBits) (s : Bool) (m : Nat) (p : Int) : Near f (num s m p) (f.nearest s m p) := by
  obtain ⟨r, h1, h2⟩ := near_mid f hF s m p
  have hp := pw_pos p
  have hm : (0 : Rat) ≤ m := Rat.natCast_nonneg
  have hv : (0 : Rat) ≤ (m : Rat) * (2 : Rat) ^ p := Rat.mul_nonneg hm (Rat.le_of_lt hp)
  refine ⟨s, r, h1, ?_, ?_, ?_⟩
  · have e : num s m p = sg s * ((m : Rat) * (2 : Rat) ^ p) := by unfold num; grind
    rw [e, sg_abs s hv]
    have : (2 : Rat) ^ (p - f.leastPlace) = (2 : Rat) ^ p * (2 : Rat) ^ (-f.leastPlace) := by rw [← pw_add]; congr 1
    rw [this] at h2
    rw [Rat.mul_assoc]; exact h2
  · intro h
    unfold num sg at h
    cases s
    · simp only [Bool.false_eq_true, if_false] at h
      grind
    · rfl
  · intro h
    unfold num sg at h
    cases s
    · rfl
    · simp only [if_true] at h
      grind
end Go.Proofs.Ytaocilimggpdjaa
