/- Plain laws of floats as rational numbers: quotients. No condition. -/
import Derived.Test.YtaocilimggpdjaaQd
namespace Go.Proofs.Ytaocilimggpdjaa
open Go Go.RowKit Ieee
set_option linter.unusedVariables false
set_option linter.unusedSimpArgs false
theorem nval_dvd (f : Format) {k r : Nat} (h : (k + 1) * f.binade ≤ r) : ∃ b, nval f r = b * 2 ^ k := by
  have hB := binade_pos f
  have hr : f.binade ≤ r := by
    have : f.binade ≤ (k + 1) * f.binade := Nat.le_mul_of_pos_left _ (by omega)
    omega
  unfold nval
  rw [if_neg (by omega)]
  have h1 : k + 1 ≤ r / f.binade := (Nat.le_div_iff_mul_le hB).2 h
  obtain ⟨d, hd⟩ : ∃ d, r / f.binade - 1 = d + k := ⟨r / f.binade - 1 - k, by omega⟩
  rw [hd, Nat.pow_add]
  exact ⟨(f.binade + r % f.binade) * 2 ^ d, by rw [Nat.mul_assoc]⟩
theorem nval_head (f : Format) (k : Nat) : nval f ((k + 1) * f.binade) = f.binade * 2 ^ k := by
  have := nval_rung f k f.binade (.inr (Nat.le_refl _)) (by omega)
  rw [← this]; congr 1; rw [Nat.add_mul]; omega
/-- between a number and one that a bit stands for no threshold lies -/
theorem sticky_mid (f : Format) (hF : 1 ≤ f.fractionBits) (dq : Nat) (hd : 2 ^ (f.fractionBits + 1) ≤ dq) (P : Int) {Q : Rat} {r : Nat}
    (hm : Mid f (((2 * dq + 1 : Nat) : Rat) * (2 : Rat) ^ P) r) (q1 : ((2 * dq : Nat) : Rat) * (2 : Rat) ^ P < Q) (q2 : Q < ((2 * dq + 2 : Nat) : Rat) * (2 : Rat) ^ P) : Mid f Q r := by
  have hB := binade_pos f
  have hc := pw_pos P
  have e4 : (2 : Rat) ^ (P + 2) = 4 * (2 : Rat) ^ P := by
    have : (2 : Rat) ^ (2 : Int) = 4 := by decide +kernel
    rw [pw_add, this]; grind
  rw [Rat.natCast_add, Rat.natCast_mul] at hm q2
  rw [Rat.natCast_mul] at q1
  have c2 : ((2 : Nat) : Rat) = 2 := rfl
  have c1 : ((1 : Nat) : Rat) = 1 := rfl
  rw [c2] at hm q1 q2
  rw [c1] at hm
  -- a multiple of four units
  have low : ∀ b : Nat, (b : Rat) * (2 : Rat) ^ (P + 2) ≤ 2 * ((2 * (dq : Rat) + 1) * (2 : Rat) ^ P) → (b : Rat) * (2 : Rat) ^ (P + 2) < 2 * Q := by
    intro b hb
    rw [e4] at hb ⊢
    have h1 : 4 * (b : Rat) ≤ 4 * (dq : Rat) + 2 := by apply Rat.le_of_mul_le_mul_right _ hc; grind
    have h2 : b ≤ dq := by
      have : ((4 * b : Nat) : Rat) < ((4 * dq + 3 : Nat) : Rat) := by
        rw [Rat.natCast_mul, Rat.natCast_add, Rat.natCast_mul]
        have c4 : ((4 : Nat) : Rat) = 4 := rfl
        have c3 : ((3 : Nat) : Rat) = 3 := rfl
        rw [c4, c3]; grind
      have := Rat.natCast_lt_natCast.1 this
      omega
    have h3 := Rat.mul_le_mul_of_nonneg_right (nat_rat_le h2) (Rat.le_of_lt hc)
    grind
  have high : ∀ b : Nat, 2 * ((2 * (dq : Rat) + 1) * (2 : Rat) ^ P) ≤ (b : Rat) * (2 : Rat) ^ (P + 2) → 2 * Q < (b : Rat) * (2 : Rat) ^ (P + 2) := by
    intro b hb
    rw [e4] at hb ⊢
    have h1 : 4 * (dq : Rat) + 2 ≤ 4 * (b : Rat) := by apply Rat.le_of_mul_le_mul_right _ hc; grind
    have h2 : dq + 1 ≤ b := by
      have : ((4 * dq + 1 : Nat) : Rat) < ((4 * b : Nat) : Rat) := by
        rw [Rat.natCast_mul, Rat.natCast_add, Rat.natCast_mul]
        have c4 : ((4 : Nat) : Rat) = 4 := rfl
        rw [c4, c1]; grind
      have := Rat.natCast_lt_natCast.1 this
      omega
    have h3 := Rat.mul_le_mul_of_nonneg_right (nat_rat_le h2) (Rat.le_of_lt hc)
    rw [Rat.natCast_add, c1] at h3
    grind
  by_cases hk : P + 2 ≤ 0
  · -- fine units: every threshold is such a multiple
    obtain ⟨k, hkk⟩ : ∃ k : Nat, P + 2 = -(k : Int) := ⟨(-(P + 2)).toNat, by omega⟩
    have mult : ∀ N : Nat, (N : Rat) = ((N * 2 ^ k : Nat) : Rat) * (2 : Rat) ^ (P + 2) := by
      intro N
      rw [hkk, Rat.natCast_mul, ← pw_nat, Rat.mul_assoc, pw_cancel]; grind
    refine ⟨hm.le, ?_, ?_⟩
    · rcases hm.low with h | ⟨h1, h2⟩
      · exact .inl h
      · right
        have := low ((nval f (r - 1) + nval f r) * 2 ^ k) (by rw [← mult, Rat.natCast_add]; exact h1)
        rw [← mult, Rat.natCast_add] at this
        exact ⟨Rat.le_of_lt this, fun _ => this⟩
    · rcases hm.high with h | ⟨h1, h2⟩
      · exact .inl h
      · right
        have := high ((nval f r + nval f (r + 1)) * 2 ^ k) (by rw [← mult, Rat.natCast_add]; exact h1)
        rw [← mult, Rat.natCast_add] at this
        exact ⟨Rat.le_of_lt this, fun _ => this⟩
  · obtain ⟨k, hkk⟩ : ∃ k : Nat, P + 2 = (k : Int) := ⟨(P + 2).toNat, by omega⟩
    rw [hkk] at e4 low high
    -- the number is great
    have hbig : ((f.binade * 2 ^ k : Nat) : Rat) ≤ (2 * (dq : Rat) + 1) * (2 : Rat) ^ P := by
      have h1 : (f.binade * 2 : Nat) ≤ dq := by
        have : 2 ^ (f.fractionBits + 1) = f.binade * 2 := by rw [Nat.pow_succ]; rfl
        omega
      have h2 := Rat.mul_le_mul_of_nonneg_right (nat_rat_le h1) (Rat.le_of_lt hc)
      rw [Rat.natCast_mul, ← pw_nat, e4]
      rw [Rat.natCast_mul, c2] at h2
      grind
    have hdq : ((f.binade * 2 ^ k : Nat) : Rat) * 2 < 2 * Q := by
      have h1 : (f.binade * 2 : Nat) ≤ dq := by
        have : 2 ^ (f.fractionBits + 1) = f.binade * 2 := by rw [Nat.pow_succ]; rfl
        omega
      have h2 := Rat.mul_le_mul_of_nonneg_right (nat_rat_le h1) (Rat.le_of_lt hc)
      rw [Rat.natCast_mul, ← pw_nat, e4]
      rw [Rat.natCast_mul, c2] at h2
      grind
    have hrk : (k + 1) * f.binade ≤ f.infRung → (k + 1) * f.binade ≤ r := by
      intro hle
      exact (Mid.exact hle).mono hm (by rw [nval_head]; exact hbig)
    refine ⟨hm.le, ?_, ?_⟩
    · rcases hm.low with h | ⟨h1, h2⟩
      · exact .inl h
      · right
        have key : (nval f (r - 1) : Rat) + nval f r < 2 * Q := by
          rcases Nat.lt_or_ge ((k + 1) * f.binade) r with h3 | h3
          · obtain ⟨b1, e1⟩ := nval_dvd f (k := k) (r := r - 1) (by omega)
            obtain ⟨b2, e2⟩ := nval_dvd f (k := k) (r := r) (by omega)
            have e : (nval f (r - 1) : Rat) + nval f r = ((b1 + b2 : Nat) : Rat) * (2 : Rat) ^ (k : Int) := by
              rw [e1, e2, Rat.natCast_mul, Rat.natCast_mul, ← pw_nat, Rat.natCast_add]; grind
            rw [e]; apply low; rw [← e]; exact h1
          · have a1 : (nval f (r - 1) : Rat) ≤ ((f.binade * 2 ^ k : Nat) : Rat) := by rw [← nval_head]; exact nat_rat_le (nval_le (by omega))
            have a2 : (nval f r : Rat) ≤ ((f.binade * 2 ^ k : Nat) : Rat) := by rw [← nval_head]; exact nat_rat_le (nval_le h3)
            grind
        exact ⟨Rat.le_of_lt key, fun _ => key⟩
    · rcases hm.high with h | ⟨h1, h2⟩
      · exact .inl h
      · rcases Nat.lt_or_ge f.infRung ((k + 1) * f.binade) with h3 | h3
        · left
          refine Nat.le_antisymm hm.le ((Mid.exact (Nat.le_refl _)).mono hm ?_)
          have : (nval f f.infRung : Rat) ≤ ((f.binade * 2 ^ k : Nat) : Rat) := by rw [← nval_head]; exact nat_rat_le (nval_le (by omega))
          grind
        · right
          have hr := hrk h3
          obtain ⟨b1, e1⟩ := nval_dvd f (k := k) (r := r) hr
          obtain ⟨b2, e2⟩ := nval_dvd f (k := k) (r := r + 1) (by omega)
          have e : (nval f r : Rat) + nval f (r + 1) = ((b1 + b2 : Nat) : Rat) * (2 : Rat) ^ (k : Int) := by
            rw [e1, e2, Rat.natCast_mul, Rat.natCast_mul, ← pw_nat, Rat.natCast_add]; grind
          have key : 2 * Q < (nval f r : Rat) + nval f (r + 1) := by
            rw [e]; apply high; rw [← e]; exact h1
          exact ⟨Rat.le_of_lt key, fun _ => key⟩
theorem sg_xor (s t : Bool) : sg (s ^^ t) = sg s * sg t := by cases s <;> cases t <;> decide +kernel
theorem sg_sq (s : Bool) : sg s * sg s = 1 := by cases s <;> decide +kernel
/-- a quotient -/
theorem quo_near (f : Format) (hF : 1 ≤ f.fractionBits) (s t : Bool) (m n : Nat) (i j : Int) (hn : n ≠ 0) :
    ∃ d, (Datum.number s m i).quotient (f.fractionBits + 2) (.number t n j) = some d ∧ Near f (num s m i / num t n j) (f.write d) := by
  unfold Datum.quotient
  simp only [if_neg hn]
  refine ⟨_, rfl, ?_⟩
  simp only [Format.write]
  obtain ⟨more, hmore⟩ : ∃ more, more = f.fractionBits + 2 + n.log2 - m.log2 := ⟨_, rfl⟩
  rw [← hmore, Nat.shiftLeft_eq]
  obtain ⟨dv, hdv⟩ : ∃ dv, dv = m * 2 ^ more := ⟨_, rfl⟩
  rw [← hdv]
  have hn0 : 0 < n := Nat.pos_of_ne_zero hn
  have hnr : (0 : Rat) < n := by have := nat_rat_lt hn0; simpa using this
  obtain ⟨P, hP⟩ : ∃ P : Int, P = i - j - more - 1 := ⟨_, rfl⟩
  rw [← hP]
  -- the quotient's value
  obtain ⟨A, hA⟩ : ∃ A : Rat, A = 2 * ((dv : Rat) / n) * (2 : Rat) ^ P := ⟨_, rfl⟩
  have hA0 : 0 ≤ A := by
    rw [hA]
    refine Rat.mul_nonneg (Rat.mul_nonneg (by decide) ?_) (Rat.le_of_lt (pw_pos _))
    rw [Rat.div_def]
    exact Rat.mul_nonneg Rat.natCast_nonneg (Rat.le_of_lt (Rat.inv_pos.2 hnr))
  have hval : num s m i / num t n j = sg (s ^^ t) * A := by
    have h1 : num t n j ≠ 0 := by
      have := pw_pos j
      unfold num sg
      cases t
      · simp only [Bool.false_eq_true, if_false]; have := Rat.mul_pos hnr this; grind
      · simp only [if_true]; have := Rat.mul_pos hnr this; grind
    have h2 : num s m i = sg (s ^^ t) * A * num t n j := by
      rw [hA, hdv, sg_xor, Rat.natCast_mul, ← pw_nat]
      unfold num
      have e1 : (2 : Rat) ^ i = 2 * (2 : Rat) ^ (more : Int) * (2 : Rat) ^ P * (2 : Rat) ^ j := by
        have e21 : (2 : Rat) ^ (1 : Int) = 2 := by decide +kernel
        have e22 : (2 : Rat) ^ i = (2 : Rat) ^ (1 : Int) * (2 : Rat) ^ (more : Int) * (2 : Rat) ^ P * (2 : Rat) ^ j := by rw [← pw_add, ← pw_add, ← pw_add]; congr 1; omega
        rw [e21] at e22; exact e22
      have e2 : ((m : Rat) * (2 : Rat) ^ (more : Int)) / n * n = (m : Rat) * (2 : Rat) ^ (more : Int) := Rat.div_mul_cancel (by grind)
      have e3 := sg_sq t
      rw [e1]
      generalize ((m : Rat) * (2 : Rat) ^ (more : Int)) / n = z at *
      generalize (2 : Rat) ^ (more : Int) = a at *
      grind
    rw [h2, Rat.mul_div_cancel h1]
  rw [hval]
  have hsgn : ∀ {w : Nat} {r : Nat}, w = f.word (s ^^ t) r → Mid f (A * (2 : Rat) ^ (-f.leastPlace)) r → Near f (sg (s ^^ t) * A) w := by
    intro w r h1 h2
    refine ⟨s ^^ t, r, h1, by rw [sg_abs _ hA0]; exact h2, ?_, ?_⟩
    · intro h
      unfold sg at h
      cases hs : (s ^^ t)
      · rw [hs] at h; simp only [Bool.false_eq_true, if_false] at h; grind
      · rfl
    · intro h
      unfold sg at h
      cases hs : (s ^^ t)
      · rfl
      · rw [hs] at h; simp only [if_true] at h; grind
  obtain ⟨r, h1, h2⟩ := near_mid f hF (s ^^ t) (2 * (dv / n) + (dv % n != 0).toNat) P
  refine hsgn h1 ?_
  have eP : (2 : Rat) ^ (P - f.leastPlace) = (2 : Rat) ^ P * (2 : Rat) ^ (-f.leastPlace) := by rw [← pw_add]; congr 1
  have hdm := Nat.div_add_mod dv n
  have hml := Nat.mod_lt dv hn0
  have hdvr : (dv : Rat) / n * n = dv := Rat.div_mul_cancel (by grind)
  by_cases hrem : dv % n = 0
  · have e0 : (dv % n != 0).toNat = 0 := by rw [hrem]; rfl
    rw [e0, Nat.add_zero] at h2
    have e1 : (dv : Rat) / n = ((dv / n : Nat) : Rat) := by
      have : ((n * (dv / n) : Nat) : Rat) = dv := by congr 1; omega
      rw [Rat.natCast_mul] at this
      rw [← this, Rat.mul_comm, Rat.mul_div_cancel (by grind)]
    have e2 : A * (2 : Rat) ^ (-f.leastPlace) = ((2 * (dv / n) : Nat) : Rat) * (2 : Rat) ^ (P - f.leastPlace) := by
      rw [hA, e1, eP, Rat.natCast_mul]; have c2 : ((2 : Nat) : Rat) = 2 := rfl
      rw [c2]; grind
    rw [e2]; exact h2
  · have e0 : (dv % n != 0).toNat = 1 := by simp [hrem]
    rw [e0] at h2
    have hm0 : m ≠ 0 := by intro h; subst h; rw [hdv] at hrem; simp at hrem
    refine sticky_mid f hF (dv / n) ?_ (P - f.leastPlace) h2 ?_ ?_
    · rw [Nat.le_div_iff_mul_le hn0]
      have a1 : n < 2 ^ (n.log2 + 1) := Nat.lt_log2_self
      have a2 : 2 ^ m.log2 ≤ m := Nat.log2_self_le hm0
      have a3 : 2 ^ (f.fractionBits + 1) * n ≤ 2 ^ (f.fractionBits + 1) * 2 ^ (n.log2 + 1) := Nat.mul_le_mul_left _ (Nat.le_of_lt a1)
      rw [← Nat.pow_add] at a3
      have a4 : 2 ^ (m.log2 + more) ≤ dv := by rw [hdv, Nat.pow_add]; exact Nat.mul_le_mul_right _ a2
      have a5 : 2 ^ (f.fractionBits + 1 + (n.log2 + 1)) ≤ 2 ^ (m.log2 + more) := Nat.pow_le_pow_right (by decide) (by omega)
      omega
    · rw [hA, eP, Rat.natCast_mul]
      have c2 : ((2 : Nat) : Rat) = 2 := rfl
      rw [c2]
      have b1 : ((dv / n : Nat) : Rat) < (dv : Rat) / n := by
        rw [← Rat.not_le]; intro h
        have := Rat.mul_le_mul_of_nonneg_right h (Rat.le_of_lt hnr)
        rw [hdvr] at this
        have b2 : ((n * (dv / n) + 1 : Nat) : Rat) ≤ dv := nat_rat_le (by omega)
        rw [Rat.natCast_add, Rat.natCast_mul] at b2
        have c1 : ((1 : Nat) : Rat) = 1 := rfl
        rw [c1] at b2; grind
      have hc := Rat.mul_pos (pw_pos P) (pw_pos (-f.leastPlace))
      have := Rat.mul_lt_mul_of_pos_right b1 hc
      grind
    · rw [hA, eP, Rat.natCast_add, Rat.natCast_mul]
      have c2 : ((2 : Nat) : Rat) = 2 := rfl
      rw [c2]
      have b1 : (dv : Rat) / n < ((dv / n : Nat) : Rat) + 1 := by
        rw [← Rat.not_le]; intro h
        have := Rat.mul_le_mul_of_nonneg_right h (Rat.le_of_lt hnr)
        rw [hdvr] at this
        have b2 : (dv : Rat) < ((n * (dv / n) + n : Nat) : Rat) := nat_rat_lt (by omega)
        rw [Rat.natCast_add, Rat.natCast_mul] at b2
        grind
      have hc := Rat.mul_pos (pw_pos P) (pw_pos (-f.leastPlace))
      have := Rat.mul_lt_mul_of_pos_right b1 hc
      grind
end Go.Proofs.Ytaocilimggpdjaa
