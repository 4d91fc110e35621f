/- Joined texts 1: Qe Fl7 Qf Qg Btw Err Mem Opn Small Sam. Each is told at its own head. No condition. -/
import GoSem.Extern.MathSqrt
import Derived.WalkKit
import Derived.WalkSpells
import Derived.ProofKit
import Derived.OpenShut
import Derived.Below
import Derived.Carry
import Derived.DataElems
import Derived.Lib.SmallJoins
import Derived.Test.YtnhikdjljjemlaaRows
import Derived.Test.YtnhikdjljjemlaaMc0
/- Plain laws of floats as rational numbers: quotients. No condition. -/
namespace Go.Proofs.Ytnhikdjljjemlaa
open Go Go.RowKit Ieee
set_option linter.unusedVariables false
set_option linter.unusedSimpArgs false
theorem nval_dvd (f : Format) {k r : Nat} (h : (k + 1) * f.binade ≤ r) : ∃ b, nval f r = b * 2 ^ k := by
  have hB := binade_pos f
  have hr : f.binade ≤ r := by
    have : f.binade ≤ (k + 1) * f.binade := Nat.le_mul_of_pos_left _ (by omega)
    omega
  unfold nval
  rw [if_neg (by omega)]
  have h1 : k + 1 ≤ r / f.binade := (Nat.le_div_iff_mul_le hB).2 h
  obtain ⟨d, hd⟩ : ∃ d, r / f.binade - 1 = d + k := ⟨r / f.binade - 1 - k, by omega⟩
  rw [hd, Nat.pow_add]
  exact ⟨(f.binade + r % f.binade) * 2 ^ d, by rw [Nat.mul_assoc]⟩
theorem nval_head (f : Format) (k : Nat) : nval f ((k + 1) * f.binade) = f.binade * 2 ^ k := by
  have := nval_rung f k f.binade (.inr (Nat.le_refl _)) (by omega)
  rw [← this]; congr 1; rw [Nat.add_mul]; omega
/-- between a number and one that a bit stands for no threshold lies -/
theorem sticky_mid (f : Format) (hF : 1 ≤ f.fractionBits) (dq : Nat) (hd : 2 ^ (f.fractionBits + 1) ≤ dq) (P : Int) {Q : Rat} {r : Nat}
    (hm : Mid f (((2 * dq + 1 : Nat) : Rat) * (2 : Rat) ^ P) r) (q1 : ((2 * dq : Nat) : Rat) * (2 : Rat) ^ P < Q) (q2 : Q < ((2 * dq + 2 : Nat) : Rat) * (2 : Rat) ^ P) : Mid f Q r := by
  have hB := binade_pos f
  have hc := pw_pos P
  have e4 : (2 : Rat) ^ (P + 2) = 4 * (2 : Rat) ^ P := by
    have : (2 : Rat) ^ (2 : Int) = 4 := by decide +kernel
    rw [pw_add, this]; grind
  rw [Rat.natCast_add, Rat.natCast_mul] at hm q2
  rw [Rat.natCast_mul] at q1
  have c2 : ((2 : Nat) : Rat) = 2 := rfl
  have c1 : ((1 : Nat) : Rat) = 1 := rfl
  rw [c2] at hm q1 q2
  rw [c1] at hm
  -- a multiple of four units
  have low : ∀ b : Nat, (b : Rat) * (2 : Rat) ^ (P + 2) ≤ 2 * ((2 * (dq : Rat) + 1) * (2 : Rat) ^ P) → (b : Rat) * (2 : Rat) ^ (P + 2) < 2 * Q := by
    intro b hb
    rw [e4] at hb ⊢
    have h1 : 4 * (b : Rat) ≤ 4 * (dq : Rat) + 2 := by apply Rat.le_of_mul_le_mul_right _ hc; grind
    have h2 : b ≤ dq := by
      have : ((4 * b : Nat) : Rat) < ((4 * dq + 3 : Nat) : Rat) := by
        rw [Rat.natCast_mul, Rat.natCast_add, Rat.natCast_mul]
        have c4 : ((4 : Nat) : Rat) = 4 := rfl
        have c3 : ((3 : Nat) : Rat) = 3 := rfl
        rw [c4, c3]; grind
      have := Rat.natCast_lt_natCast.1 this
      omega
    have h3 := Rat.mul_le_mul_of_nonneg_right (nat_rat_le h2) (Rat.le_of_lt hc)
    grind
  have high : ∀ b : Nat, 2 * ((2 * (dq : Rat) + 1) * (2 : Rat) ^ P) ≤ (b : Rat) * (2 : Rat) ^ (P + 2) → 2 * Q < (b : Rat) * (2 : Rat) ^ (P + 2) := by
    intro b hb
    rw [e4] at hb ⊢
    have h1 : 4 * (dq : Rat) + 2 ≤ 4 * (b : Rat) := by apply Rat.le_of_mul_le_mul_right _ hc; grind
    have h2 : dq + 1 ≤ b := by
      have : ((4 * dq + 1 : Nat) : Rat) < ((4 * b : Nat) : Rat) := by
        rw [Rat.natCast_mul, Rat.natCast_add, Rat.natCast_mul]
        have c4 : ((4 : Nat) : Rat) = 4 := rfl
        rw [c4, c1]; grind
      have := Rat.natCast_lt_natCast.1 this
      omega
    have h3 := Rat.mul_le_mul_of_nonneg_right (nat_rat_le h2) (Rat.le_of_lt hc)
    rw [Rat.natCast_add, c1] at h3
    grind
  by_cases hk : P + 2 ≤ 0
  · -- fine units: every threshold is such a multiple
    obtain ⟨k, hkk⟩ : ∃ k : Nat, P + 2 = -(k : Int) := ⟨(-(P + 2)).toNat, by omega⟩
    have mult : ∀ N : Nat, (N : Rat) = ((N * 2 ^ k : Nat) : Rat) * (2 : Rat) ^ (P + 2) := by
      intro N
      rw [hkk, Rat.natCast_mul, ← pw_nat, Rat.mul_assoc, pw_cancel]; grind
    refine ⟨hm.le, ?_, ?_⟩
    · rcases hm.low with h | ⟨h1, h2⟩
      · exact .inl h
      · right
        have := low ((nval f (r - 1) + nval f r) * 2 ^ k) (by rw [← mult, Rat.natCast_add]; exact h1)
        rw [← mult, Rat.natCast_add] at this
        exact ⟨Rat.le_of_lt this, fun _ => this⟩
    · rcases hm.high with h | ⟨h1, h2⟩
      · exact .inl h
      · right
        have := high ((nval f r + nval f (r + 1)) * 2 ^ k) (by rw [← mult, Rat.natCast_add]; exact h1)
        rw [← mult, Rat.natCast_add] at this
        exact ⟨Rat.le_of_lt this, fun _ => this⟩
  · obtain ⟨k, hkk⟩ : ∃ k : Nat, P + 2 = (k : Int) := ⟨(P + 2).toNat, by omega⟩
    rw [hkk] at e4 low high
    -- the number is great
    have hbig : ((f.binade * 2 ^ k : Nat) : Rat) ≤ (2 * (dq : Rat) + 1) * (2 : Rat) ^ P := by
      have h1 : (f.binade * 2 : Nat) ≤ dq := by
        have : 2 ^ (f.fractionBits + 1) = f.binade * 2 := by rw [Nat.pow_succ]; rfl
        omega
      have h2 := Rat.mul_le_mul_of_nonneg_right (nat_rat_le h1) (Rat.le_of_lt hc)
      rw [Rat.natCast_mul, ← pw_nat, e4]
      rw [Rat.natCast_mul, c2] at h2
      grind
    have hdq : ((f.binade * 2 ^ k : Nat) : Rat) * 2 < 2 * Q := by
      have h1 : (f.binade * 2 : Nat) ≤ dq := by
        have : 2 ^ (f.fractionBits + 1) = f.binade * 2 := by rw [Nat.pow_succ]; rfl
        omega
      have h2 := Rat.mul_le_mul_of_nonneg_right (nat_rat_le h1) (Rat.le_of_lt hc)
      rw [Rat.natCast_mul, ← pw_nat, e4]
      rw [Rat.natCast_mul, c2] at h2
      grind
    have hrk : (k + 1) * f.binade ≤ f.infRung → (k + 1) * f.binade ≤ r := by
      intro hle
      exact (Mid.exact hle).mono hm (by rw [nval_head]; exact hbig)
    refine ⟨hm.le, ?_, ?_⟩
    · rcases hm.low with h | ⟨h1, h2⟩
      · exact .inl h
      · right
        have key : (nval f (r - 1) : Rat) + nval f r < 2 * Q := by
          rcases Nat.lt_or_ge ((k + 1) * f.binade) r with h3 | h3
          · obtain ⟨b1, e1⟩ := nval_dvd f (k := k) (r := r - 1) (by omega)
            obtain ⟨b2, e2⟩ := nval_dvd f (k := k) (r := r) (by omega)
            have e : (nval f (r - 1) : Rat) + nval f r = ((b1 + b2 : Nat) : Rat) * (2 : Rat) ^ (k : Int) := by
              rw [e1, e2, Rat.natCast_mul, Rat.natCast_mul, ← pw_nat, Rat.natCast_add]; grind
            rw [e]; apply low; rw [← e]; exact h1
          · have a1 : (nval f (r - 1) : Rat) ≤ ((f.binade * 2 ^ k : Nat) : Rat) := by rw [← nval_head]; exact nat_rat_le (nval_le (by omega))
            have a2 : (nval f r : Rat) ≤ ((f.binade * 2 ^ k : Nat) : Rat) := by rw [← nval_head]; exact nat_rat_le (nval_le h3)
            grind
        exact ⟨Rat.le_of_lt key, fun _ => key⟩
    · rcases hm.high with h | ⟨h1, h2⟩
      · exact .inl h
      · rcases Nat.lt_or_ge f.infRung ((k + 1) * f.binade) with h3 | h3
        · left
          refine Nat.le_antisymm hm.le ((Mid.exact (Nat.le_refl _)).mono hm ?_)
          have : (nval f f.infRung : Rat) ≤ ((f.binade * 2 ^ k : Nat) : Rat) := by rw [← nval_head]; exact nat_rat_le (nval_le (by omega))
          grind
        · right
          have hr := hrk h3
          obtain ⟨b1, e1⟩ := nval_dvd f (k := k) (r := r) hr
          obtain ⟨b2, e2⟩ := nval_dvd f (k := k) (r := r + 1) (by omega)
          have e : (nval f r : Rat) + nval f (r + 1) = ((b1 + b2 : Nat) : Rat) * (2 : Rat) ^ (k : Int) := by
            rw [e1, e2, Rat.natCast_mul, Rat.natCast_mul, ← pw_nat, Rat.natCast_add]; grind
          have key : 2 * Q < (nval f r : Rat) + nval f (r + 1) := by
            rw [e]; apply high; rw [← e]; exact h1
          exact ⟨Rat.le_of_lt key, fun _ => key⟩
theorem sg_xor (s t : Bool) : sg (s ^^ t) = sg s * sg t := by cases s <;> cases t <;> decide +kernel
theorem sg_sq (s : Bool) : sg s * sg s = 1 := by cases s <;> decide +kernel
/-- a quotient -/
theorem quo_near (f : Format) (hF : 1 ≤ f.fractionBits) (s t : Bool) (m n : Nat) (i j : Int) (hn : n ≠ 0) :
    ∃ d, (Datum.number s m i).quotient (f.fractionBits + 2) (.number t n j) = some d ∧ Near f (num s m i / num t n j) (f.write d) := by
  unfold Datum.quotient
  simp only [if_neg hn]
  refine ⟨_, rfl, ?_⟩
  simp only [Format.write]
  obtain ⟨more, hmore⟩ : ∃ more, more = f.fractionBits + 2 + n.log2 - m.log2 := ⟨_, rfl⟩
  rw [← hmore, Nat.shiftLeft_eq]
  obtain ⟨dv, hdv⟩ : ∃ dv, dv = m * 2 ^ more := ⟨_, rfl⟩
  rw [← hdv]
  have hn0 : 0 < n := Nat.pos_of_ne_zero hn
  have hnr : (0 : Rat) < n := by have := nat_rat_lt hn0; simpa using this
  obtain ⟨P, hP⟩ : ∃ P : Int, P = i - j - more - 1 := ⟨_, rfl⟩
  rw [← hP]
  -- the quotient's value
  obtain ⟨A, hA⟩ : ∃ A : Rat, A = 2 * ((dv : Rat) / n) * (2 : Rat) ^ P := ⟨_, rfl⟩
  have hA0 : 0 ≤ A := by
    rw [hA]
    refine Rat.mul_nonneg (Rat.mul_nonneg (by decide) ?_) (Rat.le_of_lt (pw_pos _))
    rw [Rat.div_def]
    exact Rat.mul_nonneg Rat.natCast_nonneg (Rat.le_of_lt (Rat.inv_pos.2 hnr))
  have hval : num s m i / num t n j = sg (s ^^ t) * A := by
    have h1 : num t n j ≠ 0 := by
      have := pw_pos j
      unfold num sg
      cases t
      · simp only [Bool.false_eq_true, if_false]; have := Rat.mul_pos hnr this; grind
      · simp only [if_true]; have := Rat.mul_pos hnr this; grind
    have h2 : num s m i = sg (s ^^ t) * A * num t n j := by
      rw [hA, hdv, sg_xor, Rat.natCast_mul, ← pw_nat]
      unfold num
      have e1 : (2 : Rat) ^ i = 2 * (2 : Rat) ^ (more : Int) * (2 : Rat) ^ P * (2 : Rat) ^ j := by
        have e21 : (2 : Rat) ^ (1 : Int) = 2 := by decide +kernel
        have e22 : (2 : Rat) ^ i = (2 : Rat) ^ (1 : Int) * (2 : Rat) ^ (more : Int) * (2 : Rat) ^ P * (2 : Rat) ^ j := by rw [← pw_add, ← pw_add, ← pw_add]; congr 1; omega
        rw [e21] at e22; exact e22
      have e2 : ((m : Rat) * (2 : Rat) ^ (more : Int)) / n * n = (m : Rat) * (2 : Rat) ^ (more : Int) := Rat.div_mul_cancel (by grind)
      have e3 := sg_sq t
      rw [e1]
      generalize ((m : Rat) * (2 : Rat) ^ (more : Int)) / n = z at *
      generalize (2 : Rat) ^ (more : Int) = a at *
      grind
    rw [h2, Rat.mul_div_cancel h1]
  rw [hval]
  have hsgn : ∀ {w : Nat} {r : Nat}, w = f.word (s ^^ t) r → Mid f (A * (2 : Rat) ^ (-f.leastPlace)) r → Near f (sg (s ^^ t) * A) w := by
    intro w r h1 h2
    refine ⟨s ^^ t, r, h1, by rw [sg_abs _ hA0]; exact h2, ?_, ?_⟩
    · intro h
      unfold sg at h
      cases hs : (s ^^ t)
      · rw [hs] at h; simp only [Bool.false_eq_true, if_false] at h; grind
      · rfl
    · intro h
      unfold sg at h
      cases hs : (s ^^ t)
      · rfl
      · rw [hs] at h; simp only [if_true] at h; grind
  obtain ⟨r, h1, h2⟩ := near_mid f hF (s ^^ t) (2 * (dv / n) + (dv % n != 0).toNat) P
  refine hsgn h1 ?_
  have eP : (2 : Rat) ^ (P - f.leastPlace) = (2 : Rat) ^ P * (2 : Rat) ^ (-f.leastPlace) := by rw [← pw_add]; congr 1
  have hdm := Nat.div_add_mod dv n
  have hml := Nat.mod_lt dv hn0
  have hdvr : (dv : Rat) / n * n = dv := Rat.div_mul_cancel (by grind)
  by_cases hrem : dv % n = 0
  · have e0 : (dv % n != 0).toNat = 0 := by rw [hrem]; rfl
    rw [e0, Nat.add_zero] at h2
    have e1 : (dv : Rat) / n = ((dv / n : Nat) : Rat) := by
      have : ((n * (dv / n) : Nat) : Rat) = dv := by congr 1; omega
      rw [Rat.natCast_mul] at this
      rw [← this, Rat.mul_comm, Rat.mul_div_cancel (by grind)]
    have e2 : A * (2 : Rat) ^ (-f.leastPlace) = ((2 * (dv / n) : Nat) : Rat) * (2 : Rat) ^ (P - f.leastPlace) := by
      rw [hA, e1, eP, Rat.natCast_mul]; have c2 : ((2 : Nat) : Rat) = 2 := rfl
      rw [c2]; grind
    rw [e2]; exact h2
  · have e0 : (dv % n != 0).toNat = 1 := by simp [hrem]
    rw [e0] at h2
    have hm0 : m ≠ 0 := by intro h; subst h; rw [hdv] at hrem; simp at hrem
    refine sticky_mid f hF (dv / n) ?_ (P - f.leastPlace) h2 ?_ ?_
    · rw [Nat.le_div_iff_mul_le hn0]
      have a1 : n < 2 ^ (n.log2 + 1) := Nat.lt_log2_self
      have a2 : 2 ^ m.log2 ≤ m := Nat.log2_self_le hm0
      have a3 : 2 ^ (f.fractionBits + 1) * n ≤ 2 ^ (f.fractionBits + 1) * 2 ^ (n.log2 + 1) := Nat.mul_le_mul_left _ (Nat.le_of_lt a1)
      rw [← Nat.pow_add] at a3
      have a4 : 2 ^ (m.log2 + more) ≤ dv := by rw [hdv, Nat.pow_add]; exact Nat.mul_le_mul_right _ a2
      have a5 : 2 ^ (f.fractionBits + 1 + (n.log2 + 1)) ≤ 2 ^ (m.log2 + more) := Nat.pow_le_pow_right (by decide) (by omega)
      omega
    · rw [hA, eP, Rat.natCast_mul]
      have c2 : ((2 : Nat) : Rat) = 2 := rfl
      rw [c2]
      have b1 : ((dv / n : Nat) : Rat) < (dv : Rat) / n := by
        rw [← Rat.not_le]; intro h
        have := Rat.mul_le_mul_of_nonneg_right h (Rat.le_of_lt hnr)
        rw [hdvr] at this
        have b2 : ((n * (dv / n) + 1 : Nat) : Rat) ≤ dv := nat_rat_le (by omega)
        rw [Rat.natCast_add, Rat.natCast_mul] at b2
        have c1 : ((1 : Nat) : Rat) = 1 := rfl
        rw [c1] at b2; grind
      have hc := Rat.mul_pos (pw_pos P) (pw_pos (-f.leastPlace))
      have := Rat.mul_lt_mul_of_pos_right b1 hc
      grind
    · rw [hA, eP, Rat.natCast_add, Rat.natCast_mul]
      have c2 : ((2 : Nat) : Rat) = 2 := rfl
      rw [c2]
      have b1 : (dv : Rat) / n < ((dv / n : Nat) : Rat) + 1 := by
        rw [← Rat.not_le]; intro h
        have := Rat.mul_le_mul_of_nonneg_right h (Rat.le_of_lt hnr)
        rw [hdvr] at this
        have b2 : (dv : Rat) < ((n * (dv / n) + n : Nat) : Rat) := nat_rat_lt (by omega)
        rw [Rat.natCast_add, Rat.natCast_mul] at b2
        grind
      have hc := Rat.mul_pos (pw_pos P) (pw_pos (-f.leastPlace))
      have := Rat.mul_lt_mul_of_pos_right b1 hc
      grind
end Go.Proofs.Ytnhikdjljjemlaa
/- Plain laws of floats, continued: how great a written number is; square roots. No condition. -/
namespace Go.Proofs.Ytnhikdjljjemlaa
open Go Go.RowKit Ieee
set_option linter.unusedVariables false
set_option linter.unusedSimpArgs false
theorem cut_le (neg : Bool) (n d : Nat) : Toward.even.cut neg n d ≤ n / (1 <<< min d (n.log2 + 2)) + 1 := by
  unfold Toward.cut
  exact Nat.add_le_add_left (Bool.toNat_le _) _
/-- the rung of a written number is not above a bound by its exponent -/
theorem nearest_bound (f : Format) (neg : Bool) {m : Nat} {p E : Int} (hE : p + m.log2 ≤ E) (hE2 : f.leastPlace ≤ E - f.fractionBits) :
    ∃ r, f.nearest neg m p = f.word neg r ∧ r ≤ (E - f.fractionBits - f.leastPlace).toNat * f.binade + 2 * f.binade ∧ r ≤ f.infRung := by
  have hB : f.binade = 2 ^ f.fractionBits := rfl
  by_cases hm : m = 0
  · subst hm
    unfold Format.nearest
    rw [if_pos rfl]
    exact ⟨0, rfl, Nat.zero_le _, Nat.zero_le _⟩
  obtain ⟨last, hlast⟩ : ∃ l, l = max (p + m.log2 - (f.fractionBits : Nat)) f.leastPlace := ⟨_, rfl⟩
  have h1 : last ≤ E - f.fractionBits := by omega
  have h2 : f.leastPlace ≤ last := by omega
  have h3 : p + m.log2 - (f.fractionBits : Nat) ≤ last := by omega
  unfold Format.nearest
  rw [if_neg hm]
  simp only [← hlast]
  refine ⟨_, rfl, Nat.le_trans (Nat.min_le_left _ _) ?_, Nat.min_le_right _ _⟩
  have hk : Toward.even.cut neg (m <<< (p - last).toNat) (last - p).toNat ≤ 2 * f.binade := by
    by_cases h : last ≤ p
    · have e : (last - p).toNat = 0 := by omega
      rw [e, cut_zero, Nat.shiftLeft_eq]
      have h4 : m.log2 + (p - last).toNat ≤ f.fractionBits := by omega
      have h5 := Nat.lt_log2_self (n := m)
      have h6 : m * 2 ^ (p - last).toNat < 2 ^ (m.log2 + 1) * 2 ^ (p - last).toNat := Nat.mul_lt_mul_of_pos_right h5 (Nat.two_pow_pos _)
      rw [← Nat.pow_add] at h6
      have h7 : 2 ^ (m.log2 + 1 + (p - last).toNat) ≤ 2 ^ (f.fractionBits + 1) := Nat.pow_le_pow_right (by decide) (by omega)
      rw [Nat.pow_succ] at h7
      omega
    · have e : (p - last).toNat = 0 := by omega
      rw [e, Nat.shiftLeft_zero]
      refine Nat.le_trans (cut_le _ _ _) ?_
      have h5 := Nat.lt_log2_self (n := m)
      by_cases h8 : (last - p).toNat ≤ m.log2 + 2
      · rw [Nat.min_eq_left h8, Nat.shiftLeft_eq, Nat.one_mul]
        have h9 : m < 2 ^ (f.fractionBits + 1) * 2 ^ (last - p).toNat := by
          rw [← Nat.pow_add]
          exact Nat.lt_of_lt_of_le h5 (Nat.pow_le_pow_right (by decide) (by omega))
        have h10 := Nat.div_lt_of_lt_mul (Nat.mul_comm _ _ ▸ h9)
        rw [Nat.pow_succ] at h10
        omega
      · rw [Nat.min_eq_right (by omega), Nat.shiftLeft_eq, Nat.one_mul]
        have h9 : m / 2 ^ (m.log2 + 2) = 0 := Nat.div_eq_of_lt (Nat.lt_of_lt_of_le h5 (Nat.pow_le_pow_right (by decide) (by omega)))
        rw [h9]
        have := Nat.two_pow_pos f.fractionBits
        omega
  have h4 : (last - f.leastPlace).toNat ≤ (E - f.fractionBits - f.leastPlace).toNat := by omega
  have := Nat.mul_le_mul_right f.binade h4
  omega
theorem s_bin : single.binade = 2 ^ 23 := by decide +kernel
theorem s_fb : single.fractionBits = 23 := rfl
theorem d_fb : double.fractionBits = 52 := rfl
/-- a wide number under 2 to the power of 127 is not too great for 32 bits -/
theorem narrow_small {b : Nat} {s : Bool} {m : Nat} {p : Int} (hd : FloatKind.f64.decode b = .number s m p) (h : p + m.log2 ≤ 126) : cvWide .f64 b .f32 = false := by
  unfold cvWide
  rw [if_neg (by decide), hd]
  show (single.read (single.nearest s m p)).isInfinity = false
  obtain ⟨r, e, hr, _⟩ := nearest_bound single s h (by rw [s_lp, s_fb]; decide)
  rw [e]
  apply not_inf_of_lt
  rw [s_lp, s_fb, s_bin] at hr
  rw [s_ir]
  have : (126 - (23 : Nat) - -149 : Int).toNat = 252 := by decide
  rw [this] at hr
  omega
/-- the exponent of a word, from its rung -/
theorem exp_of_rung (f : Format) {s : Bool} {r m : Nat} {p : Int} {E : Nat} (hr : r < f.infRung) (hd : f.read (f.word s r) = .number s m p) (hm : m ≠ 0) (hv : nval f r < 2 ^ (E + 1)) : p + m.log2 ≤ E + f.leastPlace := by
  obtain ⟨m', p', e1, e2, e3⟩ := read_fin f s hr
  rw [hd] at e1
  obtain ⟨_, rfl, rfl⟩ := Datum.number.inj e1
  rw [Nat.shiftLeft_eq] at e3
  have h1 : (nval f r).log2 < E + 1 := (Nat.log2_lt (by rw [← e3]; exact Nat.mul_ne_zero hm (by have := Nat.two_pow_pos (p - f.leastPlace).toNat; omega))).2 hv
  rw [← e3, log2_mul_pow hm] at h1
  omega
theorem rootFrom_lt (n : Nat) : ∀ todo root, Datum.rootFrom n todo root < root + 2 ^ todo
  | 0, root => by unfold Datum.rootFrom; simp
  | todo + 1, root => by
    unfold Datum.rootFrom
    have hs : root + 1 <<< todo = root + 2 ^ todo := by rw [Nat.shiftLeft_eq, Nat.one_mul]
    simp only [hs]
    split
    · have := rootFrom_lt n todo (root + 2 ^ todo)
      rw [Nat.pow_succ]; omega
    · have := rootFrom_lt n todo root
      rw [Nat.pow_succ]; have := Nat.two_pow_pos todo; omega

def sqbits (x : Nat) (w : World) : Nat := (double.sqrt x).getD ((Question.nanBits .f64 x x).cut (w.tape w.drawn (.nanBits .f64 x x)))
def sqdr (x : Nat) : Nat := if (double.sqrt x).isSome then 0 else 1
def fsq (x : Nat) : Nat := (double.sqrt x).getD (nanOf .f64)
theorem run_sqrt {P : Program} (w : World) (x : Nat) : (Extern.MathSqrt.sqrt #[.float .f64 x]).run P w = .ok (.float .f64 (sqbits x w)) (w.drewN (sqdr x)) := by
  unfold Extern.MathSqrt.sqrt sqbits sqdr
  show ((match double.sqrt x with
    | some r => (pure (.float .f64 r) : Sem Value)
    | none => do pure (.float .f64 (← choose (.nanBits .f64 x x)))).run P w) = _
  cases h : double.sqrt x with
  | some r => rfl
  | none => simp [choose, Sem.run, Question.forced, World.drewN]
theorem root_not {n : Nat} {a d : Datum} (h : a.root n = some d) : a.isNaN = false ∧ d.isNaN = false := by
  unfold Datum.root at h
  cases a with
  | nan s t => cases h
  | infinity s => cases s <;> simp at h; subst h; exact ⟨rfl, rfl⟩
  | number s m i =>
    refine ⟨rfl, ?_⟩
    simp only at h
    split at h
    · cases h; rfl
    · split at h
      · cases h
      · cases h; rfl
theorem sqrt_nan {x : Nat} (h : isN .f64 x = true) : double.sqrt x = none := by
  unfold Format.sqrt
  cases hr : (double.read x).root (double.fractionBits + 2) with
  | none => rfl
  | some d => have := (root_not hr).1; unfold isN at h; rw [show FloatKind.f64.format.read x = double.read x from rfl, this] at h; cases h
theorem sqrt_cn (x : Nat) : double.sqrt (cn .f64 x) = double.sqrt x := by
  cases h : isN .f64 x
  · rw [cn_not h]
  · rw [sqrt_nan h, sqrt_nan (by rw [isN_cn, h])]
theorem sqrt_not {x r : Nat} (h : double.sqrt x = some r) : isN .f64 r = false := by
  unfold Format.sqrt at h
  cases hr : (double.read x).root (double.fractionBits + 2) with
  | none => rw [hr] at h; cases h
  | some d =>
    rw [hr] at h
    have e : double.write d = r := by simpa using h
    rw [← e]
    exact write_not double (root_not hr).2
theorem cn_sqbits (x : Nat) (w : World) : cn .f64 (sqbits x w) = fsq (cn .f64 x) := by
  unfold sqbits fsq
  rw [sqrt_cn]
  cases h : double.sqrt x with
  | some r => exact cn_not (sqrt_not h)
  | none => exact cn_nan (drawn_nan .f64 x x _)
theorem d_ir2 : double.infRung = 2047 * 2 ^ 52 := by decide +kernel
theorem s_ir2 : single.infRung = 255 * 2 ^ 23 := by decide +kernel
theorem nval_top (f : Format) (k : Nat) (h : 1 ≤ k) : nval f (k * f.binade) = f.binade * 2 ^ (k - 1) := by
  have hB : 0 < f.binade := Nat.two_pow_pos _
  unfold nval
  have h1 : f.binade ≤ k * f.binade := Nat.le_mul_of_pos_left _ h
  rw [if_neg (by omega), Nat.mul_mod_left, Nat.mul_div_cancel _ hB, Nat.add_zero]
theorem nval_mono {f : Format} {x y : Nat} (h : x ≤ y) : nval f x ≤ nval f y := by
  rcases Nat.lt_or_eq_of_le h with h | h
  · exact Nat.le_of_lt (nval_lt h)
  · rw [h]; exact Nat.le_refl _
set_option exponentiation.threshold 2000 in
/-- a wide word that is not above 2 to the power of 67 is not too great for 32 bits -/
theorem narrow_rung (s : Bool) {q : Nat} (h : q ≤ 1090 * 2 ^ 52) : cvWide .f64 (double.word s q) .f32 = false := by
  have hq : q < double.infRung := by rw [d_ir2]; omega
  obtain ⟨m, p, e1, e2, e3⟩ := read_fin double s hq
  by_cases hm : m = 0
  · subst hm
    unfold cvWide
    rw [if_neg (by decide), show FloatKind.f64.decode (double.word s q) = _ from e1]
    show (single.read (single.nearest s 0 p)).isInfinity = false
    unfold Format.nearest
    rw [if_pos rfl]
    exact not_inf_of_lt _ _ (by rw [s_ir]; omega)
  · refine narrow_small (p := p) (m := m) (s := s) e1 ?_
    have hv : nval double q < 2 ^ (1141 + 1) := by
      have h1 : nval double q ≤ nval double (1090 * double.binade) := nval_mono (by rw [d_bin]; exact h)
      rw [nval_top double 1090 (by decide), d_bin, ← Nat.pow_add] at h1
      exact Nat.lt_of_le_of_lt h1 (Nat.pow_lt_pow_right (by decide) (by decide))
    have := exp_of_rung double hq e1 hm hv
    rw [d_lp] at this
    omega
set_option exponentiation.threshold 2000 in
/-- the square root of a wide 32-bit number is not too great for 32 bits -/
theorem root_small {x : Nat} (hx : x < 4294967296) (w w2 : World) : cvWide .f64 (sqbits (cvbits .f32 x .f64 w) w2) .f32 = false := by
  cases hr : double.sqrt (cvbits .f32 x .f64 w) with
  | none =>
    unfold sqbits
    rw [hr]
    exact wide_nan (drawn_nan .f64 (cvbits .f32 x .f64 w) (cvbits .f32 x .f64 w) _)
  | some t =>
    have ht : sqbits (cvbits .f32 x .f64 w) w2 = t := by unfold sqbits; rw [hr]; rfl
    rw [ht]
    have hN : isN .f32 x = false := by
      cases h : isN .f32 x
      · rfl
      · rw [sqrt_nan (isN_wide x w h)] at hr; cases hr
    obtain ⟨s, r, rfl, hrs⟩ := word_of single (x := x) (by rw [s_sw]; omega)
    rcases Nat.lt_trichotomy r single.infRung with h | h | h
    · obtain ⟨q, hq, hw, hv⟩ := wide_fin s h
      rw [hw w] at hr
      obtain ⟨m, i, e1, e2, e3⟩ := read_fin double s hq
      unfold Format.sqrt at hr
      rw [e1] at hr
      unfold Datum.root at hr
      simp only at hr
      by_cases hm : m = 0
      · subst hm
        rw [if_pos rfl] at hr
        have e : double.nearest s 0 i = t := by simpa [Format.write] using hr
        rw [← e]
        unfold Format.nearest
        rw [if_pos rfl]
        exact narrow_rung s (Nat.zero_le _)
      · rw [if_neg hm] at hr
        cases s
        · simp only [Bool.false_eq_true, if_false, Option.map_some, Option.some.injEq] at hr
          rw [← hr]
          have hvs : nval single r < 2 ^ 277 := by
            have h1 : nval single r < nval single (255 * single.binade) := nval_lt (by rw [s_bin, ← s_ir2]; exact h)
            rw [nval_top single 255 (by decide), s_bin, ← Nat.pow_add] at h1
            exact h1
          have hvd : nval double q < 2 ^ (1201 + 1) := by
            rw [hv]
            have := Nat.mul_lt_mul_of_pos_right hvs (Nat.two_pow_pos 925)
            rwa [← Nat.pow_add] at this
          have hb := exp_of_rung double hq e1 hm hvd
          rw [d_lp] at hb
          obtain ⟨mo, hmo⟩ : ∃ mo, mo = 2 * (double.fractionBits + 2) - m.log2 + ((i - ((2 * (double.fractionBits + 2) - m.log2 : Nat) : Int)) % 2).toNat := ⟨_, rfl⟩
          rw [← hmo]
          have hn : (m <<< mo).log2 = m.log2 + mo := by rw [Nat.shiftLeft_eq]; exact log2_mul_pow hm
          obtain ⟨W, hW⟩ : ∃ W, W = Datum.rootFrom (m <<< mo) ((m <<< mo).log2 / 2 + 1) 0 := ⟨_, rfl⟩
          have hWl := rootFrom_lt (m <<< mo) ((m <<< mo).log2 / 2 + 1) 0
          rw [← hW] at hWl ⊢
          rw [hn] at hWl
          obtain ⟨c, hc⟩ : ∃ c, c = (W * W != m <<< mo).toNat := ⟨_, rfl⟩
          have hc1 : c ≤ 1 := by rw [hc]; exact Bool.toNat_le _
          rw [← hc]
          have hM : (2 * W + c).log2 ≤ (m.log2 + mo) / 2 + 1 := by
            by_cases h0 : 2 * W + c = 0
            · rw [h0]; simp
            · have : (2 * W + c).log2 < (m.log2 + mo) / 2 + 1 + 1 := (Nat.log2_lt h0).2 (by rw [Nat.pow_succ]; omega)
              omega
          obtain ⟨r2, er, hr2, _⟩ := nearest_bound double false (m := 2 * W + c) (p := (i - (mo : Int)) / 2 - 1) (E := 66) (by omega) (by rw [d_lp, d_fb]; decide)
          rw [show double.write (.number false (2 * W + c) ((i - (mo : Int)) / 2 - 1)) = _ from er]
          refine narrow_rung false ?_
          rw [d_lp, d_fb, d_bin] at hr2
          have : (66 - (52 : Nat) - -1074 : Int).toNat = 1088 := by decide
          rw [this] at hr2
          omega
        · simp at hr
    · subst h
      have e1 : cvbits .f32 (single.word s single.infRung) .f64 w = double.word s double.infRung := by
        unfold cvbits
        rw [if_neg (by decide), show FloatKind.f32.decode (single.word s single.infRung) = _ from read_inf single single_binade s]
        rfl
      rw [e1] at hr
      unfold Format.sqrt at hr
      rw [read_inf double double_binade s] at hr
      cases s
      · have e : double.word false double.infRung = t := by simpa [Datum.root, Format.write] using hr
        rw [← e]
        unfold cvWide
        rw [if_neg (by decide), show FloatKind.f64.decode (double.word false double.infRung) = _ from read_inf double double_binade false]
      · simp [Datum.root] at hr
    · have := nan_word single single_binade s h hrs
      have h2 : isN .f32 (single.word s r) = true := this
      rw [hN] at h2; cases h2
def rootE (c : Nat) : Nat := fcv .f64 (fsq (fcv .f32 c .f64)) .f32
theorem cn_root {x : Nat} (hx : x < 4294967296) (w w2 w3 : World) : cn .f32 (cvbits .f64 (sqbits (cvbits .f32 x .f64 w) w2) .f32 w3) = rootE (cn .f32 x) ∧ cvbits .f64 (sqbits (cvbits .f32 x .f64 w) w2) .f32 w3 < 4294967296 := by
  have h := root_small hx w w2
  refine ⟨?_, cv_lt32 w3 h⟩
  rw [cn_cvbits w3 h, cn_sqbits, cn_wide]
  rfl
end Go.Proofs.Ytnhikdjljjemlaa
/- Plain laws of floats as rational numbers: the operations on words; errors. No condition. -/
namespace Go.Proofs.Ytnhikdjljjemlaa
open Go Go.RowKit Ieee
set_option linter.unusedVariables false
set_option linter.unusedSimpArgs false
theorem Fin.read {f : Format} {w : Nat} (h : Fin f w) : ∃ s m p, f.read w = .number s m p ∧ val f w = num s m p := by
  obtain ⟨s, r, rfl, hr⟩ := h
  obtain ⟨m, p, h1, _⟩ := read_num f s hr
  exact ⟨s, m, p, h1, by unfold val; rw [h1]; rfl⟩
theorem one_frac (k : FloatKind) : 1 ≤ k.format.fractionBits := by cases k <;> decide
theorem inf_lt (k : FloatKind) : k.format.infRung < k.format.signWeight := by cases k <;> decide +kernel
theorem Near.write {k : FloatKind} {s : Bool} {m : Nat} {p : Int} {q : Rat} (h : num s m p = q) : Near k.format q (k.format.write (.number s m p)) := by
  rw [← h]; exact near_num k.format (one_frac k) s m p
theorem num_neg (s : Bool) (m : Nat) (p : Int) : num (!s) m p = -num s m p := by
  unfold num sg; cases s <;> simp <;> grind
theorem sum_num (s t : Bool) (m n : Nat) (i j : Int) : ∃ u M P, (Datum.number s m i).sum (.number t n j) = some (.number u M P) ∧ num u M P = num s m i + num t n j := by
  refine ⟨_, _, _, rfl, ?_⟩
  obtain ⟨b, hb⟩ : ∃ b, b = min i j := ⟨_, rfl⟩
  rw [← hb]
  have e1 := num_base (s := s) (m := m) (show b ≤ i by omega)
  have e2 := num_base (s := t) (m := n) (show b ≤ j by omega)
  rw [e1, e2]
  generalize signed s m (i - b).toNat = A
  generalize signed t n (j - b).toNat = B
  have hs : ((A : Rat)) * (2 : Rat) ^ b + (B : Rat) * (2 : Rat) ^ b = ((A + B : Int) : Rat) * (2 : Rat) ^ b := by rw [Rat.intCast_add]; grind
  rw [hs]
  generalize A + B = T
  unfold num sg
  by_cases h0 : T = 0
  · subst h0
    simp
  · rw [if_neg h0]
    have hT : (((if (decide (T < 0)) = true then (-1 : Rat) else 1)) * (T.natAbs : Rat)) = (T : Rat) := by
      by_cases h1 : T < 0
      · have : T = -(T.natAbs : Int) := by omega
        conv => rhs; rw [this]
        rw [Rat.intCast_neg, Rat.intCast_natCast]
        simp [h1]; grind
      · have : T = (T.natAbs : Int) := by omega
        conv => rhs; rw [this]
        rw [Rat.intCast_natCast]
        simp [h1]
    rw [hT]
theorem add_near {k : FloatKind} {x y : Nat} (hx : Fin k.format x) (hy : Fin k.format y) : ∃ r, floatBits .add k x y = some r ∧ Near k.format (val k.format x + val k.format y) r := by
  obtain ⟨s, m, p, h1, h2⟩ := hx.read
  obtain ⟨t, n, q, h3, h4⟩ := hy.read
  obtain ⟨u, M, P, h5, h6⟩ := sum_num s t m n p q
  refine ⟨k.format.write (.number u M P), ?_, Near.write (by rw [h6, h2, h4])⟩
  show ((k.format.read x).sum (k.format.read y)).map k.format.write = _
  rw [h1, h3, h5]; rfl
theorem sub_near {k : FloatKind} {x y : Nat} (hx : Fin k.format x) (hy : Fin k.format y) : ∃ r, floatBits .sub k x y = some r ∧ Near k.format (val k.format x - val k.format y) r := by
  obtain ⟨s, m, p, h1, h2⟩ := hx.read
  obtain ⟨t, n, q, h3, h4⟩ := hy.read
  obtain ⟨u, M, P, h5, h6⟩ := sum_num s (!t) m n p q
  refine ⟨k.format.write (.number u M P), ?_, Near.write (by rw [h6, h2, h4, num_neg]; grind)⟩
  show ((k.format.read x).sum (k.format.read y).opposite).map k.format.write = _
  rw [h1, h3]
  show ((Datum.number s m p).sum (.number (!t) n q)).map _ = _
  rw [h5]; rfl
theorem mul_near {k : FloatKind} {x y : Nat} (hx : Fin k.format x) (hy : Fin k.format y) : ∃ r, floatBits .mul k x y = some r ∧ Near k.format (val k.format x * val k.format y) r := by
  obtain ⟨s, m, p, h1, h2⟩ := hx.read
  obtain ⟨t, n, q, h3, h4⟩ := hy.read
  refine ⟨k.format.write (.number (s ^^ t) (m * n) (p + q)), ?_, Near.write ?_⟩
  · show ((k.format.read x).product (k.format.read y)).map k.format.write = _
    rw [h1, h3]; rfl
  · rw [h2, h4]
    unfold num
    rw [sg_xor, Rat.natCast_mul, pw_add]; grind
theorem num_ne {t : Bool} {n : Nat} {q : Int} (h : num t n q ≠ 0) : n ≠ 0 := by
  intro e; subst e; apply h; unfold num
  have : ((0 : Nat) : Rat) = 0 := rfl
  rw [this]; grind
theorem quo_nearW {k : FloatKind} {x y : Nat} (hx : Fin k.format x) (hy : Fin k.format y) (h0 : val k.format y ≠ 0) : ∃ r, floatBits .quo k x y = some r ∧ Near k.format (val k.format x / val k.format y) r := by
  obtain ⟨s, m, p, h1, h2⟩ := hx.read
  obtain ⟨t, n, q, h3, h4⟩ := hy.read
  rw [h4] at h0
  obtain ⟨d, h5, h6⟩ := quo_near k.format (one_frac k) s t m n p q (num_ne h0)
  refine ⟨k.format.write d, ?_, by rw [h2, h4]; exact h6⟩
  show ((k.format.read x).quotient (k.format.fractionBits + 2) (k.format.read y)).map k.format.write = _
  rw [h1, h3, h5]; rfl
theorem int_near (k : FloatKind) (n : Int) : Near k.format (n : Rat) (floatOfInt k n) := by
  have : num (decide (n < 0)) n.natAbs 0 = (n : Rat) := by
    unfold num sg
    rw [pw_zero, Rat.mul_one]
    by_cases h1 : n < 0
    · have e : n = -(n.natAbs : Int) := by omega
      conv => rhs; rw [e]
      rw [Rat.intCast_neg, Rat.intCast_natCast]
      simp [h1]; grind
    · have e : n = (n.natAbs : Int) := by omega
      conv => rhs; rw [e]
      rw [Rat.intCast_natCast]
      simp [h1]
  exact Near.write (k := k) this
theorem Near.fin {f : Format} {q : Rat} {w R : Nat} (h : Near f q w) (hR : R < f.infRung) (hq : rabs q * (2 : Rat) ^ (-f.leastPlace) ≤ nval f R) : Fin f w := by
  obtain ⟨s, r, rfl, hm, _⟩ := h
  exact ⟨s, r, rfl, by have := hm.mono (Mid.exact (Nat.le_of_lt hR)) hq; omega⟩
theorem narrow_near {x : Nat} (hx : Fin double x) : Near single (val double x) (fcv .f64 x .f32) := by
  obtain ⟨s, m, p, h1, h2⟩ := hx.read
  rw [h2]
  unfold fcv
  rw [if_neg (by decide), show FloatKind.f64.decode x = .number s m p from h1]
  exact near_num single (by decide) s m p
set_option exponentiation.threshold 2000 in
theorem wide_val {x : Nat} (hx : Fin single x) : Fin double (fcv .f32 x .f64) ∧ val double (fcv .f32 x .f64) = val single x := by
  obtain ⟨s, r, rfl, hr⟩ := hx
  obtain ⟨q, h1, h2, h3⟩ := wide_fin s hr
  have hn : isN .f32 (single.word s r) = false := read_word_le single s (by omega)
  have e := cn_wide (single.word s r) (default : World)
  rw [cn_not hn, h2, cn_not (show isN .f64 (double.word s q) = false from read_word_le double s (by omega))] at e
  rw [← e]
  refine ⟨⟨s, q, rfl, h1⟩, ?_⟩
  rw [val_word double s h1, val_word single s hr, h3, s_lp, d_lp, Rat.natCast_mul, ← pw_nat]
  have : (2 : Rat) ^ (-149 : Int) = (2 : Rat) ^ ((925 : Nat) : Int) * (2 : Rat) ^ (-1074 : Int) := by rw [← pw_add]; congr 1
  rw [this]; grind
theorem Fin.not {k : FloatKind} {x : Nat} (h : Fin k.format x) : isN k x = false := by
  obtain ⟨s, r, rfl, hr⟩ := h; exact read_word_le k.format s (Nat.le_of_lt hr)
theorem order_val {k : FloatKind} {x y : Nat} (hx : Fin k.format x) (hy : Fin k.format y) :
    (k.format.order x y = some .lt ↔ val k.format x < val k.format y) ∧ (k.format.order x y = some .gt ↔ val k.format y < val k.format x) ∧ (k.format.order x y = some .eq ↔ val k.format x = val k.format y) := by
  obtain ⟨s, m, p, h1, h2⟩ := hx.read
  obtain ⟨t, n, q, h3, h4⟩ := hy.read
  rw [h2, h4]
  unfold Format.order
  rw [h1, h3]
  exact order_num s t m n p q
/-- the gap behind a rung -/
theorem nval_gap (f : Format) (r : Nat) : nval f (r + 1) = nval f r + 1 ∨ ∃ g, nval f (r + 1) = nval f r + g ∧ f.binade * g ≤ nval f r := by
  have hB := binade_pos f
  rcases Nat.lt_or_ge r f.binade with h | h
  · left
    have e1 : nval f r = r := by unfold nval; rw [if_pos h]
    have e2 : nval f (r + 1) = r + 1 := by
      have := nval_rung f 0 (r + 1) (.inl rfl) (by omega)
      simpa using this
    rw [e1, e2]
  · right
    obtain ⟨e, he⟩ : ∃ e, r / f.binade = e + 1 := ⟨r / f.binade - 1, by have := (Nat.le_div_iff_mul_le hB).2 (show 1 * f.binade ≤ r by omega); omega⟩
    have hd := Nat.div_add_mod r f.binade
    have hm := Nat.mod_lt r hB
    have er : r = e * f.binade + (f.binade + r % f.binade) := by
      rw [he] at hd
      rw [Nat.mul_add, Nat.mul_one, Nat.mul_comm] at hd
      omega
    refine ⟨2 ^ e, ?_, ?_⟩
    · rw [er]
      rw [show e * f.binade + (f.binade + r % f.binade) + 1 = e * f.binade + (f.binade + r % f.binade + 1) by omega]
      rw [nval_rung f e _ (.inr (by omega)) (by omega), nval_rung f e _ (.inr (by omega)) (by omega), Nat.add_mul (f.binade + r % f.binade) 1]
      omega
    · rw [er, nval_rung f e _ (.inr (by omega)) (by omega)]
      exact Nat.mul_le_mul_right _ (by omega)
theorem Mid.err {f : Format} {V : Rat} {r : Nat} (h : Mid f V r) (hr : r < f.infRung) (hV : 0 ≤ V) : 2 * (f.binade : Rat) * ((nval f r : Rat) - V) ≤ V + f.binade ∧ 2 * (f.binade : Rat) * (V - nval f r) ≤ V + f.binade := by
  have hB : (0 : Rat) < f.binade := by have := nat_rat_lt (binade_pos f); simpa using this
  have gapR : ∀ q, ((nval f (q + 1) : Rat) - nval f q) * f.binade ≤ (nval f q : Rat) + f.binade := by
    intro q
    have h0 : (0 : Rat) ≤ nval f q := Rat.natCast_nonneg
    rcases nval_gap f q with h1 | ⟨g, h1, h2⟩
    · rw [h1, Rat.natCast_add]
      have : ((1 : Nat) : Rat) = 1 := rfl
      rw [this]; grind
    · rw [h1, Rat.natCast_add]
      have := nat_rat_le h2
      rw [Rat.natCast_mul] at this
      grind
  constructor
  · rcases h.low with h0 | ⟨h1, _⟩
    · subst h0
      rw [nval_zero]
      have : ((0 : Nat) : Rat) = 0 := rfl
      rw [this]
      have := Rat.mul_nonneg (Rat.le_of_lt hB) hV
      grind
    · have hr0 : 1 ≤ r ∨ r = 0 := by omega
      rcases hr0 with h2 | h2
      · have g := gapR (r - 1)
        rw [Nat.sub_add_cancel h2] at g
        have m := nat_rat_le (nval_le (f := f) (show r - 1 ≤ r by omega))
        have a : (nval f (r - 1) : Rat) ≤ V := by grind
        have b := Rat.mul_le_mul_of_nonneg_left h1 (Rat.le_of_lt hB)
        grind
      · subst h2
        rw [nval_zero]
        have : ((0 : Nat) : Rat) = 0 := rfl
        rw [this]
        have := Rat.mul_nonneg (Rat.le_of_lt hB) hV
        grind
  · obtain ⟨h1, _⟩ := h.high.resolve_left (by omega)
    have g := gapR r
    have b := Rat.mul_le_mul_of_nonneg_left h1 (Rat.le_of_lt hB)
    rcases rat_tri V (nval f r) with h2 | h2 | h2
    · have c : (f.binade : Rat) * (V - nval f r) ≤ 0 := by
        have := Rat.mul_le_mul_of_nonneg_left (Rat.le_of_lt h2) (Rat.le_of_lt hB)
        grind
      grind
    · rw [← h2]; grind
    · grind
end Go.Proofs.Ytnhikdjljjemlaa
/- Plain laws of floats: numbers with few digits are written as they are. No condition. -/
namespace Go.Proofs.Ytnhikdjljjemlaa
open Go Ieee
set_option linter.unusedVariables false
theorem log2_bounds {m : Nat} (hm : m ≠ 0) : 2 ^ m.log2 ≤ m ∧ m < 2 ^ (m.log2 + 1) := ⟨Nat.log2_self_le hm, Nat.lt_log2_self⟩
/-- the rung of a number with few digits -/
theorem digits_rung (f : Format) {m d : Nat} (hm : m ≠ 0) (hb : m < 2 * f.binade) (hd : (d + 2) * f.binade ≤ f.infRung) : ∃ r, r < f.infRung ∧ nval f r = m * 2 ^ d := by
  have hB := binade_pos f
  have hfb : f.binade = 2 ^ f.fractionBits := rfl
  obtain ⟨l1, l2⟩ := log2_bounds hm
  have hL : m.log2 ≤ f.fractionBits := by
    have h1 : 2 ^ m.log2 < 2 ^ (f.fractionBits + 1) := by rw [Nat.pow_succ, ← hfb]; omega
    have := (Nat.pow_lt_pow_iff_right (by decide : 1 < 2)).1 h1
    omega
  by_cases hc : d ≤ f.fractionBits - m.log2
  · refine ⟨0 * f.binade + m * 2 ^ d, ?_, ?_⟩
    · have h1 : m * 2 ^ d < 2 ^ (m.log2 + 1) * 2 ^ d := Nat.mul_lt_mul_of_pos_right l2 (Nat.two_pow_pos _)
      have h2 : 2 ^ (m.log2 + 1) * 2 ^ d ≤ 2 ^ (f.fractionBits + 1) := by rw [← Nat.pow_add]; exact Nat.pow_le_pow_right (by decide) (by omega)
      have h3 : 2 ^ (f.fractionBits + 1) = 2 * f.binade := by rw [Nat.pow_succ, hfb]; omega
      have h4 : 2 * f.binade ≤ (d + 2) * f.binade := Nat.mul_le_mul_right _ (by omega)
      omega
    · rw [nval_rung f 0 (m * 2 ^ d) (.inl rfl) ?_]
      · simp
      · have h1 : m * 2 ^ d < 2 ^ (m.log2 + 1) * 2 ^ d := Nat.mul_lt_mul_of_pos_right l2 (Nat.two_pow_pos _)
        have h2 : 2 ^ (m.log2 + 1) * 2 ^ d ≤ 2 ^ (f.fractionBits + 1) := by rw [← Nat.pow_add]; exact Nat.pow_le_pow_right (by decide) (by omega)
        have h3 : 2 ^ (f.fractionBits + 1) = 2 * f.binade := by rw [Nat.pow_succ, hfb]; omega
        omega
  · obtain ⟨e, he⟩ : ∃ e, d = e + (f.fractionBits - m.log2) := ⟨d - (f.fractionBits - m.log2), by omega⟩
    obtain ⟨k, hk⟩ : ∃ k, k = m * 2 ^ (f.fractionBits - m.log2) := ⟨_, rfl⟩
    have k1 : f.binade ≤ k := by
      rw [hk, hfb]
      have h1 : 2 ^ m.log2 * 2 ^ (f.fractionBits - m.log2) ≤ m * 2 ^ (f.fractionBits - m.log2) := Nat.mul_le_mul_right _ l1
      rw [← Nat.pow_add, show m.log2 + (f.fractionBits - m.log2) = f.fractionBits by omega] at h1
      exact h1
    have k2 : k < 2 * f.binade := by
      rw [hk]
      have h1 : m * 2 ^ (f.fractionBits - m.log2) < 2 ^ (m.log2 + 1) * 2 ^ (f.fractionBits - m.log2) := Nat.mul_lt_mul_of_pos_right l2 (Nat.two_pow_pos _)
      rw [← Nat.pow_add, show m.log2 + 1 + (f.fractionBits - m.log2) = f.fractionBits + 1 by omega, Nat.pow_succ, ← hfb] at h1
      omega
    refine ⟨e * f.binade + k, ?_, ?_⟩
    · have h1 : (e + 2) * f.binade ≤ (d + 2) * f.binade := Nat.mul_le_mul_right _ (by omega)
      have h2 : (e + 2) * f.binade = e * f.binade + 2 * f.binade := Nat.add_mul _ _ _
      omega
    · rw [nval_rung f e k (.inr k1) (by omega), hk, he, Nat.pow_add, Nat.mul_assoc, Nat.mul_comm (2 ^ (f.fractionBits - m.log2))]
/-- a number with few digits has a word -/
theorem exact_num (f : Format) (s : Bool) (m : Nat) (p : Int) (hb : m < 2 * f.binade) (h1 : f.leastPlace ≤ p) (h2 : ((p - f.leastPlace).toNat + 2) * f.binade ≤ f.infRung) : ∃ w, Fin f w ∧ val f w = num s m p := by
  by_cases hm : m = 0
  · subst hm
    have h3 : 0 < f.infRung := by have := binade_pos f; have : 2 * f.binade ≤ ((p - f.leastPlace).toNat + 2) * f.binade := Nat.mul_le_mul_right _ (by omega); omega
    refine ⟨f.word s 0, ⟨s, 0, rfl, h3⟩, ?_⟩
    rw [val_word f s h3, nval_zero]
    unfold num
    grind
  · obtain ⟨r, hr, hv⟩ := digits_rung f hm hb h2
    refine ⟨f.word s r, ⟨s, r, rfl, hr⟩, ?_⟩
    rw [val_word f s hr, hv]
    unfold num
    rw [Rat.natCast_mul, ← pw_nat, Rat.mul_assoc, Rat.mul_assoc, ← pw_add, show (((p - f.leastPlace).toNat : Nat) : Int) + f.leastPlace = p by omega]
theorem Near.num {f : Format} {s : Bool} {m : Nat} {p : Int} {w : Nat} (h : Near f (num s m p) w) (hb : m < 2 * f.binade) (h1 : f.leastPlace ≤ p) (h2 : ((p - f.leastPlace).toNat + 2) * f.binade ≤ f.infRung) : Fin f w ∧ val f w = Go.Proofs.Ytnhikdjljjemlaa.num s m p := by
  obtain ⟨w0, e1, e2⟩ := exact_num f s m p hb h1 h2
  exact Near.val_exact e1 e2.symm h
theorem num_int (n : Int) : num (decide (n < 0)) n.natAbs 0 = (n : Rat) := by
  unfold num sg
  rw [pw_zero]
  rcases (by omega : n < 0 ∨ 0 ≤ n) with h | h
  · rw [if_pos (decide_eq_true h)]
    have : (n : Int) = -((n.natAbs : Nat) : Int) := by omega
    rw [show ((n : Int) : Rat) = ((-((n.natAbs : Nat) : Int) : Int) : Rat) by rw [← this], Rat.intCast_neg, Rat.intCast_natCast]
    grind
  · rw [if_neg (by simpa using h)]
    have : (n : Int) = ((n.natAbs : Nat) : Int) := by omega
    rw [show ((n : Int) : Rat) = ((((n.natAbs : Nat) : Int) : Int) : Rat) by rw [← this], Rat.intCast_natCast]
    grind
theorem Near.int32 {n : Int} {w : Nat} (h : Near single (n : Rat) w) (hn : n.natAbs < 16777216) : Fin single w ∧ val single w = n := by
  rw [← num_int n] at h ⊢
  exact Near.num h (by have : single.binade = 8388608 := by decide +kernel
                       omega) (by rw [s_lp]; decide) (by decide +kernel)
theorem Near.int64 {n : Int} {w : Nat} (h : Near double (n : Rat) w) (hn : n.natAbs < 9007199254740992) : Fin double w ∧ val double w = n := by
  rw [← num_int n] at h ⊢
  exact Near.num h (by have : double.binade = 4503599627370496 := by decide +kernel
                       omega) (by rw [d_lp]; decide) (by decide +kernel)
theorem int_exact32 (n : Int) (hn : n.natAbs < 16777216) : Fin single (floatOfInt .f32 n) ∧ val single (floatOfInt .f32 n) = n := Near.int32 (int_near .f32 n) hn
theorem int_exact64 (n : Int) (hn : n.natAbs < 9007199254740992) : Fin double (floatOfInt .f64 n) ∧ val double (floatOfInt .f64 n) = n := Near.int64 (int_near .f64 n) hn
/-- numbers that are equal are found equal -/
theorem eq_val {k : FloatKind} {x y : Nat} (hx : Fin k.format x) (hy : Fin k.format y) (h : val k.format x = val k.format y) : k.format.order x y = some .eq := (order_val hx hy).2.2.2 h
theorem Fin.cn {k : FloatKind} {x y : Nat} (hx : Fin k.format x) (h : cn k y = x) : y = x := by
  have h1 : isN k y = false := by
    have e := isN_cn k y
    rw [h, hx.not] at e
    exact e.symm
  rw [cn_not h1] at h
  exact h
theorem fop_some {op : BinOp} {k : FloatKind} {x y r : Nat} (h : floatBits op k x y = some r) : fop op k x y = r := by simp [fop, h]
theorem half32 : Fin single 1056964608 ∧ val single 1056964608 = 1 / 2 := ⟨⟨false, 1056964608, by decide +kernel, by decide +kernel⟩, by unfold val; decide +kernel⟩
theorem four32 : Fin single 1082130432 ∧ val single 1082130432 = 4 := ⟨⟨false, 1082130432, by decide +kernel, by decide +kernel⟩, by unfold val; decide +kernel⟩
/-- an integer that is not great, halved and multiplied by 4, is the double one -/
theorem twice_int (n : Int) (hn : n.natAbs < 1000000) : Fin single (fop .mul .f32 (fop .mul .f32 (floatOfInt .f32 n) 1056964608) 1082130432) ∧ val single (fop .mul .f32 (fop .mul .f32 (floatOfInt .f32 n) 1056964608) 1082130432) = ((2 * n : Int) : Rat) := by
  obtain ⟨f1, v1⟩ := int_exact32 n (by omega)
  obtain ⟨r, e1, n1⟩ := mul_near (k := .f32) f1 half32.1
  rw [fop_some e1]
  have e2 : val FloatKind.f32.format (floatOfInt .f32 n) * val FloatKind.f32.format 1056964608 = num (decide (n < 0)) n.natAbs (-1) := by
    show val single _ * val single _ = _
    rw [v1, half32.2, ← num_int n]
    unfold num
    rw [show (-1 : Int) = 0 + -1 by rfl, pw_add, pw_zero]
    have : (2 : Rat) ^ (-1 : Int) = 1 / 2 := by decide +kernel
    rw [this]; grind
  rw [e2] at n1
  obtain ⟨f2, v2⟩ := Near.num n1 (by show _ < 2 * single.binade; have : single.binade = 8388608 := by decide +kernel
                                     omega) (by show single.leastPlace ≤ _; rw [s_lp]; decide) (by decide +kernel)
  obtain ⟨q, e3, n2⟩ := mul_near (k := .f32) f2 four32.1
  rw [fop_some e3]
  have e4 : val FloatKind.f32.format r * val FloatKind.f32.format 1082130432 = ((2 * n : Int) : Rat) := by
    show val FloatKind.f32.format r * val single _ = _
    rw [v2, four32.2, Rat.intCast_mul, ← num_int n]
    unfold num
    rw [show (-1 : Int) = 0 + -1 by rfl, pw_add, pw_zero]
    have : (2 : Rat) ^ (-1 : Int) = 1 / 2 := by decide +kernel
    rw [this]
    have : ((2 : Int) : Rat) = 2 := rfl
    rw [this]; grind
  rw [e4] at n2
  exact Near.int32 n2 (by omega)
/-- a code with the spread 1 -/
def one32 : Nat := 1065353216
theorem code_number : ∀ j : Nat, j < 255 → fop .mul .f32 (floatOfInt .f32 ((j : Int) - 127)) one32 = floatOfInt .f32 ((j : Int) - 127) := by decide +kernel
end Go.Proofs.Ytnhikdjljjemlaa
/- Plain laws of floats: bounds of results by integers. No condition. -/
namespace Go.Proofs.Ytnhikdjljjemlaa
open Go Ieee
set_option linter.unusedVariables false
/-- a number between two integers -/
structure Btw (k : FloatKind) (a b : Int) (w : Nat) : Prop where
  fin : Fin k.format w
  lo : (a : Rat) ≤ val k.format w
  hi : val k.format w ≤ (b : Rat)
def smallI (n : Int) : Prop := n.natAbs < 16777216
theorem int_exactK (k : FloatKind) {n : Int} (h : smallI n) : Fin k.format (floatOfInt k n) ∧ val k.format (floatOfInt k n) = n := by
  unfold smallI at h
  cases k
  · exact int_exact32 n h
  · exact int_exact64 n (by omega)
theorem rabs_le {q : Rat} {c : Rat} (h1 : -c ≤ q) (h2 : q ≤ c) : rabs q ≤ c := by unfold rabs; split <;> grind
theorem near_btw {k : FloatKind} {a b : Int} {q : Rat} {w : Nat} (ha : smallI a) (hb : smallI b) (h1 : (a : Rat) ≤ q) (h2 : q ≤ (b : Rat)) (h : Near k.format q w) : Btw k a b w := by
  obtain ⟨fa, va⟩ := int_exactK k ha
  obtain ⟨fb, vb⟩ := int_exactK k hb
  have hc : smallI (max (a.natAbs : Int) b.natAbs) := by unfold smallI at *; omega
  obtain ⟨fc, vc⟩ := int_exactK k hc
  have hw : Fin k.format w := by
    obtain ⟨s, r, e, hr⟩ := fc
    refine h.fin hr ?_
    have e1 := abs_val k.format s hr
    rw [← e, vc] at e1
    have hp := pw_pos (-k.format.leastPlace)
    have hle : rabs q ≤ rabs ((max (a.natAbs : Int) b.natAbs : Int) : Rat) := by
      have h0 : (0 : Rat) ≤ ((max (a.natAbs : Int) b.natAbs : Int) : Rat) := by
        have : (0 : Int) ≤ max (a.natAbs : Int) b.natAbs := by omega
        exact_mod_cast this
      rw [rabs_pos h0]
      refine rabs_le ?_ ?_
      · have h3 : -(max (a.natAbs : Int) b.natAbs) ≤ a := by omega
        have h4 : ((-(max (a.natAbs : Int) b.natAbs) : Int) : Rat) ≤ (a : Rat) := by exact_mod_cast h3
        rw [Rat.intCast_neg] at h4
        grind
      · have h3 : b ≤ max (a.natAbs : Int) b.natAbs := by omega
        have h4 : (b : Rat) ≤ ((max (a.natAbs : Int) b.natAbs : Int) : Rat) := by exact_mod_cast h3
        grind
    have h5 : rabs q * (2 : Rat) ^ (-k.format.leastPlace) ≤ rabs ((max (a.natAbs : Int) b.natAbs : Int) : Rat) * (2 : Rat) ^ (-k.format.leastPlace) := Rat.mul_le_mul_of_nonneg_right hle (Rat.le_of_lt hp)
    rw [e1] at h5
    exact h5
  refine ⟨hw, ?_, ?_⟩
  · have := (int_near k a).mono h fa hw (inf_lt k) h1
    rwa [va] at this
  · have := h.mono (int_near k b) hw fb (inf_lt k) h2
    rwa [vb] at this
theorem Btw.mono {k : FloatKind} {a b a' b' : Int} {w : Nat} (h : Btw k a b w) (h1 : a' ≤ a) (h2 : b ≤ b') : Btw k a' b' w := by
  have e1 : (a' : Rat) ≤ (a : Rat) := by exact_mod_cast h1
  have e2 : (b : Rat) ≤ (b' : Rat) := by exact_mod_cast h2
  exact ⟨h.fin, Rat.le_trans e1 h.lo, Rat.le_trans h.hi e2⟩
theorem Btw.int {k : FloatKind} {n : Int} (h : smallI n) : Btw k n n (floatOfInt k n) := by
  obtain ⟨f, v⟩ := int_exactK k h
  exact ⟨f, by rw [v]; exact Rat.le_refl, by rw [v]; exact Rat.le_refl⟩
theorem fop_add {k : FloatKind} {x y : Nat} (hx : Fin k.format x) (hy : Fin k.format y) : Near k.format (val k.format x + val k.format y) (fop .add k x y) := by
  obtain ⟨r, e, h⟩ := add_near hx hy; rw [fop_some e]; exact h
theorem fop_sub {k : FloatKind} {x y : Nat} (hx : Fin k.format x) (hy : Fin k.format y) : Near k.format (val k.format x - val k.format y) (fop .sub k x y) := by
  obtain ⟨r, e, h⟩ := sub_near hx hy; rw [fop_some e]; exact h
theorem fop_mul {k : FloatKind} {x y : Nat} (hx : Fin k.format x) (hy : Fin k.format y) : Near k.format (val k.format x * val k.format y) (fop .mul k x y) := by
  obtain ⟨r, e, h⟩ := mul_near hx hy; rw [fop_some e]; exact h
theorem fop_quo {k : FloatKind} {x y : Nat} (hx : Fin k.format x) (hy : Fin k.format y) (h0 : val k.format y ≠ 0) : Near k.format (val k.format x / val k.format y) (fop .quo k x y) := by
  obtain ⟨r, e, h⟩ := quo_nearW hx hy h0; rw [fop_some e]; exact h
theorem Btw.add {k : FloatKind} {a b c d : Int} {x y : Nat} (hx : Btw k a b x) (hy : Btw k c d y) (h1 : smallI (a + c)) (h2 : smallI (b + d)) : Btw k (a + c) (b + d) (fop .add k x y) :=
  near_btw h1 h2 (by rw [Rat.intCast_add]; have := hx.lo; have := hy.lo; grind) (by rw [Rat.intCast_add]; have := hx.hi; have := hy.hi; grind) (fop_add hx.fin hy.fin)
theorem Btw.sub {k : FloatKind} {a b c d : Int} {x y : Nat} (hx : Btw k a b x) (hy : Btw k c d y) (h1 : smallI (a - d)) (h2 : smallI (b - c)) : Btw k (a - d) (b - c) (fop .sub k x y) :=
  near_btw h1 h2 (by rw [Rat.intCast_sub]; have := hx.lo; have := hy.hi; grind) (by rw [Rat.intCast_sub]; have := hx.hi; have := hy.lo; grind) (fop_sub hx.fin hy.fin)
/-- a product, by the bounds that are told for the true one -/
theorem Btw.mulq {k : FloatKind} {a b : Int} {x y : Nat} (hx : Fin k.format x) (hy : Fin k.format y) (ha : smallI a) (hb : smallI b) (h1 : (a : Rat) ≤ val k.format x * val k.format y) (h2 : val k.format x * val k.format y ≤ (b : Rat)) : Btw k a b (fop .mul k x y) := near_btw ha hb h1 h2 (fop_mul hx hy)
theorem Btw.quoq {k : FloatKind} {a b : Int} {x y : Nat} (hx : Fin k.format x) (hy : Fin k.format y) (h0 : val k.format y ≠ 0) (ha : smallI a) (hb : smallI b) (h1 : (a : Rat) ≤ val k.format x / val k.format y) (h2 : val k.format x / val k.format y ≤ (b : Rat)) : Btw k a b (fop .quo k x y) := near_btw ha hb h1 h2 (fop_quo hx hy h0)
theorem mul_abs {p q c d : Rat} (h1 : -c ≤ p) (h2 : p ≤ c) (h3 : -d ≤ q) (h4 : q ≤ d) (hc : 0 ≤ c) (hd : 0 ≤ d) : -(c * d) ≤ p * q ∧ p * q ≤ c * d := by
  have hr : rabs p ≤ c := rabs_le h1 h2
  have hs : rabs q ≤ d := rabs_le h3 h4
  have hm : rabs (p * q) = rabs p * rabs q := by
    unfold rabs
    rcases rat_tri p 0 with a | a | a <;> rcases rat_tri q 0 with b | b | b
    · have := Rat.mul_pos (show (0 : Rat) < -p by grind) (show (0 : Rat) < -q by grind)
      rw [if_neg (by grind), if_pos a, if_pos b]; grind
    · subst b; simp
    · have := Rat.mul_pos (show (0 : Rat) < -p by grind) b
      rw [if_pos (by grind), if_pos a, if_neg (by grind)]; grind
    · subst a; simp
    · subst a; simp
    · subst a; simp
    · have := Rat.mul_pos a (show (0 : Rat) < -q by grind)
      rw [if_pos (by grind), if_neg (by grind), if_pos b]; grind
    · subst b; simp
    · have := Rat.mul_pos a b
      rw [if_neg (by grind), if_neg (by grind), if_neg (by grind)]
  have h5 : rabs p * rabs q ≤ c * d := Rat.le_trans (Rat.mul_le_mul_of_nonneg_right hr (rabs_nonneg q)) (Rat.mul_le_mul_of_nonneg_left hs hc)
  rw [← hm] at h5
  unfold rabs at h5
  split at h5 <;> constructor <;> grind
theorem cast_abs (c : Int) (d : Int) : ((c * d : Int) : Rat) = (c : Rat) * (d : Rat) := Rat.intCast_mul c d
/-- a product of numbers whose sizes are bounded -/
theorem Btw.mul {k : FloatKind} {c d : Int} {x y : Nat} (hx : Btw k (-c) c x) (hy : Btw k (-d) d y) (hc : 0 ≤ c) (hd : 0 ≤ d) (h : smallI (c * d)) : Btw k (-(c * d)) (c * d) (fop .mul k x y) := by
  have c0 : (0 : Rat) ≤ (c : Rat) := by exact_mod_cast hc
  have d0 : (0 : Rat) ≤ (d : Rat) := by exact_mod_cast hd
  have l1 := hx.lo; have l2 := hy.lo
  rw [Rat.intCast_neg] at l1 l2
  have hm := mul_abs l1 hx.hi l2 hy.hi c0 d0
  refine Btw.mulq hx.fin hy.fin (by unfold smallI at *; omega) h ?_ ?_
  · rw [Rat.intCast_neg, cast_abs]; exact hm.1
  · rw [cast_abs]; exact hm.2
/-- a small number is not too great for 32 bits -/
theorem Btw.narrow {a b : Int} {x : Nat} (h : Btw .f64 a b x) (ha : smallI a) (hb : smallI b) : cvWide .f64 x .f32 = false ∧ Btw .f32 a b (fcv .f64 x .f32) := by
  have hn := narrow_near h.fin
  have hb2 : Btw .f32 a b (fcv .f64 x .f32) := near_btw ha hb h.lo h.hi hn
  refine ⟨?_, hb2⟩
  obtain ⟨s, m, p, h1, h2⟩ := h.fin.read
  unfold cvWide
  rw [if_neg (by decide), show FloatKind.f64.decode x = .number s m p from h1]
  have e : fcv .f64 x .f32 = FloatKind.f32.encode (.number s m p) := by
    unfold fcv
    rw [if_neg (by decide), show FloatKind.f64.decode x = .number s m p from h1]
  show (FloatKind.f32.decode (FloatKind.f32.encode (.number s m p))).isInfinity = false
  rw [← e]
  obtain ⟨t, r, e2, hr⟩ := hb2.fin
  rw [e2]
  exact not_inf_of_lt single t hr
end Go.Proofs.Ytnhikdjljjemlaa
/- Plain laws of floats: how far a rounded number is off; rounding keeps the order with exact numbers. No condition. -/
namespace Go.Proofs.Ytnhikdjljjemlaa
open Go Go.RowKit Ieee
set_option linter.unusedVariables false
set_option linter.unusedSimpArgs false
theorem near_err {f : Format} {q : Rat} {w : Nat} (h : Near f q w) (hf : Fin f w) (hI : f.infRung < f.signWeight) :
    2 * (f.binade : Rat) * (val f w - q) ≤ rabs q + f.binade * (2 : Rat) ^ f.leastPlace ∧ 2 * (f.binade : Rat) * (q - val f w) ≤ rabs q + f.binade * (2 : Rat) ^ f.leastPlace := by
  obtain ⟨s, r, rfl, hm, hn, hp⟩ := h
  have hr : r < f.infRung := by
    obtain ⟨t, r0, e, h0⟩ := hf
    obtain ⟨-, e3⟩ := word_inj (Nat.lt_of_le_of_lt hm.le hI) (Nat.lt_trans h0 hI) e
    rw [e3]; exact h0
  have hpw := pw_pos (-f.leastPlace)
  have hpl := pw_pos f.leastPlace
  have hV : 0 ≤ rabs q * (2 : Rat) ^ (-f.leastPlace) := Rat.mul_nonneg (rabs_nonneg q) (Rat.le_of_lt hpw)
  obtain ⟨e1, e2⟩ := hm.err hr hV
  have hu : rabs q * (2 : Rat) ^ (-f.leastPlace) * (2 : Rat) ^ f.leastPlace = rabs q := units' f _
  have f1 := Rat.mul_le_mul_of_nonneg_right e1 (Rat.le_of_lt hpl)
  have f2 := Rat.mul_le_mul_of_nonneg_right e2 (Rat.le_of_lt hpl)
  obtain ⟨A, hA⟩ : ∃ A, A = (nval f r : Rat) * (2 : Rat) ^ f.leastPlace := ⟨_, rfl⟩
  obtain ⟨V, hVe⟩ : ∃ V, V = rabs q * (2 : Rat) ^ (-f.leastPlace) := ⟨_, rfl⟩
  rw [← hVe] at f1 f2 hu
  obtain ⟨P, hP⟩ : ∃ P, P = (2 : Rat) ^ f.leastPlace := ⟨_, rfl⟩
  obtain ⟨B, hB⟩ : ∃ B, B = (f.binade : Rat) := ⟨_, rfl⟩
  obtain ⟨M, hM⟩ : ∃ M, M = (nval f r : Rat) := ⟨_, rfl⟩
  rw [val_word f s hr]
  rw [← hP, ← hM] at hA
  rw [← hP] at f1 f2 hu hpl
  rw [← hB, ← hM] at f1 f2
  rw [← hP, ← hB, ← hM, ← hA]
  have g1 : 2 * B * (A - rabs q) ≤ rabs q + B * P := by rw [hA, ← hu]; grind
  have g2 : 2 * B * (rabs q - A) ≤ rabs q + B * P := by rw [hA, ← hu]; grind
  have hA0 : 0 ≤ A := by rw [hA, hM]; exact Rat.mul_nonneg Rat.natCast_nonneg (Rat.le_of_lt hpl)
  have hB0 : 0 ≤ B := by rw [hB]; exact Rat.natCast_nonneg
  clear f1 f2 hu hA hVe e1 e2 hV hm hpw
  rcases rat_tri q 0 with h | h | h
  · have hs := hn h
    subst hs
    have ha : rabs q = -q := rabs_neg (Rat.le_of_lt h)
    rw [ha] at g1 g2 ⊢
    unfold sg
    simp only [if_true]
    constructor <;> grind
  · subst h
    have ha : rabs 0 = 0 := by decide +kernel
    rw [ha] at g1 g2 ⊢
    have hz : 0 ≤ 2 * B * A := Rat.mul_nonneg (Rat.mul_nonneg (by decide) hB0) hA0
    unfold sg
    split <;> constructor <;> grind
  · have hs := hp h
    subst hs
    have ha : rabs q = q := rabs_pos (Rat.le_of_lt h)
    rw [ha] at g1 g2 ⊢
    unfold sg
    simp only [Bool.false_eq_true, if_false]
    constructor <;> grind
def Ex (k : FloatKind) (a : Rat) : Prop := ∃ w, Fin k.format w ∧ val k.format w = a
theorem near_self {f : Format} {w : Nat} (h : Fin f w) : Near f (val f w) w := by
  obtain ⟨s, r, rfl, hr⟩ := h
  have hz : (0 : Rat) ≤ (nval f r : Rat) * (2 : Rat) ^ f.leastPlace := Rat.mul_nonneg Rat.natCast_nonneg (Rat.le_of_lt (pw_pos _))
  refine ⟨s, r, rfl, by rw [abs_val f s hr]; exact Mid.exact (Nat.le_of_lt hr), ?_, ?_⟩
  · intro h; rw [val_word f s hr] at h
    cases s
    · unfold sg at h; simp at h; exact absurd hz (Rat.not_le.mpr h)
    · rfl
  · intro h; rw [val_word f s hr] at h
    cases s
    · rfl
    · unfold sg at h; simp at h; grind
theorem near_lo {k : FloatKind} {a q : Rat} {w : Nat} (ha : Ex k a) (h1 : a ≤ q) (h : Near k.format q w) (hw : Fin k.format w) : a ≤ val k.format w := by
  obtain ⟨wa, fa, va⟩ := ha
  have := (near_self fa).mono h fa hw (inf_lt k) (by rw [va]; exact h1)
  rwa [va] at this
theorem near_hi {k : FloatKind} {b q : Rat} {w : Nat} (hb : Ex k b) (h1 : q ≤ b) (h : Near k.format q w) (hw : Fin k.format w) : val k.format w ≤ b := by
  obtain ⟨wb, fb, vb⟩ := hb
  have := h.mono (near_self fb) hw fb (inf_lt k) (by rw [vb]; exact h1)
  rwa [vb] at this
theorem fin64_of {w : Nat} (h : w % 9223372036854775808 < 9218868437227405312 ∧ w < 18446744073709551616) : Fin double w := by
  have hw : double.signWeight = 9223372036854775808 := by decide +kernel
  obtain ⟨s, r, rfl, hr⟩ := word_of double (x := w) (by rw [hw]; omega)
  refine ⟨s, r, rfl, ?_⟩
  rw [d_ir]
  rw [hw] at hr
  have e : double.word s r % 9223372036854775808 = r := by
    unfold Format.word
    rw [hw]
    cases s <;> simp <;> omega
  omega
end Go.Proofs.Ytnhikdjljjemlaa
/- Plain laws of memory: a row of cells that is read ('Rd'), how arguments are opened. No condition. -/
namespace Go.Proofs.Ytnhikdjljjemlaa
open Go Go.RowKit Go.ChangeShapes Go.WideShapes

/-- from 'ad' on lie the cells 'vs' -/
def Rd (w : World) (ad : Option Addr) (vs : List Value) : Prop :=
  vs = [] ∨ ∃ b off, ad = some ⟨b, off, none⟩ ∧ b < w.heap.size ∧ ∀ i, i < vs.length → w.cell? ⟨b, off + i, none⟩ = vs[i]?

theorem Rd.nil (w : World) (ad : Option Addr) : Rd w ad [] := .inl rfl
theorem Rd.kept {w w' : World} {ad : Option Addr} {vs : List Value} (h : Rd w ad vs) (hs : w.heap.size ≤ w'.heap.size) (hc : ∀ b off, ad = some ⟨b, off, none⟩ → b < w.heap.size → w'.heap[b]? = w.heap[b]?) : Rd w' ad vs := by
  rcases h with h | ⟨b, off, h1, h2, h3⟩
  · exact .inl h
  · exact .inr ⟨b, off, h1, by omega, fun i hi => by rw [World.cell?_of_block (w := w) (hc b off h1 h2)]; exact h3 i hi⟩
theorem Rd.below {w w' : World} {B : Nat} {ad : Option Addr} {vs : List Value} (h : Rd w ad vs) (hb : Below B w w') (hB : w.heap.size ≤ B) : Rd w' ad vs :=
  h.kept hb.size fun b _ _ hl => hb.block b (by omega)
/-- a row below 'B' -/
theorem Rd.belowLt {w w' : World} {B : Nat} {ad : Option Addr} {vs : List Value} (h : Rd w ad vs) (hb : Below B w w') (hB : ∀ b off, ad = some ⟨b, off, none⟩ → b < B) : Rd w' ad vs :=
  h.kept hb.size fun b off e _ => hb.block b (hB b off e)
theorem Rd.grown {w w' : World} {row : Option Nat} {ad : Option Addr} {vs : List Value} (h : Rd w ad vs) (hg : w.grownBy w' row) (hB : ∀ b off, ad = some ⟨b, off, none⟩ → some b ≠ row) : Rd w' ad vs :=
  h.kept hg.size fun b off e hl => hg.block b hl (hB b off e)
theorem Rd.drewN {w : World} {ad : Option Addr} {vs : List Value} (h : Rd w ad vs) (n : Nat) : Rd (w.drewN n) ad vs := h
/-- one cell of it, and the address written out -/
theorem Rd.spot {w : World} {ad : Option Addr} {vs : List Value} (h : Rd w ad vs) {i : Nat} (hi : i < vs.length) : ∃ b off, ad = some ⟨b, off, none⟩ ∧ b < w.heap.size ∧ ∀ j, j < vs.length → w.cell? ⟨b, off + j, none⟩ = vs[j]? := by
  rcases h with h | h
  · rw [h] at hi; simp at hi
  · exact h
theorem Rd.of_owns {w : World} {base size n : Nat} {e : TypeId} {v : Value} {vs : List Value} (h : w.ownsRow base e size v n vs) : ∃ ad cap, v = .slice ad n cap ∧ n ≤ cap ∧ cap ≤ maxLen ∧ Rd w ad vs ∧ (∀ b off, ad = some ⟨b, off, none⟩ → base ≤ b ∧ b < w.heap.size) := by
  rcases h.2 with ⟨rfl, rfl⟩ | ⟨g, cap, cur, rfl, hb, hg, hn, hm, hs, ht⟩
  · have : vs = [] := by have := h.1; simpa using this
    exact ⟨none, 0, rfl, Nat.le_refl _, Nat.zero_le _, .inl this, fun b off e => by cases e⟩
  · have hlt : g < w.heap.size := (Array.getElem?_eq_some_iff.1 hg).1
    refine ⟨_, cap, rfl, hn, hm, .inr ⟨g, 0, rfl, hlt, fun i hi => ?_⟩, fun b off e => ?_⟩
    · have := h.cells (g := g) rfl i (vs[i]) (List.getElem?_eq_getElem hi)
      rw [List.getElem?_eq_getElem hi]
      rw [← this]
      congr 1
      unfold Addr.add
      split <;> simp_all
    · simp only [Option.some.injEq, Addr.mk.injEq] at e
      obtain ⟨rfl, _, _⟩ := e
      exact ⟨hb, hlt⟩

section
variable {H : Type} {enc : TypeId × Value → H} {P : Program} {w : World} {base : Nat} {spare : Nat → Bool} {held : Bool}

theorem trod_float {t : TypeId} {k : FloatKind} {fuel : Nat} {cs : List Value} {x : DataW H × List MemPlace} (ht : P.underlying t = some (.float k)) (h : DataW.trod enc P w base spare held fuel t cs = some x) : ∃ b, cs = [.float k b] ∧ (Lit.float k b).wf = true := by
  cases fuel with
  | zero => simp [DataW.trod] at h
  | succ n =>
    unfold DataW.trod at h
    rw [ht] at h
    split at h <;> simp_all
theorem f32_lt {b : Nat} (h : (Lit.float .f32 b).wf = true) : b < 4294967296 := by simpa [Lit.wf] using h
theorem f64_lt {b : Nat} (h : (Lit.float .f64 b).wf = true) : b < 18446744073709551616 := by simpa [Lit.wf] using h

/-- what a slice is, its elements decoded -/
theorem open_rows {β : Type} {t e : TypeId} {v : Value} {d : DataW H} {ps : List MemPlace} (cellsOf : β → List Value) (Good : β → Prop) (ht : P.underlying t = some (.slice e))
    (hdec : ∀ (n : Nat) (cs : List Value) (y : DataW H × List MemPlace), DataW.trod enc P w base spare held n e cs = some y → ∃ b, cs = cellsOf b ∧ Good b)
    (h : DataW.Trod enc P w base spare held t v d ps) (hv : ∃ a l c, v = .slice a l c) : ∃ (ad : Option Addr) (cap : Nat) (bs : List β), v = .slice ad (bs.length) cap ∧ bs.length ≤ cap ∧ cap ≤ maxLen ∧ Rd w ad (bs.flatMap cellsOf) ∧ (∀ b ∈ bs, Good b) := by
  obtain ⟨fuel, hf⟩ := h
  obtain ⟨a0, l0, c0, rfl⟩ := hv
  rcases DataW.trod_slice ht hf with ⟨hcs, _⟩ | ⟨a, len, cap, elems, rest, n, _, hcs, _, hb, hl, hm, hlen, hel, _⟩
  · simp [Value.cells] at hcs
    obtain ⟨rfl, rfl, rfl⟩ := hcs
    exact ⟨none, 0, [], rfl, Nat.le_refl _, Nat.zero_le _, .inl rfl, fun b hb => by cases hb⟩
  · simp [Value.cells] at hcs
    obtain ⟨rfl, rfl, rfl⟩ := hcs
    have key : ∀ m, m ≤ l0 → ∃ bs : List β, bs.length = m ∧ (∀ b ∈ bs, Good b) ∧ (bs.flatMap cellsOf).length = m * P.cellsOf e ∧ (∀ i, i < m * P.cellsOf e → w.cell? (a.add i) = (bs.flatMap cellsOf)[i]?) := by
      intro m
      induction m with
      | zero => intro _; exact ⟨[], rfl, (fun b hb => nomatch hb), by simp, (fun i hi => by simp at hi)⟩
      | succ m ih =>
        intro hm'
        obtain ⟨bs, h1, h2, h3, h4⟩ := ih (by omega)
        have hy := hel m (by omega)
        have hlt : m < elems.length := by omega
        rw [List.getElem?_eq_getElem hlt, Option.bind_eq_some_iff] at hy
        obtain ⟨cs, hcs, hy⟩ := hy
        obtain ⟨b, rfl, hg⟩ := hdec _ _ _ hy
        obtain ⟨_, hsz, hcell⟩ := World.cells?_some hcs
        refine ⟨bs ++ [b], by simp [h1], ?_, ?_, ?_⟩
        · intro b' hb'
          rcases List.mem_append.1 hb' with hb' | hb'
          · exact h2 b' hb'
          · simp at hb'; subst hb'; exact hg
        · simp [h3, hsz, Nat.succ_mul]
        · intro i hi
          rw [List.flatMap_append, List.flatMap_singleton]
          by_cases hlt' : i < m * P.cellsOf e
          · rw [List.getElem?_append_left (by omega)]; exact h4 i hlt'
          · rw [List.getElem?_append_right (by omega), h3]
            rw [Nat.succ_mul] at hi
            have := hcell (i - m * P.cellsOf e) (by omega)
            rw [← this, Addr.add_add]
            congr 2
            omega
    obtain ⟨bs, h1, h2, h3, h4⟩ := key l0 (Nat.le_refl _)
    refine ⟨some a, c0, bs, by rw [h1], by omega, hm, ?_, h2⟩
    by_cases hz : bs.flatMap cellsOf = []
    · exact .inl hz
    · have hpos : 0 < (bs.flatMap cellsOf).length := List.length_pos_iff.2 hz
      have h0 := h4 0 (by omega)
      rw [List.getElem?_eq_getElem hpos] at h0
      have hsp : a.spot = none := by
        have := World.cell?_spot h0
        unfold Addr.add at this
        split at this <;> simp_all
      obtain ⟨b, off, spot⟩ := a
      simp at hsp; subst hsp
      refine .inr ⟨b, off, rfl, ?_, fun i hi => ?_⟩
      · have := World.block_lt_of_cell? w _ h0
        simpa [Addr.add] using this
      · have := h4 i (by omega)
        rw [Addr.add_lit] at this; exact this

structure Ints (k : IntKind) (w : World) (ad : Option Addr) (cap : Nat) (xs : List Int) : Prop where
  len : xs.length ≤ cap
  cap : cap ≤ maxLen
  rd : Rd w ad (xs.map (Value.int k))
  wf : ∀ x ∈ xs, (Lit.int k x).wf = true
structure F32s (w : World) (ad : Option Addr) (cap : Nat) (xs : List Nat) : Prop where
  len : xs.length ≤ cap
  cap : cap ≤ maxLen
  rd : Rd w ad (xs.map (Value.float .f32))
  lt : ∀ x ∈ xs, x < 4294967296
theorem dec_f32s {t e : TypeId} {n : Nat} {cs : List Value} {y : DataW H × List MemPlace} (ht : P.underlying t = some (.slice e)) (he : P.underlying e = some (.float .f32))
    (h : DataW.trod enc P w base spare held n t cs = some y) : ∃ ad cap xs, cs = [.slice ad (List.length xs) cap] ∧ F32s w ad cap xs := by
  obtain ⟨a, l, c, rfl⟩ := Joins.slice_form ht h
  obtain ⟨ad, cap, bs, h1, h2, h3, h4, h5⟩ := open_rows (v := .slice a l c) (fun b => [Value.float .f32 b]) (fun b => b < 4294967296) ht (fun n cs y hy => by
    obtain ⟨b, hb, hw⟩ := trod_float he hy
    exact ⟨b, hb, f32_lt hw⟩) ⟨n, by simpa [Value.cells] using h⟩ ⟨a, l, c, rfl⟩
  exact ⟨ad, cap, bs, by rw [h1], ⟨h2, h3, by rw [← List.map_eq_flatMap] at h4; exact h4, h5⟩⟩
theorem dec_ints {t e : TypeId} {k : IntKind} {n : Nat} {cs : List Value} {y : DataW H × List MemPlace} (ht : P.underlying t = some (.slice e)) (he : P.underlying e = some (.int k))
    (h : DataW.trod enc P w base spare held n t cs = some y) : ∃ ad cap xs, cs = [.slice ad (List.length xs) cap] ∧ Ints k w ad cap xs := by
  obtain ⟨a, l, c, rfl⟩ := Joins.slice_form ht h
  obtain ⟨ad, cap, bs, h1, h2, h3, h4, h5⟩ := open_rows (v := .slice a l c) (fun b => [Value.int k b]) (fun b => (Lit.int k b).wf = true) ht (fun n cs y hy => by
    obtain ⟨b, hb, _, hw⟩ := DataW.trod_int he hy
    exact ⟨b, hb, hw⟩) ⟨n, by simpa [Value.cells] using h⟩ ⟨a, l, c, rfl⟩
  exact ⟨ad, cap, bs, by rw [h1], ⟨h2, h3, by rw [← List.map_eq_flatMap] at h4; exact h4, h5⟩⟩
/-- a slice among the arguments -/
theorem arg_slice {t e : TypeId} {r : Reach} {b0 : Nat} {v : Value} {d : DataW H} {ps : List MemPlace} (ht : P.underlying t = some (.slice e)) (hval : Value.okWide P w r b0 t v)
    (h : DataW.Trod enc P w base spare held t v d ps) : ∃ n, DataW.trod enc P w base spare held n t [v] = some (d, ps) := by
  obtain ⟨a, l, c, rfl⟩ := okWide_slice ht hval
  obtain ⟨n, hn⟩ := h
  exact ⟨n, by simpa [Value.cells] using hn⟩
theorem open_f32 {t : TypeId} {r : Reach} {b0 : Nat} {v : Value} {d : DataW H} {ps : List MemPlace} (ht : P.underlying t = some (.float .f32)) (hval : Value.okWide P w r b0 t v) (h : DataW.Trod enc P w base spare held t v d ps) :
    ∃ b, v = .float .f32 b ∧ b < 4294967296 := by
  obtain ⟨b, h1, _, _, h4⟩ := open_float ht hval h
  exact ⟨b, h1, f32_lt h4⟩
theorem open_f64 {t : TypeId} {r : Reach} {b0 : Nat} {v : Value} {d : DataW H} {ps : List MemPlace} (ht : P.underlying t = some (.float .f64)) (hval : Value.okWide P w r b0 t v) (h : DataW.Trod enc P w base spare held t v d ps) :
    ∃ b, v = .float .f64 b ∧ b < 18446744073709551616 := by
  obtain ⟨b, h1, _, _, h4⟩ := open_float ht hval h
  exact ⟨b, h1, f64_lt h4⟩

theorem agg_of {t : TypeId} {fs : Array Field} {r : Reach} {b0 : Nat} {v : Value} (hs : P.underlying t = some (.struct fs)) (hv : Value.okWide P w r b0 t v) : ∃ l : List Value, v = .agg l.toArray ∧ l.length = P.cellsOf t := by
  obtain ⟨cs, rfl, hsz⟩ := okWide_struct hs hv
  exact ⟨cs.toList, by simp, by simpa using hsz⟩
/-- the parts of a struct -/
theorem trod_parts {t : TypeId} {fs : Array Field} {fuel : Nat} {cs : List Value} {x : DataW H × List MemPlace} (ht : P.underlying t = some (.struct fs)) (h : DataW.trod enc P w base spare held fuel t cs = some x) :
    ∃ n, cs.length = P.cellsOf t ∧ ∀ (i ty off c : Nat) (f : Field), fs[i]? = some f → f.type = ty → f.offset = off → P.cellsOf ty = c → ∃ y, DataW.trod enc P w base spare held n ty ((cs.drop off).take c) = some y := by
  obtain ⟨xs, n, _, _, hl, hlen, hf⟩ := DataW.trod_struct ht h
  refine ⟨n, hl, fun i ty off c f hi hty hoff hc => ?_⟩
  subst hty hoff hc
  rw [hf i f hi]
  have : i < fs.size := (Array.getElem?_eq_some_iff.1 hi).1
  exact ⟨_, List.getElem?_eq_getElem (by omega)⟩
end
theorem arg_agg {H : Type} {enc : TypeId × Value → H} {P : Program} {w : World} {base : Nat} {spare : Nat → Bool} {held : Bool} {t : TypeId} {fs : Array Field} {r : Reach} {b0 : Nat} {v : Value} {d : DataW H} {ps : List MemPlace} (hs : P.underlying t = some (.struct fs)) (hv : Value.okWide P w r b0 t v)
    (h : DataW.Trod enc P w base spare held t v d ps) : ∃ l : List Value, v = .agg l.toArray ∧ ∃ n, DataW.trod enc P w base spare held n t l = some (d, ps) := by
  obtain ⟨l, rfl, _⟩ := agg_of hs hv
  obtain ⟨n, hn⟩ := h
  exact ⟨l, rfl, n, by simpa [Value.cells] using hn⟩
/-- what lies below stays: the walk's two rules behind a contract that ends in 'Below' -/
theorem bcell {B : Nat} {W w1 : World} (hb : Below B W w1) : (∀ b o, b < B → w1.cell? ⟨b, o, none⟩ = W.cell? ⟨b, o, none⟩) ∧ (∀ b o, b < B → w1.frozen? ⟨b, o, none⟩ = W.frozen? ⟨b, o, none⟩) :=
  ⟨fun b o h => hb.cell (p := ⟨b, o, none⟩) h, fun b o h => hb.frozen (p := ⟨b, o, none⟩) h⟩
/-- a block below stays: the rules for it behind a contract that ends in 'Below' -/
theorem bkeep {W w1 : World} (b : Nat) (hb : Below W.heap.size W w1) (h : b < W.heap.size) : (∀ o, w1.cell? ⟨b, o, none⟩ = W.cell? ⟨b, o, none⟩) ∧ (∀ o, w1.frozen? ⟨b, o, none⟩ = W.frozen? ⟨b, o, none⟩) ∧ b < w1.heap.size :=
  ⟨fun o => hb.cell (p := ⟨b, o, none⟩) h, fun o => hb.frozen (p := ⟨b, o, none⟩) h, Nat.lt_of_lt_of_le h hb.size⟩
theorem bthen {a w w' : World} (h : Below a.heap.size a w) (h2 : Below w.heap.size w w') : Below a.heap.size a w' := h.trans (h2.mono h.size)
theorem list3 {α : Type} {l : List α} (h : l.length = 3) : ∃ a b c, l = [a, b, c] := by
  match l, h with
  | [a, b, c], _ => exact ⟨a, b, c, rfl⟩
theorem list5 {α : Type} {l : List α} (h : l.length = 5) : ∃ a b c d e, l = [a, b, c, d, e] := by
  match l, h with
  | [a, b, c, d, e], _ => exact ⟨a, b, c, d, e, rfl⟩
theorem list7 {α : Type} {l : List α} (h : l.length = 7) : ∃ a b c d e f g, l = [a, b, c, d, e, f, g] := by
  match l, h with
  | [a, b, c, d, e, f, g], _ => exact ⟨a, b, c, d, e, f, g, rfl⟩
end Go.Proofs.Ytnhikdjljjemlaa
/- How the arguments of the laws are opened, by their types. No condition. -/
namespace Go.Proofs.Ytnhikdjljjemlaa
open Go Go.RowKit Go.ChangeShapes Go.WideShapes
theorem own_knob : ownKnob Try.prog.godebug = none := by kernel_rfl
theorem laid_out : laidOutB Try.prog = true := by kernel_rfl
section
variable {H : Type} {enc : TypeId × Value → H} {w : World} {base : Nat} {spare : Nat → Bool} {held : Bool}
end
end Go.Proofs.Ytnhikdjljjemlaa
/- What the small functions on integers and structs compute. No condition. -/
namespace Go.Proofs.Ytnhikdjljjemlaa
open Go Go.RowKit
def inB (n lo hi : Int) : Bool := decide (lo ≤ n) && decide (n ≤ hi)
theorem inB_iff {n lo hi : Int} : inB n lo hi = true ↔ lo ≤ n ∧ n ≤ hi := by simp [inB]
theorem below1 (w : World) (o : Obj) : Below w.heap.size w (w.alloc o) := (Below.refl _ _).alloc (Nat.le_refl _) o
theorem below2 (w : World) (o o' : Obj) : Below w.heap.size w ((w.alloc o).alloc o') := (below1 w o).alloc (by simp) o'
theorem below3 (w : World) (o o' o'' : Obj) : Below w.heap.size w (((w.alloc o).alloc o').alloc o'') := (below2 w o o').alloc (by simp; omega) o''
theorem within_any (n lo hi : Int) (w : World) : Calls Try.prog 40 #[.int .i64 n, .int .i64 lo, .int .i64 hi] w fun e w' => e = .returned (.bool (inB n lo hi)) ∧ w = w' := by
  go_enter Try.func40, Try.ntmps40
  go_wp2
  all_goals (go_ret; refine ⟨?_, rfl⟩; simp [inB]; try omega)
theorem impl_ValidOptimizer (k : Int) (r b1 b2 ep : Nat) (w : World) : Calls Try.prog 13 #[.agg #[.int .i64 k, .float .f32 r, .float .f32 b1, .float .f32 b2, .float .f32 ep]] w fun e w' => e = .returned (.bool (inB k 0 4)) ∧ Below w.heap.size w w' := by
  go_enter Try.func13, Try.ntmps13
  go_wp2_with (first | (go_at_call 40; refine (within_any _ _ _ _).mono ?_; rintro e w' ⟨rfl, rfl⟩) | go_in)
  go_ret
  exact ⟨rfl, below1 _ _⟩
end Go.Proofs.Ytnhikdjljjemlaa
/- What comparing numbers of floats computes. No condition. -/
namespace Go.Proofs.Ytnhikdjljjemlaa
open Go Go.RowKit
set_option linter.unusedVariables false
/-- the world behind some draws -/
def Dr (w w' : World) : Prop := ∃ n, w' = w.drewN n
theorem Dr.refl (w : World) : Dr w w := ⟨0, rfl⟩
theorem Dr.below {w w' : World} (h : Dr w w') : Below w.heap.size w w' := by obtain ⟨n, rfl⟩ := h; exact below_drewN (Below.refl _ _) n
end Go.Proofs.Ytnhikdjljjemlaa
