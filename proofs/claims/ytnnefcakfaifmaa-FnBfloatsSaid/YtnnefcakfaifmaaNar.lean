/- Plain laws: means of neighbours, made 32-bit numbers again. No condition. -/
import Derived.Test.YtnnefcakfaifmaaQf
import Derived.Test.YtnnefcakfaifmaaNup
namespace Go.Proofs.Ytnnefcakfaifmaa
open Go Go.RowKit Ieee
set_option linter.unusedVariables false
set_option linter.unusedSimpArgs false
theorem pw_half {a b : Int} (h : a = b + 1) : (2 : Rat) ^ a = 2 * (2 : Rat) ^ b := by
  subst h
  have e : (2 : Rat) ^ (1 : Int) = 2 := by decide +kernel
  rw [pw_add, e]; grind
theorem pw_quarter {a b : Int} (h : a = b + 2) : (2 : Rat) ^ a = 4 * (2 : Rat) ^ b := by
  subst h
  have e : (2 : Rat) ^ (2 : Int) = 4 := by decide +kernel
  rw [pw_add, e]; grind
/-- a rung for a number of few digits -/
theorem rep_rung (f : Format) (e : Nat) : ∀ n, n ≤ 2 * f.binade → ∃ q, nval f q = n * 2 ^ e := by
  induction e with
  | zero => intro n hn; exact ⟨n, by have := nval_rung f 0 n (.inl rfl) hn; simpa using this⟩
  | succ e ih =>
    intro n hn
    rcases Nat.lt_or_ge n f.binade with h | h
    · obtain ⟨q, hq⟩ := ih (2 * n) (by omega)
      exact ⟨q, by rw [hq, Nat.pow_succ, Nat.mul_comm 2 n, Nat.mul_assoc, Nat.mul_comm 2]⟩
    · exact ⟨(e + 1) * f.binade + n, nval_rung f (e + 1) n (.inr h) hn⟩
set_option exponentiation.threshold 4000 in
theorem rep_fin (s : Bool) (n : Nat) (z : Int) (hn : n ≤ 2 ^ 53) (h1 : -1074 ≤ z) (h2 : z ≤ 800) : ∃ w, Fin double w ∧ val double w = sg s * ((n : Rat) * (2 : Rat) ^ z) := by
  obtain ⟨e, he⟩ : ∃ e : Nat, z + 1074 = e := ⟨(z + 1074).toNat, by omega⟩
  obtain ⟨q, hq⟩ := rep_rung double e n (by rw [d_bin]; omega)
  have hlt : q < double.infRung := by
    rcases Nat.lt_or_ge q double.infRung with h | h
    · exact h
    · exfalso
      have a1 := nval_le (f := double) h
      rw [hq, d_ir2, ← d_bin, nval_top double 2047 (by decide), d_bin] at a1
      have a2 : n * 2 ^ e ≤ 2 ^ 53 * 2 ^ 1874 := Nat.mul_le_mul hn (Nat.pow_le_pow_right (by decide) (by omega))
      have a3 : 2 ^ 53 * 2 ^ 1874 < 2 ^ 52 * 2 ^ (2047 - 1) := by
        rw [← Nat.pow_add, ← Nat.pow_add]; exact Nat.pow_lt_pow_right (by decide) (by decide)
      omega
  refine ⟨double.word s q, ⟨s, q, rfl, hlt⟩, ?_⟩
  rw [val_word double s hlt, hq, d_lp, Rat.natCast_mul, ← pw_nat]
  have : (2 : Rat) ^ z = (2 : Rat) ^ (e : Int) * (2 : Rat) ^ (-1074 : Int) := by rw [← pw_add]; congr 1; omega
  rw [this]; grind
theorem val_two : Fin double 4611686018427387904 ∧ val double 4611686018427387904 = 2 := by
  refine ⟨⟨false, 4611686018427387904, rfl, by decide +kernel⟩, ?_⟩
  unfold val
  have : double.read 4611686018427387904 = .number false (2 ^ 52) (-51) := by decide +kernel
  rw [this]; decide +kernel
/-- the mean of two numbers -/
theorem half_sum {a b : Nat} (ha : Fin double a) (hb : Fin double b) {s : Bool} {n : Nat} {z : Int} (hn : n ≤ 2 ^ 53) (h1 : -1073 ≤ z) (h2 : z ≤ 800) (hv : val double a + val double b = sg s * ((n : Rat) * (2 : Rat) ^ z)) :
    ∃ m h, floatBits .add .f64 a b = some m ∧ floatBits .quo .f64 m 4611686018427387904 = some h ∧ Fin double h ∧ val double h = sg s * ((n : Rat) * (2 : Rat) ^ (z - 1)) := by
  obtain ⟨m, hm, nm⟩ := add_near (k := .f64) ha hb
  obtain ⟨w0, hw0, hv0⟩ := rep_fin s n z hn (by omega) h2
  obtain ⟨fm, vm⟩ := nm.val_exact (f := double) hw0 (by rw [hv0]; exact hv)
  obtain ⟨h, hh, nh⟩ := quo_nearW (k := .f64) fm val_two.1 (by show val double _ ≠ 0; rw [val_two.2]; decide)
  obtain ⟨w1, hw1, hv1⟩ := rep_fin s n (z - 1) hn (by omega) (by omega)
  have e : val double m / val double 4611686018427387904 = val double w1 := by
    rw [vm, val_two.2, hv1]
    rw [show val FloatKind.f64.format a + val FloatKind.f64.format b = _ from hv]
    have : (2 : Rat) ^ z = 2 * (2 : Rat) ^ (z - 1) := pw_half (by omega)
    rw [this]
    grind
  obtain ⟨fh, vh⟩ := nh.val_exact (f := double) hw1 e
  exact ⟨m, h, hm, hh, fh, by rw [vh]; exact e.trans hv1⟩
theorem near_at {f : Format} {q v : Rat} {w ρ : Nat} {s : Bool} (h : Near f q w) (hq : q = sg s * v) (hv : 0 < v) (hm : Mid f (v * (2 : Rat) ^ (-f.leastPlace)) ρ) : w = f.word s ρ := by
  obtain ⟨t, r, rfl, h1, h2, h3⟩ := h
  rw [hq, sg_abs s (Rat.le_of_lt hv)] at h1
  have e := h1.unique hm
  subst e
  have : t = s := by
    unfold sg at hq
    cases s
    · simp only [Bool.false_eq_true, if_false] at hq; exact h3 (by grind)
    · simp only [if_true] at hq; exact h2 (by grind)
  rw [this]
theorem narrow_step {h : Nat} (hf : Fin double h) {s : Bool} {v : Rat} (hv : val double h = sg s * v) (h0 : 0 < v) {ρ : Nat} (hρ : ρ < single.infRung) (hm : Mid single (v * (2 : Rat) ^ (149 : Int)) ρ) : ∀ w, cvbits .f64 h .f32 w = single.word s ρ := by
  have e := near_at (f := single) (narrow_near hf) hv h0 (by rw [s_lp]; exact hm)
  intro w
  obtain ⟨t, m, p, h1, _⟩ := hf.read
  have hw : cvWide .f64 h .f32 = false := by
    unfold cvWide
    rw [if_neg (by decide), show FloatKind.f64.decode h = _ from h1]
    show (single.read (single.nearest t m p)).isInfinity = false
    have : fcv .f64 h .f32 = single.nearest t m p := by
      unfold fcv; rw [if_neg (by decide), show FloatKind.f64.decode h = _ from h1]; rfl
    rw [← this, e]
    exact not_inf_of_lt _ _ hρ
  have := cn_cvbits w hw
  rw [cn_not (Fin.not (k := .f64) hf), e] at this
  have hn : isN .f32 (single.word s ρ) = false := read_word_le single s (Nat.le_of_lt hρ)
  exact (eq_of_cn (by rw [this, cn_not hn]) hn).symm
theorem nval_pair (f : Format) (r : Nat) : ∃ k e, nval f r = k * 2 ^ e ∧ nval f (r + 1) = (k + 1) * 2 ^ e ∧ k + 1 ≤ 2 * f.binade ∧ e * f.binade ≤ r := by
  have hB := binade_pos f
  rcases Nat.lt_or_ge r f.binade with h | h
  · refine ⟨r, 0, ?_, ?_, by omega, by omega⟩
    · have := nval_rung f 0 r (.inl rfl) (by omega); simpa using this
    · have := nval_rung f 0 (r + 1) (.inl rfl) (by omega); simpa using this
  · obtain ⟨e, he⟩ : ∃ e, r / f.binade = e + 1 := ⟨r / f.binade - 1, by have := (Nat.le_div_iff_mul_le hB).2 (show 1 * f.binade ≤ r by omega); omega⟩
    have hd := Nat.div_add_mod r f.binade
    have hm := Nat.mod_lt r hB
    have er : r = e * f.binade + (f.binade + r % f.binade) := by
      rw [he] at hd
      rw [Nat.mul_add, Nat.mul_one, Nat.mul_comm] at hd
      omega
    refine ⟨f.binade + r % f.binade, e, ?_, ?_, by omega, by omega⟩
    · conv => lhs; rw [er]
      exact nval_rung f e _ (.inr (by omega)) (by omega)
    · have e2 : r + 1 = e * f.binade + (f.binade + r % f.binade + 1) := by omega
      conv => lhs; rw [e2]
      exact nval_rung f e _ (.inr (by omega)) (by omega)
/-- what means of neighbours are -/
structure Means (a b : Nat) (s : Bool) (r : Nat) (P Q : Nat) : Prop where
  mid : ∃ m h, floatBits .add .f64 a b = some m ∧ floatBits .quo .f64 m 4611686018427387904 = some h ∧ isN .f64 h = false ∧ h < 18446744073709551616 ∧ (∀ w, cvbits .f64 h .f32 w = single.word s (if r % 2 = 0 then r else r + 1)) ∧
    (∃ m' h', floatBits .add .f64 a h = some m' ∧ floatBits .quo .f64 m' 4611686018427387904 = some h' ∧ ∀ w, cvbits .f64 h' .f32 w = single.word s P) ∧
    (∃ m' h', floatBits .add .f64 b h = some m' ∧ floatBits .quo .f64 m' 4611686018427387904 = some h' ∧ ∀ w, cvbits .f64 h' .f32 w = single.word s Q)
theorem means {a b : Nat} (ha : Fin double a) (hb : Fin double b) {s : Bool} {r : Nat} (hr : r + 1 < single.infRung) {flip : Bool}
    (va : val double a = sg s * ((nval single (if flip then r + 1 else r) : Rat) * (2 : Rat) ^ (-149 : Int))) (vb : val double b = sg s * ((nval single (if flip then r else r + 1) : Rat) * (2 : Rat) ^ (-149 : Int))) :
    Means a b s r (if flip then r + 1 else r) (if flip then r else r + 1) := by
  obtain ⟨k, e, h1, h2, h3, h4⟩ := nval_pair single r
  have hB : single.binade = 8388608 := by rw [s_bin]
  rw [hB] at h3 h4
  have hi := s_ir
  have he : e ≤ 254 := by omega
  have U0 := pw_pos (-149 : Int)
  have hk0 : (0 : Rat) ≤ k := Rat.natCast_nonneg
  have c2 : ((2 : Nat) : Rat) = 2 := rfl
  have c1 : ((1 : Nat) : Rat) = 1 := rfl
  have c3 : ((3 : Nat) : Rat) = 3 := rfl
  have c4 : ((4 : Nat) : Rat) = 4 := rfl
  have n1 : (nval single r : Rat) = (k : Rat) * (2 : Rat) ^ (e : Int) := by rw [h1, Rat.natCast_mul, ← pw_nat]
  have n2 : (nval single (r + 1) : Rat) = ((k : Rat) + 1) * (2 : Rat) ^ (e : Int) := by rw [h2, Rat.natCast_mul, ← pw_nat, Rat.natCast_add, c1]
  have p0 : (2 : Rat) ^ ((e : Int) - 149) = (2 : Rat) ^ (e : Int) * (2 : Rat) ^ (-149 : Int) := by rw [← pw_add]; congr 1
  have p1 : (2 : Rat) ^ ((e : Int) - 149) = 2 * (2 : Rat) ^ ((e : Int) - 149 - 1) := pw_half (by omega)
  have p2 : (2 : Rat) ^ ((e : Int) - 149 - 1) = 2 * (2 : Rat) ^ ((e : Int) - 149 - 1 - 1) := pw_half (by omega)
  have sum1 : val double a + val double b = sg s * (((2 * k + 1 : Nat) : Rat) * (2 : Rat) ^ ((e : Int) - 149)) := by
    rw [va, vb, Rat.natCast_add, Rat.natCast_mul, c2, c1, p0]
    cases flip
    · simp only [Bool.false_eq_true, if_false]; rw [n1, n2]; grind
    · simp only [if_true]; rw [n1, n2]; grind
  obtain ⟨m, h, hm, hh, fh, vh⟩ := half_sum ha hb (s := s) (n := 2 * k + 1) (z := (e : Int) - 149) (by omega) (by omega) (by omega) sum1
  -- in units of the narrow kind
  have unit : ∀ (n : Nat) (z : Int), (n : Rat) * (2 : Rat) ^ z * (2 : Rat) ^ (149 : Int) = (n : Rat) * (2 : Rat) ^ (z + 149) := by
    intro n z; rw [Rat.mul_assoc, ← pw_add]
  have q1 : (2 : Rat) ^ (e : Int) = 2 * (2 : Rat) ^ ((e : Int) - 149 - 1 + 149) := pw_half (by omega)
  have q2 : (2 : Rat) ^ (e : Int) = 4 * (2 : Rat) ^ ((e : Int) - 149 - 1 - 1 + 149) := pw_quarter (by omega)
  have lt12 : (nval single r : Rat) < nval single (r + 1) := nat_rat_lt (nval_lt (by omega))
  have midV : Mid single (((2 * k + 1 : Nat) : Rat) * (2 : Rat) ^ ((e : Int) - 149 - 1) * (2 : Rat) ^ (149 : Int)) (if r % 2 = 0 then r else r + 1) := by
    rw [unit]
    apply Mid.half_even (by omega)
    rw [n1, n2, q1, Rat.natCast_add, Rat.natCast_mul, c2, c1]; grind
  have posR : ∀ (n : Nat) (z : Int), 0 < n → (0 : Rat) < (n : Rat) * (2 : Rat) ^ z := by
    intro n z hn
    have : (0 : Rat) < n := by have := nat_rat_lt hn; simpa using this
    exact Rat.mul_pos this (pw_pos z)
  have inner : Mid single (((4 * k + 1 : Nat) : Rat) * (2 : Rat) ^ ((e : Int) - 149 - 1 - 1) * (2 : Rat) ^ (149 : Int)) r := by
    rw [unit, Rat.natCast_add, Rat.natCast_mul, c4, c1]
    have hp := pw_pos ((e : Int) - 149 - 1 - 1 + 149)
    refine ⟨by omega, ?_, .inr ?_⟩
    · rcases Nat.eq_zero_or_pos r with h0 | h0
      · exact .inl h0
      · right
        have : (nval single (r - 1) : Rat) < nval single r := nat_rat_lt (nval_lt (by omega))
        rw [n1, q2] at this ⊢
        exact ⟨by grind, fun _ => by grind⟩
    · rw [n1, n2, q2]
      exact ⟨by grind, fun _ => by grind⟩
  have outer : Mid single (((4 * k + 3 : Nat) : Rat) * (2 : Rat) ^ ((e : Int) - 149 - 1 - 1) * (2 : Rat) ^ (149 : Int)) (r + 1) := by
    rw [unit, Rat.natCast_add, Rat.natCast_mul, c4, c3]
    have hp := pw_pos ((e : Int) - 149 - 1 - 1 + 149)
    refine ⟨by omega, .inr ?_, .inr ?_⟩
    · rw [Nat.add_sub_cancel, n1, n2, q2]
      exact ⟨by grind, fun _ => by grind⟩
    · have : (nval single (r + 1) : Rat) < nval single (r + 1 + 1) := nat_rat_lt (nval_lt (by omega))
      rw [n2, q2] at this ⊢
      exact ⟨by grind, fun _ => by grind⟩
  have stepI : ∀ {c : Nat}, Fin double c → val double c = sg s * ((nval single r : Rat) * (2 : Rat) ^ (-149 : Int)) → ∃ m' h', floatBits .add .f64 c h = some m' ∧ floatBits .quo .f64 m' 4611686018427387904 = some h' ∧ ∀ w, cvbits .f64 h' .f32 w = single.word s r := by
    intro c hc vc
    obtain ⟨m', h', a1, a2, a3, a4⟩ := half_sum hc fh (s := s) (n := 4 * k + 1) (z := (e : Int) - 149 - 1) (by omega) (by omega) (by omega) (by
      rw [vc, vh, n1, Rat.natCast_add, Rat.natCast_mul, Rat.natCast_add, Rat.natCast_mul, c2, c1, c4]
      have : (k : Rat) * (2 : Rat) ^ (e : Int) * (2 : Rat) ^ (-149 : Int) = (k : Rat) * (2 * (2 : Rat) ^ ((e : Int) - 149 - 1)) := by rw [← p1, p0]; grind
      rw [this]; grind)
    exact ⟨m', h', a1, a2, narrow_step a3 a4 (posR _ _ (by omega)) (by omega) inner⟩
  have stepO : ∀ {c : Nat}, Fin double c → val double c = sg s * ((nval single (r + 1) : Rat) * (2 : Rat) ^ (-149 : Int)) → ∃ m' h', floatBits .add .f64 c h = some m' ∧ floatBits .quo .f64 m' 4611686018427387904 = some h' ∧ ∀ w, cvbits .f64 h' .f32 w = single.word s (r + 1) := by
    intro c hc vc
    obtain ⟨m', h', a1, a2, a3, a4⟩ := half_sum hc fh (s := s) (n := 4 * k + 3) (z := (e : Int) - 149 - 1) (by omega) (by omega) (by omega) (by
      rw [vc, vh, n2, Rat.natCast_add, Rat.natCast_mul, Rat.natCast_add, Rat.natCast_mul, c2, c1, c4, c3]
      have : ((k : Rat) + 1) * (2 : Rat) ^ (e : Int) * (2 : Rat) ^ (-149 : Int) = ((k : Rat) + 1) * (2 * (2 : Rat) ^ ((e : Int) - 149 - 1)) := by rw [← p1, p0]; grind
      rw [this]; grind)
    exact ⟨m', h', a1, a2, narrow_step a3 a4 (posR _ _ (by omega)) (by omega) outer⟩
  refine ⟨m, h, hm, hh, Fin.not (k := .f64) fh, ?_, narrow_step fh vh (posR _ _ (by omega)) (by split <;> omega) midV, ?_, ?_⟩
  · have := floatBits_wf hh; simpa [Lit.wf] using this
  · cases flip
    · exact stepI ha va
    · exact stepO ha va
  · cases flip
    · exact stepO hb vb
    · exact stepI hb vb
end Go.Proofs.Ytnnefcakfaifmaa
