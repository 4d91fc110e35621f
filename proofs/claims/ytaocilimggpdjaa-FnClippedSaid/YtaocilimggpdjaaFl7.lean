/- Plain laws of floats, continued: how great a written number is; square roots. No condition. -/
import Derived.Test.YtaocilimggpdjaaFl6
import GoSem.Extern.MathSqrt
namespace Go.Proofs.Ytaocilimggpdjaa
open Go Go.RowKit Ieee
set_option linter.unusedVariables false
set_option linter.unusedSimpArgs false
theorem cut_le (neg : Bool) (n d : Nat) : Toward.even.cut neg n d ≤ n / (1 <<< min d (n.log2 + 2)) + 1 := by
  unfold Toward.cut
  exact Nat.add_le_add_left (Bool.toNat_le _) _
/-- the rung of a written number is not above a bound by its exponent -/
theorem nearest_bound (f : Format) (neg : Bool) {m : Nat} {p E : Int} (hE : p + m.log2 ≤ E) (hE2 : f.leastPlace ≤ E - f.fractionBits) :
    ∃ r, f.nearest neg m p = f.word neg r ∧ r ≤ (E - f.fractionBits - f.leastPlace).toNat * f.binade + 2 * f.binade ∧ r ≤ f.infRung := by
  have hB : f.binade = 2 ^ f.fractionBits := rfl
  by_cases hm : m = 0
  · subst hm
    unfold Format.nearest
    rw [if_pos rfl]
    exact ⟨0, rfl, Nat.zero_le _, Nat.zero_le _⟩
  obtain ⟨last, hlast⟩ : ∃ l, l = max (p + m.log2 - (f.fractionBits : Nat)) f.leastPlace := ⟨_, rfl⟩
  have h1 : last ≤ E - f.fractionBits := by omega
  have h2 : f.leastPlace ≤ last := by omega
  have h3 : p + m.log2 - (f.fractionBits : Nat) ≤ last := by omega
  unfold Format.nearest
  rw [if_neg hm]
  simp only [← hlast]
  refine ⟨_, rfl, Nat.le_trans (Nat.min_le_left _ _) ?_, Nat.min_le_right _ _⟩
  have hk : Toward.even.cut neg (m <<< (p - last).toNat) (last - p).toNat ≤ 2 * f.binade := by
    by_cases h : last ≤ p
    · have e : (last - p).toNat = 0 := by omega
      rw [e, cut_zero, Nat.shiftLeft_eq]
      have h4 : m.log2 + (p - last).toNat ≤ f.fractionBits := by omega
      have h5 := Nat.lt_log2_self (n := m)
      have h6 : m * 2 ^ (p - last).toNat < 2 ^ (m.log2 + 1) * 2 ^ (p - last).toNat := Nat.mul_lt_mul_of_pos_right h5 (Nat.two_pow_pos _)
      rw [← Nat.pow_add] at h6
      have h7 : 2 ^ (m.log2 + 1 + (p - last).toNat) ≤ 2 ^ (f.fractionBits + 1) := Nat.pow_le_pow_right (by decide) (by omega)
      rw [Nat.pow_succ] at h7
      omega
    · have e : (p - last).toNat = 0 := by omega
      rw [e, Nat.shiftLeft_zero]
      refine Nat.le_trans (cut_le _ _ _) ?_
      have h5 := Nat.lt_log2_self (n := m)
      by_cases h8 : (last - p).toNat ≤ m.log2 + 2
      · rw [Nat.min_eq_left h8, Nat.shiftLeft_eq, Nat.one_mul]
        have h9 : m < 2 ^ (f.fractionBits + 1) * 2 ^ (last - p).toNat := by
          rw [← Nat.pow_add]
          exact Nat.lt_of_lt_of_le h5 (Nat.pow_le_pow_right (by decide) (by omega))
        have h10 := Nat.div_lt_of_lt_mul (Nat.mul_comm _ _ ▸ h9)
        rw [Nat.pow_succ] at h10
        omega
      · rw [Nat.min_eq_right (by omega), Nat.shiftLeft_eq, Nat.one_mul]
        have h9 : m / 2 ^ (m.log2 + 2) = 0 := Nat.div_eq_of_lt (Nat.lt_of_lt_of_le h5 (Nat.pow_le_pow_right (by decide) (by omega)))
        rw [h9]
        have := Nat.two_pow_pos f.fractionBits
        omega
  have h4 : (last - f.leastPlace).toNat ≤ (E - f.fractionBits - f.leastPlace).toNat := by omega
  have := Nat.mul_le_mul_right f.binade h4
  omega
theorem s_bin : single.binade = 2 ^ 23 := by decide +kernel
theorem s_fb : single.fractionBits = 23 := rfl
theorem d_fb : double.fractionBits = 52 := rfl
/-- a wide number under 2 to the power of 127 is not too great for 32 bits -/
theorem narrow_small {b : Nat} {s : Bool} {m : Nat} {p : Int} (hd : FloatKind.f64.decode b = .number s m p) (h : p + m.log2 ≤ 126) : cvWide .f64 b .f32 = false := by
  unfold cvWide
  rw [if_neg (by decide), hd]
  show (single.read (single.nearest s m p)).isInfinity = false
  obtain ⟨r, e, hr, _⟩ := nearest_bound single s h (by rw [s_lp, s_fb]; decide)
  rw [e]
  apply not_inf_of_lt
  rw [s_lp, s_fb, s_bin] at hr
  rw [s_ir]
  have : (126 - (23 : Nat) - -149 : Int).toNat = 252 := by decide
  rw [this] at hr
  omega
/-- the exponent of a word, from its rung -/
theorem exp_of_rung (f : Format) {s : Bool} {r m : Nat} {p : Int} {E : Nat} (hr : r < f.infRung) (hd : f.read (f.word s r) = .number s m p) (hm : m ≠ 0) (hv : nval f r < 2 ^ (E + 1)) : p + m.log2 ≤ E + f.leastPlace := by
  obtain ⟨m', p', e1, e2, e3⟩ := read_fin f s hr
  rw [hd] at e1
  obtain ⟨_, rfl, rfl⟩ := Datum.number.inj e1
  rw [Nat.shiftLeft_eq] at e3
  have h1 : (nval f r).log2 < E + 1 := (Nat.log2_lt (by rw [← e3]; exact Nat.mul_ne_zero hm (by have := Nat.two_pow_pos (p - f.leastPlace).toNat; omega))).2 hv
  rw [← e3, log2_mul_pow hm] at h1
  omega
theorem rootFrom_lt (n : Nat) : ∀ todo root, Datum.rootFrom n todo root < root + 2 ^ todo
  | 0, root => by unfold Datum.rootFrom; simp
  | todo + 1, root => by
    unfold Datum.rootFrom
    have hs : root + 1 <<< todo = root + 2 ^ todo := by rw [Nat.shiftLeft_eq, Nat.one_mul]
    simp only [hs]
    split
    · have := rootFrom_lt n todo (root + 2 ^ todo)
      rw [Nat.pow_succ]; omega
    · have := rootFrom_lt n todo root
      rw [Nat.pow_succ]; have := Nat.two_pow_pos todo; omega

def sqbits (x : Nat) (w : World) : Nat := (double.sqrt x).getD ((Question.nanBits .f64 x x).cut (w.tape w.drawn (.nanBits .f64 x x)))
def sqdr (x : Nat) : Nat := if (double.sqrt x).isSome then 0 else 1
def fsq (x : Nat) : Nat := (double.sqrt x).getD (nanOf .f64)
theorem run_sqrt {P : Program} (w : World) (x : Nat) : (Extern.MathSqrt.sqrt #[.float .f64 x]).run P w = .ok (.float .f64 (sqbits x w)) (w.drewN (sqdr x)) := by
  unfold Extern.MathSqrt.sqrt sqbits sqdr
  show ((match double.sqrt x with
    | some r => (pure (.float .f64 r) : Sem Value)
    | none => do pure (.float .f64 (← choose (.nanBits .f64 x x)))).run P w) = _
  cases h : double.sqrt x with
  | some r => rfl
  | none => simp [choose, Sem.run, Question.forced, World.drewN]
theorem root_not {n : Nat} {a d : Datum} (h : a.root n = some d) : a.isNaN = false ∧ d.isNaN = false := by
  unfold Datum.root at h
  cases a with
  | nan s t => cases h
  | infinity s => cases s <;> simp at h; subst h; exact ⟨rfl, rfl⟩
  | number s m i =>
    refine ⟨rfl, ?_⟩
    simp only at h
    split at h
    · cases h; rfl
    · split at h
      · cases h
      · cases h; rfl
theorem sqrt_nan {x : Nat} (h : isN .f64 x = true) : double.sqrt x = none := by
  unfold Format.sqrt
  cases hr : (double.read x).root (double.fractionBits + 2) with
  | none => rfl
  | some d => have := (root_not hr).1; unfold isN at h; rw [show FloatKind.f64.format.read x = double.read x from rfl, this] at h; cases h
theorem sqrt_cn (x : Nat) : double.sqrt (cn .f64 x) = double.sqrt x := by
  cases h : isN .f64 x
  · rw [cn_not h]
  · rw [sqrt_nan h, sqrt_nan (by rw [isN_cn, h])]
theorem sqrt_not {x r : Nat} (h : double.sqrt x = some r) : isN .f64 r = false := by
  unfold Format.sqrt at h
  cases hr : (double.read x).root (double.fractionBits + 2) with
  | none => rw [hr] at h; cases h
  | some d =>
    rw [hr] at h
    have e : double.write d = r := by simpa using h
    rw [← e]
    exact write_not double (root_not hr).2
theorem cn_sqbits (x : Nat) (w : World) : cn .f64 (sqbits x w) = fsq (cn .f64 x) := by
  unfold sqbits fsq
  rw [sqrt_cn]
  cases h : double.sqrt x with
  | some r => exact cn_not (sqrt_not h)
  | none => exact cn_nan (drawn_nan .f64 x x _)
theorem d_ir2 : double.infRung = 2047 * 2 ^ 52 := by decide +kernel
theorem s_ir2 : single.infRung = 255 * 2 ^ 23 := by decide +kernel
theorem nval_top (f : Format) (k : Nat) (h : 1 ≤ k) : nval f (k * f.binade) = f.binade * 2 ^ (k - 1) := by
  have hB : 0 < f.binade := Nat.two_pow_pos _
  unfold nval
  have h1 : f.binade ≤ k * f.binade := Nat.le_mul_of_pos_left _ h
  rw [if_neg (by omega), Nat.mul_mod_left, Nat.mul_div_cancel _ hB, Nat.add_zero]
theorem nval_mono {f : Format} {x y : Nat} (h : x ≤ y) : nval f x ≤ nval f y := by
  rcases Nat.lt_or_eq_of_le h with h | h
  · exact Nat.le_of_lt (nval_lt h)
  · rw [h]; exact Nat.le_refl _
set_option exponentiation.threshold 2000 in
/-- a wide word that is not above 2 to the power of 67 is not too great for 32 bits -/
theorem narrow_rung (s : Bool) {q : Nat} (h : q ≤ 1090 * 2 ^ 52) : cvWide .f64 (double.word s q) .f32 = false := by
  have hq : q < double.infRung := by rw [d_ir2]; omega
  obtain ⟨m, p, e1, e2, e3⟩ := read_fin double s hq
  by_cases hm : m = 0
  · subst hm
    unfold cvWide
    rw [if_neg (by decide), show FloatKind.f64.decode (double.word s q) = _ from e1]
    show (single.read (single.nearest s 0 p)).isInfinity = false
    unfold Format.nearest
    rw [if_pos rfl]
    exact not_inf_of_lt _ _ (by rw [s_ir]; omega)
  · refine narrow_small (p := p) (m := m) (s := s) e1 ?_
    have hv : nval double q < 2 ^ (1141 + 1) := by
      have h1 : nval double q ≤ nval double (1090 * double.binade) := nval_mono (by rw [d_bin]; exact h)
      rw [nval_top double 1090 (by decide), d_bin, ← Nat.pow_add] at h1
      exact Nat.lt_of_le_of_lt h1 (Nat.pow_lt_pow_right (by decide) (by decide))
    have := exp_of_rung double hq e1 hm hv
    rw [d_lp] at this
    omega
set_option exponentiation.threshold 2000 in
/-- the square root of a wide 32-bit number is not too great for 32 bits -/
theorem root_small {x : Nat} (hx : x < 4294967296) (w w2 : World) : cvWide .f64 (sqbits (cvbits .f32 x .f64 w) w2) .f32 = false := by
  cases hr : double.sqrt (cvbits .f32 x .f64 w) with
  | none =>
    unfold sqbits
    rw [hr]
    exact wide_nan (drawn_nan .f64 (cvbits .f32 x .f64 w) (cvbits .f32 x .f64 w) _)
  | some t =>
    have ht : sqbits (cvbits .f32 x .f64 w) w2 = t := by unfold sqbits; rw [hr]; rfl
    rw [ht]
    have hN : isN .f32 x = false := by
      cases h : isN .f32 x
      · rfl
      · rw [sqrt_nan (isN_wide x w h)] at hr; cases hr
    obtain ⟨s, r, rfl, hrs⟩ := word_of single (x := x) (by rw [s_sw]; omega)
    rcases Nat.lt_trichotomy r single.infRung with h | h | h
    · obtain ⟨q, hq, hw, hv⟩ := wide_fin s h
      rw [hw w] at hr
      obtain ⟨m, i, e1, e2, e3⟩ := read_fin double s hq
      unfold Format.sqrt at hr
      rw [e1] at hr
      unfold Datum.root at hr
      simp only at hr
      by_cases hm : m = 0
      · subst hm
        rw [if_pos rfl] at hr
        have e : double.nearest s 0 i = t := by simpa [Format.write] using hr
        rw [← e]
        unfold Format.nearest
        rw [if_pos rfl]
        exact narrow_rung s (Nat.zero_le _)
      · rw [if_neg hm] at hr
        cases s
        · simp only [Bool.false_eq_true, if_false, Option.map_some, Option.some.injEq] at hr
          rw [← hr]
          have hvs : nval single r < 2 ^ 277 := by
            have h1 : nval single r < nval single (255 * single.binade) := nval_lt (by rw [s_bin, ← s_ir2]; exact h)
            rw [nval_top single 255 (by decide), s_bin, ← Nat.pow_add] at h1
            exact h1
          have hvd : nval double q < 2 ^ (1201 + 1) := by
            rw [hv]
            have := Nat.mul_lt_mul_of_pos_right hvs (Nat.two_pow_pos 925)
            rwa [← Nat.pow_add] at this
          have hb := exp_of_rung double hq e1 hm hvd
          rw [d_lp] at hb
          obtain ⟨mo, hmo⟩ : ∃ mo, mo = 2 * (double.fractionBits + 2) - m.log2 + ((i - ((2 * (double.fractionBits + 2) - m.log2 : Nat) : Int)) % 2).toNat := ⟨_, rfl⟩
          rw [← hmo]
          have hn : (m <<< mo).log2 = m.log2 + mo := by rw [Nat.shiftLeft_eq]; exact log2_mul_pow hm
          obtain ⟨W, hW⟩ : ∃ W, W = Datum.rootFrom (m <<< mo) ((m <<< mo).log2 / 2 + 1) 0 := ⟨_, rfl⟩
          have hWl := rootFrom_lt (m <<< mo) ((m <<< mo).log2 / 2 + 1) 0
          rw [← hW] at hWl ⊢
          rw [hn] at hWl
          obtain ⟨c, hc⟩ : ∃ c, c = (W * W != m <<< mo).toNat := ⟨_, rfl⟩
          have hc1 : c ≤ 1 := by rw [hc]; exact Bool.toNat_le _
          rw [← hc]
          have hM : (2 * W + c).log2 ≤ (m.log2 + mo) / 2 + 1 := by
            by_cases h0 : 2 * W + c = 0
            · rw [h0]; simp
            · have : (2 * W + c).log2 < (m.log2 + mo) / 2 + 1 + 1 := (Nat.log2_lt h0).2 (by rw [Nat.pow_succ]; omega)
              omega
          obtain ⟨r2, er, hr2, _⟩ := nearest_bound double false (m := 2 * W + c) (p := (i - (mo : Int)) / 2 - 1) (E := 66) (by omega) (by rw [d_lp, d_fb]; decide)
          rw [show double.write (.number false (2 * W + c) ((i - (mo : Int)) / 2 - 1)) = _ from er]
          refine narrow_rung false ?_
          rw [d_lp, d_fb, d_bin] at hr2
          have : (66 - (52 : Nat) - -1074 : Int).toNat = 1088 := by decide
          rw [this] at hr2
          omega
        · simp at hr
    · subst h
      have e1 : cvbits .f32 (single.word s single.infRung) .f64 w = double.word s double.infRung := by
        unfold cvbits
        rw [if_neg (by decide), show FloatKind.f32.decode (single.word s single.infRung) = _ from read_inf single single_binade s]
        rfl
      rw [e1] at hr
      unfold Format.sqrt at hr
      rw [read_inf double double_binade s] at hr
      cases s
      · have e : double.word false double.infRung = t := by simpa [Datum.root, Format.write] using hr
        rw [← e]
        unfold cvWide
        rw [if_neg (by decide), show FloatKind.f64.decode (double.word false double.infRung) = _ from read_inf double double_binade false]
      · simp [Datum.root] at hr
    · have := nan_word single single_binade s h hrs
      have h2 : isN .f32 (single.word s r) = true := this
      rw [hN] at h2; cases h2
def rootE (c : Nat) : Nat := fcv .f64 (fsq (fcv .f32 c .f64)) .f32
theorem cn_root {x : Nat} (hx : x < 4294967296) (w w2 w3 : World) : cn .f32 (cvbits .f64 (sqbits (cvbits .f32 x .f64 w) w2) .f32 w3) = rootE (cn .f32 x) ∧ cvbits .f64 (sqbits (cvbits .f32 x .f64 w) w2) .f32 w3 < 4294967296 := by
  have h := root_small hx w w2
  refine ⟨?_, cv_lt32 w3 h⟩
  rw [cn_cvbits w3 h, cn_sqbits, cn_wide]
  rfl
end Go.Proofs.Ytaocilimggpdjaa
