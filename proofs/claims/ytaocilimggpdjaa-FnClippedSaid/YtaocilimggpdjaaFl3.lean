/- Plain laws of floats, continued: the order of numbers is that of their words. No condition. -/
import Derived.Test.YtaocilimggpdjaaFl2
namespace Go.Proofs.Ytaocilimggpdjaa
open Go Ieee
set_option linter.unusedVariables false
/-- the magnitude of a rung, in units of the least place -/
def nval (f : Format) (r : Nat) : Nat := if r < f.binade then r else (f.binade + r % f.binade) * 2 ^ (r / f.binade - 1)
theorem nval_succ (f : Format) (r : Nat) : nval f r < nval f (r + 1) := by
  have hb : 0 < f.binade := Nat.two_pow_pos _
  unfold nval
  by_cases h1 : r + 1 < f.binade
  · rw [if_pos (by omega), if_pos h1]; omega
  · rw [if_neg h1]
    by_cases h2 : r < f.binade
    · rw [if_pos h2]
      have e : r + 1 = f.binade := by omega
      rw [e, Nat.mod_self, Nat.div_self hb]
      simp; omega
    · rw [if_neg h2]
      have hd := Nat.div_add_mod r f.binade
      have hm := Nat.mod_lt r hb
      have hq : 1 ≤ r / f.binade := (Nat.le_div_iff_mul_le hb).2 (by omega)
      by_cases h3 : r % f.binade + 1 < f.binade
      · have e1 : (r + 1) / f.binade = r / f.binade := by
          rw [Nat.div_eq_iff (by omega)]
          have : r / f.binade * f.binade = f.binade * (r / f.binade) := Nat.mul_comm _ _
          constructor <;> omega
        have e2 : (r + 1) % f.binade = r % f.binade + 1 := by
          have := Nat.div_add_mod (r + 1) f.binade
          rw [e1] at this; omega
        rw [e1, e2]
        exact Nat.mul_lt_mul_of_pos_right (by omega) (Nat.two_pow_pos _)
      · have e0 : r % f.binade = f.binade - 1 := by omega
        have e1 : (r + 1) / f.binade = r / f.binade + 1 := by
          rw [Nat.div_eq_iff (by omega), Nat.add_mul]
          have : r / f.binade * f.binade = f.binade * (r / f.binade) := Nat.mul_comm _ _
          constructor <;> omega
        have e2 : (r + 1) % f.binade = 0 := by
          have := Nat.div_add_mod (r + 1) f.binade
          rw [e1, Nat.mul_add] at this; omega
        rw [e1, e2, e0, show r / f.binade + 1 - 1 = (r / f.binade - 1) + 1 by omega, Nat.pow_succ]
        have hp := Nat.two_pow_pos (r / f.binade - 1)
        rw [Nat.add_zero, Nat.mul_comm (2 ^ (r / f.binade - 1)) 2, ← Nat.mul_assoc]
        exact Nat.mul_lt_mul_of_pos_right (by omega) hp
theorem nval_lt {f : Format} {x y : Nat} (h : x < y) : nval f x < nval f y := by
  induction y with
  | zero => omega
  | succ y ih =>
    by_cases e : x = y
    · subst e; exact nval_succ f x
    · exact Nat.lt_trans (ih (by omega)) (nval_succ f y)
theorem nval_lt_iff {f : Format} {x y : Nat} : nval f x < nval f y ↔ x < y := by
  constructor
  · intro h
    rcases Nat.lt_trichotomy x y with h1 | h1 | h1
    · exact h1
    · subst h1; omega
    · have := nval_lt (f := f) h1; omega
  · exact nval_lt
theorem nval_inj {f : Format} {x y : Nat} (h : nval f x = nval f y) : x = y := by
  rcases Nat.lt_trichotomy x y with h1 | h1 | h1
  · have := nval_lt (f := f) h1; omega
  · exact h1
  · have := nval_lt (f := f) h1; omega
theorem nval_zero (f : Format) : nval f 0 = 0 := by unfold nval; rw [if_pos (show 0 < f.binade from Nat.two_pow_pos _)]

/-- a finite word, read -/
theorem read_fin (f : Format) (neg : Bool) {r : Nat} (h : r < f.infRung) : ∃ m p, f.read (f.word neg r) = .number neg m p ∧ f.leastPlace ≤ p ∧ m <<< (p - f.leastPlace).toNat = nval f r := by
  rw [read_word f neg (Nat.lt_trans h f.infRung_lt)]
  unfold nval
  by_cases h1 : r < f.binade
  · rw [if_pos h1, if_pos h1]
    exact ⟨r, f.leastPlace, rfl, Int.le_refl _, by simp⟩
  · rw [if_neg h1, if_pos h, if_neg h1]
    refine ⟨_, _, rfl, by omega, ?_⟩
    rw [Nat.shiftLeft_eq]
    congr 2
    omega
theorem read_inf (f : Format) (hb : f.binade ≤ f.infRung) (neg : Bool) : f.read (f.word neg f.infRung) = .infinity neg := by
  rw [read_word f neg f.infRung_lt, if_neg (by omega), if_neg (by omega), if_pos rfl]

theorem signed_scale (s : Bool) (m k : Nat) (d : Nat) : signed s m (k + d) = signed s m k * (2 ^ d : Nat) := by
  unfold signed
  simp only [Nat.shiftLeft_eq, Nat.pow_add]
  split <;> simp [← Nat.mul_assoc, Int.neg_mul]
theorem signed_eq (s : Bool) (m k : Nat) : signed s m k = if s = true then -((m <<< k : Nat) : Int) else ((m <<< k : Nat) : Int) := by
  unfold signed; cases s <;> simp
theorem compare_scale (a b : Int) (d : Nat) : compare (a * (2 ^ d : Nat)) (b * (2 ^ d : Nat)) = compare a b := by
  have hp : (0 : Int) < ((2 ^ d : Nat) : Int) := by exact_mod_cast Nat.two_pow_pos d
  simp only [compare, compareOfLessAndEq]
  have h1 : a * ((2 ^ d : Nat) : Int) < b * ((2 ^ d : Nat) : Int) ↔ a < b := ⟨fun h => Int.lt_of_mul_lt_mul_right h (Int.le_of_lt hp), fun h => Int.mul_lt_mul_of_pos_right h hp⟩
  have h2 : a * ((2 ^ d : Nat) : Int) = b * ((2 ^ d : Nat) : Int) ↔ a = b := ⟨fun h => Int.eq_of_mul_eq_mul_right (by omega) h, fun h => by rw [h]⟩
  simp only [h1, h2]
/-- two numbers, in units of a place below both -/
theorem order_numbers {s t : Bool} {m n : Nat} {p q l : Int} (hp : l ≤ p) (hq : l ≤ q) :
    (Datum.number s m p).order (.number t n q) = some (compare (signed s m (p - l).toNat) (signed t n (q - l).toNat)) := by
  simp only [Datum.order]
  congr 1
  have hb : l ≤ min p q := by omega
  have e1 : (p - l).toNat = (p - min p q).toNat + (min p q - l).toNat := by omega
  have e2 : (q - l).toNat = (q - min p q).toNat + (min p q - l).toNat := by omega
  rw [e1, e2, signed_scale, signed_scale, compare_scale]
/-- the value of a finite word in units of the least place -/
def sval (f : Format) (neg : Bool) (r : Nat) : Int := if neg = true then -(nval f r : Int) else (nval f r : Int)
theorem order_fin (f : Format) (s t : Bool) {x y : Nat} (hx : x < f.infRung) (hy : y < f.infRung) : f.order (f.word s x) (f.word t y) = some (compare (sval f s x) (sval f t y)) := by
  obtain ⟨m, p, e1, e2, e3⟩ := read_fin f s hx
  obtain ⟨n, q, e4, e5, e6⟩ := read_fin f t hy
  unfold Format.order
  rw [e1, e4, order_numbers e2 e5, signed_eq, signed_eq, e3, e6]
  rfl
theorem compare_nat (a b : Nat) : compare (a : Int) (b : Int) = compare a b := by
  simp only [compare, compareOfLessAndEq, Int.ofNat_lt, Int.natCast_inj]
/-- positive numbers stand as their words do -/
theorem order_pos (f : Format) {x y : Nat} (hx : x < f.infRung) (hy : y < f.infRung) : f.order x y = some (compare x y) := by
  have := order_fin f false false hx hy
  have e1 : f.word false x = x := rfl
  have e2 : f.word false y = y := rfl
  rw [e1, e2] at this
  rw [this]
  simp only [sval, Bool.false_eq_true, if_false]
  rw [compare_nat]
  congr 1
  have h1 : (nval f x < nval f y) = (x < y) := propext nval_lt_iff
  have h2 : (nval f x = nval f y) = (x = y) := propext ⟨nval_inj, fun e => by rw [e]⟩
  show compareOfLessAndEq _ _ = compareOfLessAndEq _ _
  unfold compareOfLessAndEq
  simp only [h1, h2]
/-! the greater and the less of two numbers -/
def maxF (k : FloatKind) (x y : Nat) : Option Nat := match k.format.order x y with
  | none => none
  | some .lt => some y
  | some .gt => some x
  | some .eq => some (if (k.decode x).neg = true then y else x)
def minF (k : FloatKind) (x y : Nat) : Option Nat := match k.format.order x y with
  | none => none
  | some .lt => some x
  | some .gt => some y
  | some .eq => some (if (k.decode x).neg = true then x else y)
theorem run_max_f {P : Program} (w : World) (A : Array TypeId) (T : TypeId) (k : FloatKind) (x y z : Nat) (h : maxF k x y = some z) : (Builtin.max_ A T #[.float k x, .float k y]).run P w = .ok (.float k z) w := by
  unfold maxF at h
  cases ho : k.format.order x y with
  | none => rw [ho] at h; cases h
  | some c => cases c <;> (rw [ho] at h; simp only [Option.some.injEq] at h; subst h; simp [Builtin.max_, Builtin.max2, ho])
theorem run_min_f {P : Program} (w : World) (A : Array TypeId) (T : TypeId) (k : FloatKind) (x y z : Nat) (h : minF k x y = some z) : (Builtin.min_ A T #[.float k x, .float k y]).run P w = .ok (.float k z) w := by
  unfold minF at h
  cases ho : k.format.order x y with
  | none => rw [ho] at h; cases h
  | some c => cases c <;> (rw [ho] at h; simp only [Option.some.injEq] at h; subst h; simp [Builtin.min_, Builtin.min2, ho])

theorem neg_word (f : Format) (neg : Bool) {r : Nat} (h : r ≤ f.infRung) : (f.read (f.word neg r)).neg = neg := by
  rw [read_word f neg (Nat.lt_of_le_of_lt h f.infRung_lt)]
  split
  · rfl
  · split
    · rfl
    · rw [if_pos (by omega)]; rfl
theorem nearest_word (f : Format) (neg : Bool) (m : Nat) (p : Int) : ∃ r, f.nearest neg m p = f.word neg r ∧ r ≤ f.infRung := by
  unfold Format.nearest
  split
  · exact ⟨0, rfl, Nat.zero_le _⟩
  · exact ⟨_, rfl, Nat.min_le_right ..⟩
/-- a word is a sign and a rung -/
theorem word_of (f : Format) {x : Nat} (h : x < 2 * f.signWeight) : ∃ neg r, x = f.word neg r ∧ r < f.signWeight := by
  by_cases hx : x < f.signWeight
  · exact ⟨false, x, rfl, hx⟩
  · exact ⟨true, x - f.signWeight, by unfold Format.word; simp; omega, by omega⟩
theorem nan_word (f : Format) (hb : f.binade ≤ f.infRung) (neg : Bool) {r : Nat} (h1 : f.infRung < r) (h2 : r < f.signWeight) : (f.read (f.word neg r)).isNaN = true := read_high f hb neg r h1 h2
theorem single_binade : single.binade ≤ single.infRung := by decide +kernel
theorem double_binade : double.binade ≤ double.infRung := by decide +kernel
/-- what lies between two positive numbers is a word between theirs -/
theorem between {s a b : Nat} (hs : s < 4294967296) (ha : 0 < a) (ha2 : a < single.infRung) (hb2 : b < single.infRung)
    (h1 : single.order s a = some .gt ∨ single.order s a = some .eq) (h2 : single.order s b = some .lt ∨ single.order s b = some .eq) : a ≤ s ∧ s ≤ b := by
  obtain ⟨neg, r, rfl, hr⟩ := word_of single (x := s) (by have : single.signWeight = 2147483648 := by decide +kernel
                                                          omega)
  by_cases hfin : r < single.infRung
  · cases neg
    · have e : single.word false r = r := rfl
      rw [e] at h1 h2 ⊢
      rw [order_pos single hfin ha2] at h1
      rw [order_pos single hfin hb2] at h2
      constructor
      · rcases h1 with h1 | h1
        · have := Nat.compare_eq_gt.1 (Option.some.inj h1); omega
        · have := Nat.compare_eq_eq.1 (Option.some.inj h1); omega
      · rcases h2 with h2 | h2
        · have := Nat.compare_eq_lt.1 (Option.some.inj h2); omega
        · have := Nat.compare_eq_eq.1 (Option.some.inj h2); omega
    · exfalso
      have := order_fin single true false hfin ha2
      have e : single.word false a = a := rfl
      rw [e] at this
      rw [this] at h1
      simp only [sval, if_true, Bool.false_eq_true, if_false] at h1
      have hp : 0 < nval single a := by have := nval_lt (f := single) ha; rw [nval_zero] at this; exact this
      have hlt : -(nval single r : Int) < (nval single a : Int) := by omega
      rw [show compare (-(nval single r : Int)) (nval single a : Int) = .lt from by simp [compare, compareOfLessAndEq, hlt]] at h1
      rcases h1 with h1 | h1 <;> cases h1
  · by_cases hinf : r = single.infRung
    · subst hinf
      have e1 := read_inf single single_binade neg
      obtain ⟨m, p, e2, _⟩ := read_fin single false ha2
      obtain ⟨m', p', e3, _⟩ := read_fin single false hb2
      have e4 : single.word false a = a := rfl
      have e5 : single.word false b = b := rfl
      rw [e4] at e2; rw [e5] at e3
      unfold Format.order at h1 h2
      rw [e1, e2] at h1
      rw [e1, e3] at h2
      cases neg
      · simp [Datum.order] at h2
      · simp [Datum.order] at h1
    · exfalso
      have := nan_word single single_binade neg (by omega) hr
      have hn : isN .f32 (single.word neg r) = true := this
      rw [show single.order (single.word neg r) a = none from order_none (k := .f32) (.inl hn)] at h1
      rcases h1 with h1 | h1 <;> cases h1
/-- half of a positive number, and twice one -/
theorem half_pos {s : Nat} (h0 : 0 < s) (h1 : s < single.infRung) : ∃ r, floatBits .quo .f32 s 1073741824 = some r ∧ (single.read r).neg = false ∧ isN .f32 r = false := by
  obtain ⟨m, p, e1, _, e3⟩ := read_fin single false h1
  have e0 : single.word false s = s := rfl
  rw [e0] at e1
  have e2 : single.read 1073741824 = .number false 8388608 (-22) := by decide +kernel
  have hm : m ≠ 0 := by
    intro e; subst e
    have := nval_lt (f := single) h0
    rw [nval_zero, ← e3] at this; simp at this
  have : ∃ m' p', floatBits .quo .f32 s 1073741824 = some (single.nearest false m' p') := by
    show ∃ m' p', ((single.read s).quotient (single.fractionBits + 2) (single.read 1073741824)).map single.write = some _
    rw [e1, e2]
    exact ⟨_, _, rfl⟩
  obtain ⟨m', p', e⟩ := this
  obtain ⟨r, hr, hle⟩ := nearest_word single false m' p'
  exact ⟨_, e, by rw [hr]; exact neg_word single false hle, nearest_not single false m' p'⟩
theorem twice_pos {s : Nat} (h0 : 0 < s) (h1 : s < single.infRung) : ∃ r, floatBits .mul .f32 1073741824 s = some r ∧ floatBits .mul .f32 s 1073741824 = some r ∧ r ≤ single.infRung := by
  obtain ⟨m, p, e1, _, e3⟩ := read_fin single false h1
  have e0 : single.word false s = s := rfl
  rw [e0] at e1
  have e2 : single.read 1073741824 = .number false 8388608 (-22) := by decide +kernel
  have h3 : floatBits .mul .f32 1073741824 s = some (single.nearest false (8388608 * m) (-22 + p)) := by
    show ((single.read 1073741824).product (single.read s)).map single.write = some _
    rw [e1, e2]; rfl
  have h4 : floatBits .mul .f32 s 1073741824 = some (single.nearest false (8388608 * m) (-22 + p)) := by
    show ((single.read s).product (single.read 1073741824)).map single.write = some _
    rw [e1, e2, Nat.mul_comm 8388608 m, Int.add_comm (-22) p]; rfl
  obtain ⟨r, hr, hle⟩ := nearest_word single false (8388608 * m) (-22 + p)
  rw [hr] at h3 h4
  exact ⟨_, h3, h4, hle⟩
theorem eq_of_order {x y : Nat} (hx : x ≤ single.infRung) (hy : y < single.infRung) (h : single.order x y = some .eq) : x = y := by
  by_cases hfin : x < single.infRung
  · rw [order_pos single hfin hy] at h
    exact Nat.compare_eq_eq.1 (Option.some.inj h)
  · exfalso
    obtain rfl : x = single.infRung := by omega
    have e1 := read_inf single single_binade false
    obtain ⟨m, p, e2, _⟩ := read_fin single false hy
    have e4 : single.word false y = y := rfl
    have e5 : single.word false single.infRung = single.infRung := rfl
    rw [e4] at e2; rw [e5] at e1
    unfold Format.order at h
    rw [e1, e2] at h
    simp [Datum.order] at h
theorem neg_le_inf {x : Nat} (hx : x ≤ single.infRung) : (single.read x).neg = false := neg_word single false hx
end Go.Proofs.Ytaocilimggpdjaa
