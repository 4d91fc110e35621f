/- Plain laws of floats as rational numbers: the operations on words; errors. No condition. -/
import Derived.Test.YtaocilimggpdjaaQe
import Derived.Test.YtaocilimggpdjaaFl7
namespace Go.Proofs.Ytaocilimggpdjaa
open Go Go.RowKit Ieee
set_option linter.unusedVariables false
set_option linter.unusedSimpArgs false
theorem Fin.read {f : Format} {w : Nat} (h : Fin f w) : ∃ s m p, f.read w = .number s m p ∧ val f w = num s m p := by
  obtain ⟨s, r, rfl, hr⟩ := h
  obtain ⟨m, p, h1, _⟩ := read_num f s hr
  exact ⟨s, m, p, h1, by unfold val; rw [h1]; rfl⟩
theorem one_frac (k : FloatKind) : 1 ≤ k.format.fractionBits := by cases k <;> decide
theorem inf_lt (k : FloatKind) : k.format.infRung < k.format.signWeight := by cases k <;> decide +kernel
theorem Near.write {k : FloatKind} {s : Bool} {m : Nat} {p : Int} {q : Rat} (h : num s m p = q) : Near k.format q (k.format.write (.number s m p)) := by
  rw [← h]; exact near_num k.format (one_frac k) s m p
theorem num_neg (s : Bool) (m : Nat) (p : Int) : num (!s) m p = -num s m p := by
  unfold num sg; cases s <;> simp <;> grind
theorem sum_num (s t : Bool) (m n : Nat) (i j : Int) : ∃ u M P, (Datum.number s m i).sum (.number t n j) = some (.number u M P) ∧ num u M P = num s m i + num t n j := by
  refine ⟨_, _, _, rfl, ?_⟩
  obtain ⟨b, hb⟩ : ∃ b, b = min i j := ⟨_, rfl⟩
  rw [← hb]
  have e1 := num_base (s := s) (m := m) (show b ≤ i by omega)
  have e2 := num_base (s := t) (m := n) (show b ≤ j by omega)
  rw [e1, e2]
  generalize signed s m (i - b).toNat = A
  generalize signed t n (j - b).toNat = B
  have hs : ((A : Rat)) * (2 : Rat) ^ b + (B : Rat) * (2 : Rat) ^ b = ((A + B : Int) : Rat) * (2 : Rat) ^ b := by rw [Rat.intCast_add]; grind
  rw [hs]
  generalize A + B = T
  unfold num sg
  by_cases h0 : T = 0
  · subst h0
    simp
  · rw [if_neg h0]
    have hT : (((if (decide (T < 0)) = true then (-1 : Rat) else 1)) * (T.natAbs : Rat)) = (T : Rat) := by
      by_cases h1 : T < 0
      · have : T = -(T.natAbs : Int) := by omega
        conv => rhs; rw [this]
        rw [Rat.intCast_neg, Rat.intCast_natCast]
        simp [h1]; grind
      · have : T = (T.natAbs : Int) := by omega
        conv => rhs; rw [this]
        rw [Rat.intCast_natCast]
        simp [h1]
    rw [hT]
theorem add_near {k : FloatKind} {x y : Nat} (hx : Fin k.format x) (hy : Fin k.format y) : ∃ r, floatBits .add k x y = some r ∧ Near k.format (val k.format x + val k.format y) r := by
  obtain ⟨s, m, p, h1, h2⟩ := hx.read
  obtain ⟨t, n, q, h3, h4⟩ := hy.read
  obtain ⟨u, M, P, h5, h6⟩ := sum_num s t m n p q
  refine ⟨k.format.write (.number u M P), ?_, Near.write (by rw [h6, h2, h4])⟩
  show ((k.format.read x).sum (k.format.read y)).map k.format.write = _
  rw [h1, h3, h5]; rfl
theorem sub_near {k : FloatKind} {x y : Nat} (hx : Fin k.format x) (hy : Fin k.format y) : ∃ r, floatBits .sub k x y = some r ∧ Near k.format (val k.format x - val k.format y) r := by
  obtain ⟨s, m, p, h1, h2⟩ := hx.read
  obtain ⟨t, n, q, h3, h4⟩ := hy.read
  obtain ⟨u, M, P, h5, h6⟩ := sum_num s (!t) m n p q
  refine ⟨k.format.write (.number u M P), ?_, Near.write (by rw [h6, h2, h4, num_neg]; grind)⟩
  show ((k.format.read x).sum (k.format.read y).opposite).map k.format.write = _
  rw [h1, h3]
  show ((Datum.number s m p).sum (.number (!t) n q)).map _ = _
  rw [h5]; rfl
theorem mul_near {k : FloatKind} {x y : Nat} (hx : Fin k.format x) (hy : Fin k.format y) : ∃ r, floatBits .mul k x y = some r ∧ Near k.format (val k.format x * val k.format y) r := by
  obtain ⟨s, m, p, h1, h2⟩ := hx.read
  obtain ⟨t, n, q, h3, h4⟩ := hy.read
  refine ⟨k.format.write (.number (s ^^ t) (m * n) (p + q)), ?_, Near.write ?_⟩
  · show ((k.format.read x).product (k.format.read y)).map k.format.write = _
    rw [h1, h3]; rfl
  · rw [h2, h4]
    unfold num
    rw [sg_xor, Rat.natCast_mul, pw_add]; grind
theorem num_ne {t : Bool} {n : Nat} {q : Int} (h : num t n q ≠ 0) : n ≠ 0 := by
  intro e; subst e; apply h; unfold num
  have : ((0 : Nat) : Rat) = 0 := rfl
  rw [this]; grind
theorem quo_nearW {k : FloatKind} {x y : Nat} (hx : Fin k.format x) (hy : Fin k.format y) (h0 : val k.format y ≠ 0) : ∃ r, floatBits .quo k x y = some r ∧ Near k.format (val k.format x / val k.format y) r := by
  obtain ⟨s, m, p, h1, h2⟩ := hx.read
  obtain ⟨t, n, q, h3, h4⟩ := hy.read
  rw [h4] at h0
  obtain ⟨d, h5, h6⟩ := quo_near k.format (one_frac k) s t m n p q (num_ne h0)
  refine ⟨k.format.write d, ?_, by rw [h2, h4]; exact h6⟩
  show ((k.format.read x).quotient (k.format.fractionBits + 2) (k.format.read y)).map k.format.write = _
  rw [h1, h3, h5]; rfl
theorem int_near (k : FloatKind) (n : Int) : Near k.format (n : Rat) (floatOfInt k n) := by
  have : num (decide (n < 0)) n.natAbs 0 = (n : Rat) := by
    unfold num sg
    rw [pw_zero, Rat.mul_one]
    by_cases h1 : n < 0
    · have e : n = -(n.natAbs : Int) := by omega
      conv => rhs; rw [e]
      rw [Rat.intCast_neg, Rat.intCast_natCast]
      simp [h1]; grind
    · have e : n = (n.natAbs : Int) := by omega
      conv => rhs; rw [e]
      rw [Rat.intCast_natCast]
      simp [h1]
  exact Near.write (k := k) this
theorem Near.fin {f : Format} {q : Rat} {w R : Nat} (h : Near f q w) (hR : R < f.infRung) (hq : rabs q * (2 : Rat) ^ (-f.leastPlace) ≤ nval f R) : Fin f w := by
  obtain ⟨s, r, rfl, hm, _⟩ := h
  exact ⟨s, r, rfl, by have := hm.mono (Mid.exact (Nat.le_of_lt hR)) hq; omega⟩
theorem narrow_near {x : Nat} (hx : Fin double x) : Near single (val double x) (fcv .f64 x .f32) := by
  obtain ⟨s, m, p, h1, h2⟩ := hx.read
  rw [h2]
  unfold fcv
  rw [if_neg (by decide), show FloatKind.f64.decode x = .number s m p from h1]
  exact near_num single (by decide) s m p
set_option exponentiation.threshold 2000 in
theorem wide_val {x : Nat} (hx : Fin single x) : Fin double (fcv .f32 x .f64) ∧ val double (fcv .f32 x .f64) = val single x := by
  obtain ⟨s, r, rfl, hr⟩ := hx
  obtain ⟨q, h1, h2, h3⟩ := wide_fin s hr
  have hn : isN .f32 (single.word s r) = false := read_word_le single s (by omega)
  have e := cn_wide (single.word s r) (default : World)
  rw [cn_not hn, h2, cn_not (show isN .f64 (double.word s q) = false from read_word_le double s (by omega))] at e
  rw [← e]
  refine ⟨⟨s, q, rfl, h1⟩, ?_⟩
  rw [val_word double s h1, val_word single s hr, h3, s_lp, d_lp, Rat.natCast_mul, ← pw_nat]
  have : (2 : Rat) ^ (-149 : Int) = (2 : Rat) ^ ((925 : Nat) : Int) * (2 : Rat) ^ (-1074 : Int) := by rw [← pw_add]; congr 1
  rw [this]; grind
theorem Fin.not {k : FloatKind} {x : Nat} (h : Fin k.format x) : isN k x = false := by
  obtain ⟨s, r, rfl, hr⟩ := h; exact read_word_le k.format s (Nat.le_of_lt hr)
theorem order_val {k : FloatKind} {x y : Nat} (hx : Fin k.format x) (hy : Fin k.format y) :
    (k.format.order x y = some .lt ↔ val k.format x < val k.format y) ∧ (k.format.order x y = some .gt ↔ val k.format y < val k.format x) ∧ (k.format.order x y = some .eq ↔ val k.format x = val k.format y) := by
  obtain ⟨s, m, p, h1, h2⟩ := hx.read
  obtain ⟨t, n, q, h3, h4⟩ := hy.read
  rw [h2, h4]
  unfold Format.order
  rw [h1, h3]
  exact order_num s t m n p q
/-- the gap behind a rung -/
theorem nval_gap (f : Format) (r : Nat) : nval f (r + 1) = nval f r + 1 ∨ ∃ g, nval f (r + 1) = nval f r + g ∧ f.binade * g ≤ nval f r := by
  have hB := binade_pos f
  rcases Nat.lt_or_ge r f.binade with h | h
  · left
    have e1 : nval f r = r := by unfold nval; rw [if_pos h]
    have e2 : nval f (r + 1) = r + 1 := by
      have := nval_rung f 0 (r + 1) (.inl rfl) (by omega)
      simpa using this
    rw [e1, e2]
  · right
    obtain ⟨e, he⟩ : ∃ e, r / f.binade = e + 1 := ⟨r / f.binade - 1, by have := (Nat.le_div_iff_mul_le hB).2 (show 1 * f.binade ≤ r by omega); omega⟩
    have hd := Nat.div_add_mod r f.binade
    have hm := Nat.mod_lt r hB
    have er : r = e * f.binade + (f.binade + r % f.binade) := by
      rw [he] at hd
      rw [Nat.mul_add, Nat.mul_one, Nat.mul_comm] at hd
      omega
    refine ⟨2 ^ e, ?_, ?_⟩
    · rw [er]
      rw [show e * f.binade + (f.binade + r % f.binade) + 1 = e * f.binade + (f.binade + r % f.binade + 1) by omega]
      rw [nval_rung f e _ (.inr (by omega)) (by omega), nval_rung f e _ (.inr (by omega)) (by omega), Nat.add_mul (f.binade + r % f.binade) 1]
      omega
    · rw [er, nval_rung f e _ (.inr (by omega)) (by omega)]
      exact Nat.mul_le_mul_right _ (by omega)
theorem Mid.err {f : Format} {V : Rat} {r : Nat} (h : Mid f V r) (hr : r < f.infRung) (hV : 0 ≤ V) : 2 * (f.binade : Rat) * ((nval f r : Rat) - V) ≤ V + f.binade ∧ 2 * (f.binade : Rat) * (V - nval f r) ≤ V + f.binade := by
  have hB : (0 : Rat) < f.binade := by have := nat_rat_lt (binade_pos f); simpa using this
  have gapR : ∀ q, ((nval f (q + 1) : Rat) - nval f q) * f.binade ≤ (nval f q : Rat) + f.binade := by
    intro q
    have h0 : (0 : Rat) ≤ nval f q := Rat.natCast_nonneg
    rcases nval_gap f q with h1 | ⟨g, h1, h2⟩
    · rw [h1, Rat.natCast_add]
      have : ((1 : Nat) : Rat) = 1 := rfl
      rw [this]; grind
    · rw [h1, Rat.natCast_add]
      have := nat_rat_le h2
      rw [Rat.natCast_mul] at this
      grind
  constructor
  · rcases h.low with h0 | ⟨h1, _⟩
    · subst h0
      rw [nval_zero]
      have : ((0 : Nat) : Rat) = 0 := rfl
      rw [this]
      have := Rat.mul_nonneg (Rat.le_of_lt hB) hV
      grind
    · have hr0 : 1 ≤ r ∨ r = 0 := by omega
      rcases hr0 with h2 | h2
      · have g := gapR (r - 1)
        rw [Nat.sub_add_cancel h2] at g
        have m := nat_rat_le (nval_le (f := f) (show r - 1 ≤ r by omega))
        have a : (nval f (r - 1) : Rat) ≤ V := by grind
        have b := Rat.mul_le_mul_of_nonneg_left h1 (Rat.le_of_lt hB)
        grind
      · subst h2
        rw [nval_zero]
        have : ((0 : Nat) : Rat) = 0 := rfl
        rw [this]
        have := Rat.mul_nonneg (Rat.le_of_lt hB) hV
        grind
  · obtain ⟨h1, _⟩ := h.high.resolve_left (by omega)
    have g := gapR r
    have b := Rat.mul_le_mul_of_nonneg_left h1 (Rat.le_of_lt hB)
    rcases rat_tri V (nval f r) with h2 | h2 | h2
    · have c : (f.binade : Rat) * (V - nval f r) ≤ 0 := by
        have := Rat.mul_le_mul_of_nonneg_left (Rat.le_of_lt h2) (Rat.le_of_lt hB)
        grind
      grind
    · rw [← h2]; grind
    · grind
end Go.Proofs.Ytaocilimggpdjaa
