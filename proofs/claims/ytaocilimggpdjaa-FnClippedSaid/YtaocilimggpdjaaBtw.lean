/- Plain laws of floats: bounds of results by integers. No condition. -/
import Derived.Test.YtaocilimggpdjaaQg
namespace Go.Proofs.Ytaocilimggpdjaa
open Go Ieee
set_option linter.unusedVariables false
/-- a number between two integers -/
structure Btw (k : FloatKind) (a b : Int) (w : Nat) : Prop where
  fin : Fin k.format w
  lo : (a : Rat) ≤ val k.format w
  hi : val k.format w ≤ (b : Rat)
def smallI (n : Int) : Prop := n.natAbs < 16777216
theorem int_exactK (k : FloatKind) {n : Int} (h : smallI n) : Fin k.format (floatOfInt k n) ∧ val k.format (floatOfInt k n) = n := by
  unfold smallI at h
  cases k
  · exact int_exact32 n h
  · exact int_exact64 n (by omega)
theorem rabs_le {q : Rat} {c : Rat} (h1 : -c ≤ q) (h2 : q ≤ c) : rabs q ≤ c := by unfold rabs; split <;> grind
theorem near_btw {k : FloatKind} {a b : Int} {q : Rat} {w : Nat} (ha : smallI a) (hb : smallI b) (h1 : (a : Rat) ≤ q) (h2 : q ≤ (b : Rat)) (h : Near k.format q w) : Btw k a b w := by
  obtain ⟨fa, va⟩ := int_exactK k ha
  obtain ⟨fb, vb⟩ := int_exactK k hb
  have hc : smallI (max (a.natAbs : Int) b.natAbs) := by unfold smallI at *; omega
  obtain ⟨fc, vc⟩ := int_exactK k hc
  have hw : Fin k.format w := by
    obtain ⟨s, r, e, hr⟩ := fc
    refine h.fin hr ?_
    have e1 := abs_val k.format s hr
    rw [← e, vc] at e1
    have hp := pw_pos (-k.format.leastPlace)
    have hle : rabs q ≤ rabs ((max (a.natAbs : Int) b.natAbs : Int) : Rat) := by
      have h0 : (0 : Rat) ≤ ((max (a.natAbs : Int) b.natAbs : Int) : Rat) := by
        have : (0 : Int) ≤ max (a.natAbs : Int) b.natAbs := by omega
        exact_mod_cast this
      rw [rabs_pos h0]
      refine rabs_le ?_ ?_
      · have h3 : -(max (a.natAbs : Int) b.natAbs) ≤ a := by omega
        have h4 : ((-(max (a.natAbs : Int) b.natAbs) : Int) : Rat) ≤ (a : Rat) := by exact_mod_cast h3
        rw [Rat.intCast_neg] at h4
        grind
      · have h3 : b ≤ max (a.natAbs : Int) b.natAbs := by omega
        have h4 : (b : Rat) ≤ ((max (a.natAbs : Int) b.natAbs : Int) : Rat) := by exact_mod_cast h3
        grind
    have h5 : rabs q * (2 : Rat) ^ (-k.format.leastPlace) ≤ rabs ((max (a.natAbs : Int) b.natAbs : Int) : Rat) * (2 : Rat) ^ (-k.format.leastPlace) := Rat.mul_le_mul_of_nonneg_right hle (Rat.le_of_lt hp)
    rw [e1] at h5
    exact h5
  refine ⟨hw, ?_, ?_⟩
  · have := (int_near k a).mono h fa hw (inf_lt k) h1
    rwa [va] at this
  · have := h.mono (int_near k b) hw fb (inf_lt k) h2
    rwa [vb] at this
theorem Btw.mono {k : FloatKind} {a b a' b' : Int} {w : Nat} (h : Btw k a b w) (h1 : a' ≤ a) (h2 : b ≤ b') : Btw k a' b' w := by
  have e1 : (a' : Rat) ≤ (a : Rat) := by exact_mod_cast h1
  have e2 : (b : Rat) ≤ (b' : Rat) := by exact_mod_cast h2
  exact ⟨h.fin, Rat.le_trans e1 h.lo, Rat.le_trans h.hi e2⟩
theorem Btw.int {k : FloatKind} {n : Int} (h : smallI n) : Btw k n n (floatOfInt k n) := by
  obtain ⟨f, v⟩ := int_exactK k h
  exact ⟨f, by rw [v]; exact Rat.le_refl, by rw [v]; exact Rat.le_refl⟩
theorem fop_add {k : FloatKind} {x y : Nat} (hx : Fin k.format x) (hy : Fin k.format y) : Near k.format (val k.format x + val k.format y) (fop .add k x y) := by
  obtain ⟨r, e, h⟩ := add_near hx hy; rw [fop_some e]; exact h
theorem fop_sub {k : FloatKind} {x y : Nat} (hx : Fin k.format x) (hy : Fin k.format y) : Near k.format (val k.format x - val k.format y) (fop .sub k x y) := by
  obtain ⟨r, e, h⟩ := sub_near hx hy; rw [fop_some e]; exact h
theorem fop_mul {k : FloatKind} {x y : Nat} (hx : Fin k.format x) (hy : Fin k.format y) : Near k.format (val k.format x * val k.format y) (fop .mul k x y) := by
  obtain ⟨r, e, h⟩ := mul_near hx hy; rw [fop_some e]; exact h
theorem fop_quo {k : FloatKind} {x y : Nat} (hx : Fin k.format x) (hy : Fin k.format y) (h0 : val k.format y ≠ 0) : Near k.format (val k.format x / val k.format y) (fop .quo k x y) := by
  obtain ⟨r, e, h⟩ := quo_nearW hx hy h0; rw [fop_some e]; exact h
theorem Btw.add {k : FloatKind} {a b c d : Int} {x y : Nat} (hx : Btw k a b x) (hy : Btw k c d y) (h1 : smallI (a + c)) (h2 : smallI (b + d)) : Btw k (a + c) (b + d) (fop .add k x y) :=
  near_btw h1 h2 (by rw [Rat.intCast_add]; have := hx.lo; have := hy.lo; grind) (by rw [Rat.intCast_add]; have := hx.hi; have := hy.hi; grind) (fop_add hx.fin hy.fin)
theorem Btw.sub {k : FloatKind} {a b c d : Int} {x y : Nat} (hx : Btw k a b x) (hy : Btw k c d y) (h1 : smallI (a - d)) (h2 : smallI (b - c)) : Btw k (a - d) (b - c) (fop .sub k x y) :=
  near_btw h1 h2 (by rw [Rat.intCast_sub]; have := hx.lo; have := hy.hi; grind) (by rw [Rat.intCast_sub]; have := hx.hi; have := hy.lo; grind) (fop_sub hx.fin hy.fin)
/-- a product, by the bounds that are told for the true one -/
theorem Btw.mulq {k : FloatKind} {a b : Int} {x y : Nat} (hx : Fin k.format x) (hy : Fin k.format y) (ha : smallI a) (hb : smallI b) (h1 : (a : Rat) ≤ val k.format x * val k.format y) (h2 : val k.format x * val k.format y ≤ (b : Rat)) : Btw k a b (fop .mul k x y) := near_btw ha hb h1 h2 (fop_mul hx hy)
theorem Btw.quoq {k : FloatKind} {a b : Int} {x y : Nat} (hx : Fin k.format x) (hy : Fin k.format y) (h0 : val k.format y ≠ 0) (ha : smallI a) (hb : smallI b) (h1 : (a : Rat) ≤ val k.format x / val k.format y) (h2 : val k.format x / val k.format y ≤ (b : Rat)) : Btw k a b (fop .quo k x y) := near_btw ha hb h1 h2 (fop_quo hx hy h0)
theorem mul_abs {p q c d : Rat} (h1 : -c ≤ p) (h2 : p ≤ c) (h3 : -d ≤ q) (h4 : q ≤ d) (hc : 0 ≤ c) (hd : 0 ≤ d) : -(c * d) ≤ p * q ∧ p * q ≤ c * d := by
  have hr : rabs p ≤ c := rabs_le h1 h2
  have hs : rabs q ≤ d := rabs_le h3 h4
  have hm : rabs (p * q) = rabs p * rabs q := by
    unfold rabs
    rcases rat_tri p 0 with a | a | a <;> rcases rat_tri q 0 with b | b | b
    · have := Rat.mul_pos (show (0 : Rat) < -p by grind) (show (0 : Rat) < -q by grind)
      rw [if_neg (by grind), if_pos a, if_pos b]; grind
    · subst b; simp
    · have := Rat.mul_pos (show (0 : Rat) < -p by grind) b
      rw [if_pos (by grind), if_pos a, if_neg (by grind)]; grind
    · subst a; simp
    · subst a; simp
    · subst a; simp
    · have := Rat.mul_pos a (show (0 : Rat) < -q by grind)
      rw [if_pos (by grind), if_neg (by grind), if_pos b]; grind
    · subst b; simp
    · have := Rat.mul_pos a b
      rw [if_neg (by grind), if_neg (by grind), if_neg (by grind)]
  have h5 : rabs p * rabs q ≤ c * d := Rat.le_trans (Rat.mul_le_mul_of_nonneg_right hr (rabs_nonneg q)) (Rat.mul_le_mul_of_nonneg_left hs hc)
  rw [← hm] at h5
  unfold rabs at h5
  split at h5 <;> constructor <;> grind
theorem cast_abs (c : Int) (d : Int) : ((c * d : Int) : Rat) = (c : Rat) * (d : Rat) := Rat.intCast_mul c d
/-- a product of numbers whose sizes are bounded -/
theorem Btw.mul {k : FloatKind} {c d : Int} {x y : Nat} (hx : Btw k (-c) c x) (hy : Btw k (-d) d y) (hc : 0 ≤ c) (hd : 0 ≤ d) (h : smallI (c * d)) : Btw k (-(c * d)) (c * d) (fop .mul k x y) := by
  have c0 : (0 : Rat) ≤ (c : Rat) := by exact_mod_cast hc
  have d0 : (0 : Rat) ≤ (d : Rat) := by exact_mod_cast hd
  have l1 := hx.lo; have l2 := hy.lo
  rw [Rat.intCast_neg] at l1 l2
  have hm := mul_abs l1 hx.hi l2 hy.hi c0 d0
  refine Btw.mulq hx.fin hy.fin (by unfold smallI at *; omega) h ?_ ?_
  · rw [Rat.intCast_neg, cast_abs]; exact hm.1
  · rw [cast_abs]; exact hm.2
/-- a small number is not too great for 32 bits -/
theorem Btw.narrow {a b : Int} {x : Nat} (h : Btw .f64 a b x) (ha : smallI a) (hb : smallI b) : cvWide .f64 x .f32 = false ∧ Btw .f32 a b (fcv .f64 x .f32) := by
  have hn := narrow_near h.fin
  have hb2 : Btw .f32 a b (fcv .f64 x .f32) := near_btw ha hb h.lo h.hi hn
  refine ⟨?_, hb2⟩
  obtain ⟨s, m, p, h1, h2⟩ := h.fin.read
  unfold cvWide
  rw [if_neg (by decide), show FloatKind.f64.decode x = .number s m p from h1]
  have e : fcv .f64 x .f32 = FloatKind.f32.encode (.number s m p) := by
    unfold fcv
    rw [if_neg (by decide), show FloatKind.f64.decode x = .number s m p from h1]
  show (FloatKind.f32.decode (FloatKind.f32.encode (.number s m p))).isInfinity = false
  rw [← e]
  obtain ⟨t, r, e2, hr⟩ := hb2.fin
  rw [e2]
  exact not_inf_of_lt single t hr
end Go.Proofs.Ytaocilimggpdjaa
