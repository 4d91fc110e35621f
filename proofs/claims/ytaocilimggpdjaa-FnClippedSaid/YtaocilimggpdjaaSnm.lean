/- What comparing two numbers bit by bit computes. No condition. -/
import Derived.Test.YtaocilimggpdjaaAbs
namespace Go.Proofs.Ytaocilimggpdjaa
open Go Go.RowKit Ieee
set_option linter.unusedVariables false
set_option linter.unusedSimpArgs false
theorem order_word_eq {x y : Nat} (hx : x < 4294967296) (hy : y < 4294967296) (h : FloatKind.f32.format.order x y = some .eq) (hs : decide (x < 2147483648) = decide (y < 2147483648)) : x = y := by
  obtain ⟨s, r, e1, hr⟩ := word_of single (x := x) (by rw [s_sw]; omega)
  obtain ⟨t, q, e2, hq⟩ := word_of single (x := y) (by rw [s_sw]; omega)
  have hst : s = t := by
    have a1 := word_sign single s hr
    have a2 := word_sign single t hq
    rw [← e1, s_sw] at a1
    rw [← e2, s_sw] at a2
    rw [hs, a2] at a1
    cases s <;> cases t <;> simp_all
  subst hst
  have n1 : isN .f32 x = false := by
    cases hn : isN .f32 x
    · rfl
    · rw [order_none (.inl hn)] at h; cases h
  have n2 : isN .f32 y = false := by
    cases hn : isN .f32 y
    · rfl
    · rw [order_none (.inr hn)] at h; cases h
  have hri : r ≤ single.infRung := by
    rcases Nat.lt_or_ge single.infRung r with h1 | h1
    · exact absurd (nan_word single single_binade s h1 hr) (by rw [← e1]; intro h2; unfold isN at n1; rw [show FloatKind.f32.format.read x = single.read x from rfl, h2] at n1; cases n1)
    · exact h1
  have hqi : q ≤ single.infRung := by
    rcases Nat.lt_or_ge single.infRung q with h1 | h1
    · exact absurd (nan_word single single_binade s h1 hq) (by rw [← e2]; intro h2; unfold isN at n2; rw [show FloatKind.f32.format.read y = single.read y from rfl, h2] at n2; cases n2)
    · exact h1
  have ho : (single.read x).order (single.read y) = some .eq := h
  rcases Nat.lt_or_ge r single.infRung with h1 | h1
  · rcases Nat.lt_or_ge q single.infRung with h2 | h2
    · have h3 : single.order (single.word s r) (single.word s q) = some .eq := by rw [← e1, ← e2]; exact h
      rw [order_fin single s s h1 h2] at h3
      have h4 := Int.compare_eq_eq.1 (Option.some.inj h3)
      unfold sval at h4
      have : r = q := by
        cases s
        · simp at h4; exact nval_inj (f := single) (Int.ofNat.inj h4)
        · simp at h4; exact nval_inj (f := single) (by omega)
      rw [e1, e2, this]
    · have hq2 : q = single.infRung := by omega
      obtain ⟨m, p, e3, _⟩ := read_fin single s h1
      rw [e1, e2, e3, hq2, read_inf single single_binade] at ho
      cases s <;> cases ho
  · have hr2 : r = single.infRung := by omega
    rcases Nat.lt_or_ge q single.infRung with h2 | h2
    · obtain ⟨m, p, e3, _⟩ := read_fin single s h2
      rw [e1, e2, e3, hr2, read_inf single single_binade] at ho
      cases s <;> cases ho
    · have hq2 : q = single.infRung := by omega
      rw [e1, e2, hr2, hq2]
theorem wide_sign2 {x : Nat} (hx : x < 4294967296) (hn : isN .f32 x = false) (w : World) : decide (cvbits .f32 x .f64 w < 9223372036854775808) = decide (x < 2147483648) := by
  cases hf : finB x
  · have : x = 2139095040 ∨ x = 4286578688 := by
      unfold finB at hf
      unfold isN at hn
      obtain ⟨s, r, e, hr⟩ := word_of single (x := x) (by rw [s_sw]; omega)
      rcases Nat.lt_or_ge r single.infRung with h1 | h1
      · obtain ⟨m, p, e2, _⟩ := read_fin single s h1
        rw [e, e2] at hf; cases hf
      · rcases Nat.lt_or_ge single.infRung r with h2 | h2
        · have := nan_word single single_binade s h2 hr
          rw [show FloatKind.f32.format.read x = single.read x from rfl, e, this] at hn; cases hn
        · have : r = single.infRung := by omega
          subst this
          cases s
          · left; rw [e, s_ir]; unfold Format.word; simp
          · right; rw [e]; unfold Format.word; rw [s_sw, s_ir]; simp
    rcases this with h | h
    · subst h
      have : cvbits .f32 2139095040 .f64 w = 9218868437227405312 := by
        unfold cvbits
        rw [if_neg (by decide)]
        have : FloatKind.f32.decode 2139095040 = .infinity false := by decide +kernel
        rw [this]; show FloatKind.f64.encode (.infinity false) = _; decide +kernel
      rw [this]; decide
    · subst h
      have : cvbits .f32 4286578688 .f64 w = 18442240474082181120 := by
        unfold cvbits
        rw [if_neg (by decide)]
        have : FloatKind.f32.decode 4286578688 = .infinity true := by decide +kernel
        rw [this]; show FloatKind.f64.encode (.infinity true) = _; decide +kernel
      rw [this]; decide
  · exact wide_sign hx hf w
theorem order_self2 {x : Nat} (hn : isN .f32 x = false) : FloatKind.f32.format.order x x = some .eq := by rw [order_self, hn]; rfl
theorem order_nan {x : Nat} (hn : isN .f32 x = true) : FloatKind.f32.format.order x x = none := by rw [order_self, hn]; rfl
end Go.Proofs.Ytaocilimggpdjaa
