/- What comparing two numbers bit by bit computes. No condition. -/
import Derived.Test.YtnnefcakfaifmaaAbs
namespace Go.Proofs.Ytnnefcakfaifmaa
open Go Go.RowKit Ieee
set_option linter.unusedVariables false
set_option linter.unusedSimpArgs false
theorem order_word_eq {x y : Nat} (hx : x < 4294967296) (hy : y < 4294967296) (h : FloatKind.f32.format.order x y = some .eq) (hs : decide (x < 2147483648) = decide (y < 2147483648)) : x = y := by
  obtain ⟨s, r, e1, hr⟩ := word_of single (x := x) (by rw [s_sw]; omega)
  obtain ⟨t, q, e2, hq⟩ := word_of single (x := y) (by rw [s_sw]; omega)
  have hst : s = t := by
    have a1 := word_sign single s hr
    have a2 := word_sign single t hq
    rw [← e1, s_sw] at a1
    rw [← e2, s_sw] at a2
    rw [hs, a2] at a1
    cases s <;> cases t <;> simp_all
  subst hst
  have n1 : isN .f32 x = false := by
    cases hn : isN .f32 x
    · rfl
    · rw [order_none (.inl hn)] at h; cases h
  have n2 : isN .f32 y = false := by
    cases hn : isN .f32 y
    · rfl
    · rw [order_none (.inr hn)] at h; cases h
  have hri : r ≤ single.infRung := by
    rcases Nat.lt_or_ge single.infRung r with h1 | h1
    · exact absurd (nan_word single single_binade s h1 hr) (by rw [← e1]; intro h2; unfold isN at n1; rw [show FloatKind.f32.format.read x = single.read x from rfl, h2] at n1; cases n1)
    · exact h1
  have hqi : q ≤ single.infRung := by
    rcases Nat.lt_or_ge single.infRung q with h1 | h1
    · exact absurd (nan_word single single_binade s h1 hq) (by rw [← e2]; intro h2; unfold isN at n2; rw [show FloatKind.f32.format.read y = single.read y from rfl, h2] at n2; cases n2)
    · exact h1
  have ho : (single.read x).order (single.read y) = some .eq := h
  rcases Nat.lt_or_ge r single.infRung with h1 | h1
  · rcases Nat.lt_or_ge q single.infRung with h2 | h2
    · have h3 : single.order (single.word s r) (single.word s q) = some .eq := by rw [← e1, ← e2]; exact h
      rw [order_fin single s s h1 h2] at h3
      have h4 := Int.compare_eq_eq.1 (Option.some.inj h3)
      unfold sval at h4
      have : r = q := by
        cases s
        · simp at h4; exact nval_inj (f := single) (Int.ofNat.inj h4)
        · simp at h4; exact nval_inj (f := single) (by omega)
      rw [e1, e2, this]
    · have hq2 : q = single.infRung := by omega
      obtain ⟨m, p, e3, _⟩ := read_fin single s h1
      rw [e1, e2, e3, hq2, read_inf single single_binade] at ho
      cases s <;> cases ho
  · have hr2 : r = single.infRung := by omega
    rcases Nat.lt_or_ge q single.infRung with h2 | h2
    · obtain ⟨m, p, e3, _⟩ := read_fin single s h2
      rw [e1, e2, e3, hr2, read_inf single single_binade] at ho
      cases s <;> cases ho
    · have hq2 : q = single.infRung := by omega
      rw [e1, e2, hr2, hq2]
theorem wide_sign2 {x : Nat} (hx : x < 4294967296) (hn : isN .f32 x = false) (w : World) : decide (cvbits .f32 x .f64 w < 9223372036854775808) = decide (x < 2147483648) := by
  cases hf : finB x
  · have : x = 2139095040 ∨ x = 4286578688 := by
      unfold finB at hf
      unfold isN at hn
      obtain ⟨s, r, e, hr⟩ := word_of single (x := x) (by rw [s_sw]; omega)
      rcases Nat.lt_or_ge r single.infRung with h1 | h1
      · obtain ⟨m, p, e2, _⟩ := read_fin single s h1
        rw [e, e2] at hf; cases hf
      · rcases Nat.lt_or_ge single.infRung r with h2 | h2
        · have := nan_word single single_binade s h2 hr
          rw [show FloatKind.f32.format.read x = single.read x from rfl, e, this] at hn; cases hn
        · have : r = single.infRung := by omega
          subst this
          cases s
          · left; rw [e, s_ir]; unfold Format.word; simp
          · right; rw [e]; unfold Format.word; rw [s_sw, s_ir]; simp
    rcases this with h | h
    · subst h
      have : cvbits .f32 2139095040 .f64 w = 9218868437227405312 := by
        unfold cvbits
        rw [if_neg (by decide)]
        have : FloatKind.f32.decode 2139095040 = .infinity false := by decide +kernel
        rw [this]; show FloatKind.f64.encode (.infinity false) = _; decide +kernel
      rw [this]; decide
    · subst h
      have : cvbits .f32 4286578688 .f64 w = 18442240474082181120 := by
        unfold cvbits
        rw [if_neg (by decide)]
        have : FloatKind.f32.decode 4286578688 = .infinity true := by decide +kernel
        rw [this]; show FloatKind.f64.encode (.infinity true) = _; decide +kernel
      rw [this]; decide
  · exact wide_sign hx hf w
theorem order_self2 {x : Nat} (hn : isN .f32 x = false) : FloatKind.f32.format.order x x = some .eq := by rw [order_self, hn]; rfl
theorem order_nan {x : Nat} (hn : isN .f32 x = true) : FloatKind.f32.format.order x x = none := by rw [order_self, hn]; rfl
set_option maxHeartbeats 2000000 in
theorem impl_SameNumber (a b : Nat) (ha : a < 4294967296) (hb : b < 4294967296) (w : World) :
    Calls Try.prog 38 #[.float .f32 a, .float .f32 b] w fun e w' => e = .returned (.bool (decide (cn .f32 a = cn .f32 b))) ∧ Dr w w' := by
  cases na : isN .f32 a
  · have o1 := order_self2 na
    cases nb : isN .f32 b
    · have o2 := order_self2 nb
      rw [cn_not na, cn_not nb]
      have s1 := fun w => wide_sign2 ha na w
      have s2 := fun w => wide_sign2 hb nb w
      have l1 := fun w => cv64_lt a w
      have l2 := fun w => cv64_lt b w
      have hS1 : ∀ w1 W, Calls Try.prog 91 #[.float .f64 (cvbits .f32 a .f64 w1)] W fun e w' => e = .returned (.bool !(decide (a < 2147483648))) ∧ W = w' := by
        intro w1 W; have := math_Signbit _ (l1 w1) W; rwa [s1] at this
      have hS2 : ∀ w1 W, Calls Try.prog 91 #[.float .f64 (cvbits .f32 b .f64 w1)] W fun e w' => e = .returned (.bool !(decide (b < 2147483648))) ∧ W = w' := by
        intro w1 W; have := math_Signbit _ (l2 w1) W; rwa [s2] at this
      have HS1 := Lib.hid hS1; have HS2 := Lib.hid hS2
      by_cases he : FloatKind.f32.format.order a b = some .eq
      · have hiff : decide (a = b) = (decide (a < 2147483648) == decide (b < 2147483648)) := by
          rw [Bool.eq_iff_iff, decide_eq_true_eq, beq_iff_eq]
          constructor
          · rintro rfl; rfl
          · exact order_word_eq ha hb he
        rw [hiff]
        have HI := Lib.hid hiff
        clear s1 s2 l1 l2 hS1 hS2 hiff na nb ha hb
        go_enter Try.func38, Try.ntmps38
        go_wp2_with fail
        refine (HS1.out _ _).mono ?_
        rintro e w1 ⟨rfl, rfl⟩
        go_wp2_with fail
        refine (HS2.out _ _).mono ?_
        rintro e w1 ⟨rfl, rfl⟩
        obtain ⟨p1, hp1⟩ : ∃ p, p = decide (a < 2147483648) := ⟨_, rfl⟩
        obtain ⟨p2, hp2⟩ : ∃ p, p = decide (b < 2147483648) := ⟨_, rfl⟩
        rw [← hp1, ← hp2]
        have HP1 := Lib.hid hp1; have HP2 := Lib.hid hp2
        clear hp1 hp2 HI
        cases p1 <;> cases p2
        all_goals
          go_wp2
          go_ret
          exact ⟨by rw [← HP1.out, ← HP2.out]; rfl, _, rfl⟩
      · have hne : decide (a = b) = false := by
          simp; rintro rfl; exact he o1
        rw [hne]
        have he2 : (FloatKind.f32.format.order a b == some .eq) = false := by simpa using he
        clear s1 s2 l1 l2 hS1 hS2 na nb ha hb he hne
        go_enter Try.func38, Try.ntmps38
        go_wp2
        go_ret
        exact ⟨rfl, Dr.refl _⟩
    · have o2 := order_nan nb
      have hne : decide (cn .f32 a = cn .f32 b) = false := by
        simp; intro h; have := isN_of_cn h; rw [na, nb] at this; cases this
      rw [hne]
      clear na nb ha hb hne
      go_enter Try.func38, Try.ntmps38
      go_wp2
      go_ret
      exact ⟨rfl, Dr.refl _⟩
  · have o1 := order_nan na
    cases nb : isN .f32 b
    · have o2 := order_self2 nb
      have hne : decide (cn .f32 a = cn .f32 b) = false := by
        simp; intro h; have := isN_of_cn h; rw [na, nb] at this; cases this
      rw [hne]
      clear na nb ha hb hne
      go_enter Try.func38, Try.ntmps38
      go_wp2
      go_ret
      exact ⟨rfl, Dr.refl _⟩
    · have o2 := order_nan nb
      rw [cn_nan na, cn_nan nb]
      clear na nb ha hb
      go_enter Try.func38, Try.ntmps38
      go_wp2
      go_ret
      exact ⟨rfl, Dr.refl _⟩
end Go.Proofs.Ytnnefcakfaifmaa
