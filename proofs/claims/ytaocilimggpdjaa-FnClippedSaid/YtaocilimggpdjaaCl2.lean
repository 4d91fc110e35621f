/- Plain laws of clipping: the length behind it is nearly the greatest one at most. No condition. -/
import Derived.Test.YtaocilimggpdjaaRe2
import Derived.Test.YtaocilimggpdjaaClp
namespace Go.Proofs.Ytaocilimggpdjaa
open Go Ieee
set_option linter.unusedVariables false
set_option linter.unusedSimpArgs false
theorem okN_zero : okN 0 := ⟨zero_fin.1, .inl (by rw [zero_fin.2]; decide +kernel), by rw [zero_fin.2]; decide +kernel⟩
theorem word_zero {x : Nat} (hx : Fin single x) (h : val single x = 0) : x = 0 ∨ x = 2147483648 := by
  obtain ⟨s, r, rfl, hr⟩ := hx
  rw [val_word single s hr] at h
  have h1 : nval single r = 0 := by
    rcases Nat.eq_zero_or_pos (nval single r) with h2 | h2
    · exact h2
    · exfalso
      have h3 : (0 : Rat) < (nval single r : Rat) := by have := nat_rat_lt h2; simpa using this
      have h4 := Rat.mul_pos h3 (pw_pos single.leastPlace)
      cases s <;> unfold sg at h <;> simp at h <;> grind
  have h2 : r = 0 := by
    rcases Nat.eq_zero_or_pos r with h3 | h3
    · exact h3
    · have := nval_lt (f := single) h3
      rw [nval_zero] at this; omega
  subst h2
  cases s
  · left; rfl
  · right; decide +kernel
theorem m0_fin : Fin single 2147483648 ∧ val single 2147483648 = 0 := by
  have e : single.word true 0 = 2147483648 := by decide +kernel
  have hr : 0 < single.infRung := by rw [s_ir]; decide
  have h := val_word single true (r := 0) hr
  rw [e, nval_zero] at h
  exact ⟨⟨true, 0, e.symm, hr⟩, by rw [h]; simp⟩
theorem root_zero {x : Nat} (hx : Fin single x) (h : val single x = 0) : Fin single (rootE x) ∧ val single (rootE x) = 0 := by
  rcases word_zero hx h with rfl | rfl
  · rw [show rootE 0 = 0 by decide +kernel]; exact zero_fin
  · rw [show rootE 2147483648 = 2147483648 by decide +kernel]; exact m0_fin
theorem rp_two : ∀ j, j ≤ 9 → rp (1 + U) j ≤ 1000001 / 1000000 * (1001 / 1000) := by decide +kernel
theorem hi5_le : hi5 ≤ 1001 / 1000 ∧ 0 ≤ hi5 ∧ 0 ≤ lo5 ∧ lo5 ≤ 1 ∧ 999 / 1000 ≤ lo5 := by decide +kernel
set_option maxHeartbeats 4000000 in
/-- a length -/
theorem len_rel {X : List Nat} (h : ∀ i, okN (X.getD i 0)) {n : Nat} (hn : n ≤ 8) : Fin single (clR X n) ∧ 0 ≤ val single (clR X n) ∧
    val single (clR X n) * val single (clR X n) ≤ hi5 * (rp (1 + U) (n + 1) * sqS X n) ∧ lo5 * (rp (1 - U) (n + 1) * sqS X n) ≤ val single (clR X n) * val single (clR X n) := by
  obtain ⟨f, d0, d1, d2⟩ := dot_rel h n hn
  obtain ⟨s0, s1, s2⟩ := sqS_nonneg h n
  have e : clR X n = rootE (dotS X X n) := rfl
  rw [e]
  obtain ⟨D, hD⟩ : ∃ D, D = dotS X X n := ⟨_, rfl⟩
  rw [← hD] at f d0 d1 d2 ⊢
  obtain ⟨S, hS⟩ : ∃ S, S = sqS X n := ⟨_, rfl⟩
  rw [← hS] at s0 s1 s2 d1 d2 ⊢
  have lo0 := rp_half (n + 1) (by omega)
  have hi2 := rp_two (n + 1) (by omega)
  have hup := rp_up (n + 1)
  obtain ⟨hi, hhi⟩ : ∃ c, c = rp (1 + U) (n + 1) := ⟨_, rfl⟩
  obtain ⟨lo, hlo⟩ : ∃ c, c = rp (1 - U) (n + 1) := ⟨_, rfl⟩
  rw [← hhi] at d1 hi2 hup ⊢
  rw [← hlo] at d2 lo0 ⊢
  have h5 := hi5_le
  rcases s1 with s1 | s1
  · rw [s1] at d1 d2 ⊢
    have hz : val single D = 0 := by grind
    obtain ⟨f2, v2⟩ := root_zero f hz
    rw [v2]
    exact ⟨f2, Rat.le_refl, by simp, by simp⟩
  · have hc : cRoot ≤ val single D := by
      have a : (1 / 2 : Rat) * S ≤ lo * S := Rat.mul_le_mul_of_nonneg_right lo0 s0
      have b : cRoot ≤ 1 / 2 * cSq := by decide +kernel
      grind
    have hk8 : (n : Rat) ≤ 8 := by have : ((n : Nat) : Rat) ≤ ((8 : Nat) : Rat) := nat_rat_le hn
                                   exact this
    have hb : val single D ≤ 1000000 := by
      have a : hi * S ≤ 2 * S := Rat.mul_le_mul_of_nonneg_right (by have : (1000001 / 1000000 : Rat) * (1001 / 1000) ≤ 2 := by { decide +kernel }
                                                                    grind) s0
      grind
    obtain ⟨f2, l1, l2, l3, l4⟩ := root_rel f hc hb
    have u1 := Rat.mul_le_mul_of_nonneg_left d1 h5.2.1
    have u2 := Rat.mul_le_mul_of_nonneg_left d2 h5.2.2.1
    have l0 : (0 : Rat) ≤ 1 / 8388608 := by decide +kernel
    exact ⟨f2, by grind, by grind, by grind⟩
def cLim : Rat := 1000009 / 1000000
theorem lim_ok : ∀ n, n ≤ 8 → hi5 * rp (1 + U) (n + 1) * ((1 + U) * (1 + U)) * ((1 + U) * (1 + U)) ≤ cLim * cLim * (lo5 * rp (1 - U) (n + 1)) ∧ 0 < lo5 * rp (1 - U) (n + 1) ∧ 0 ≤ hi5 * rp (1 + U) (n + 1) := by decide +kernel
def okG (x : Nat) : Prop := Fin single x ∧ (val single x * val single x = 0 ∨ 1 / 256 ≤ val single x * val single x) ∧ val single x * val single x ≤ 90
theorem okG.ok {x : Nat} (h : okG x) : okN x := by
  obtain ⟨h1, h2, h3⟩ := h
  refine ⟨h1, ?_, by grind⟩
  rcases h2 with h2 | h2
  · exact .inl h2
  · have : cSq ≤ 1 / 256 := by decide +kernel
    exact .inr (by grind)
theorem sqS_le90 {G : List Nat} (h : ∀ i, okG (G.getD i 0)) : ∀ k : Nat, sqS G k ≤ 90 * (k : Rat)
  | 0 => by unfold sqS; simp
  | k + 1 => by
    have ih := sqS_le90 h k
    have e : ((k + 1 : Nat) : Rat) = (k : Rat) + 1 := by rw [Rat.natCast_add]; rfl
    have := (h k).2.2
    unfold sqS
    rw [e]; grind
theorem clZ {K S lam β M : Rat} (l2 : K * S ≤ lam * lam) (hb : 0 ≤ β * β) (h : (β * lam) * (β * lam) ≤ ((1 + U) * M) * ((1 + U) * M)) : K * (β * β * S) ≤ (1 + U) * (1 + U) * (M * M) := by
  have a := Rat.mul_le_mul_of_nonneg_left l2 hb
  have e1 : K * (β * β * S) = β * β * (K * S) := by grind
  have e2 : β * β * (lam * lam) = (β * lam) * (β * lam) := by grind
  have e3 : (1 + U) * (1 + U) * (M * M) = ((1 + U) * M) * ((1 + U) * M) := by grind
  rw [e2] at a
  rw [e1, e3]; exact Rat.le_trans a h
theorem clL {L H Q β S : Rat} (m1 : L ≤ H * Q) (hs : Q ≤ (1 + U) * (1 + U) * (β * β) * S) (n3 : 0 ≤ H) : L ≤ H * ((1 + U) * (1 + U)) * (β * β * S) := by
  have a := Rat.mul_le_mul_of_nonneg_left hs n3
  have e1 : H * ((1 + U) * (1 + U)) * (β * β * S) = H * ((1 + U) * (1 + U) * (β * β) * S) := by grind
  rw [e1]; exact Rat.le_trans m1 a
theorem sq_prod (a b : Rat) : a * b * (a * b) = a * a * (b * b) := by grind
theorem cl_bl {β q lam M c : Rat} (h : β ≤ c * q) (hl : q * lam = M) (l0 : 0 ≤ lam) : β * lam ≤ c * M := by
  have a := Rat.mul_le_mul_of_nonneg_right h l0
  rw [Rat.mul_assoc, hl] at a; exact a
theorem le_of_mul {K a b : Rat} (hK : 0 < K) (h : K * a ≤ K * b) : a ≤ b := by
  rcases rat_tri a b with h1 | h1 | h1
  · exact Rat.le_of_lt h1
  · rw [h1]; exact Rat.le_refl
  · exfalso
    have := Rat.mul_lt_mul_of_pos_left h1 hK
    exact absurd h (Rat.not_le.mpr this)
theorem clF {K L H Z M2 C : Rat} (hL : L ≤ H * ((1 + U) * (1 + U)) * Z) (hZ : K * Z ≤ (1 + U) * (1 + U) * M2) (n1 : H * ((1 + U) * (1 + U)) * ((1 + U) * (1 + U)) ≤ C * K) (hK : 0 ≤ K) (hH : 0 ≤ H) (hM : 0 ≤ M2) : K * L ≤ K * (C * M2) := by
  have a := Rat.mul_le_mul_of_nonneg_left hL hK
  have d := Rat.mul_le_mul_of_nonneg_left hZ (show 0 ≤ H * ((1 + U) * (1 + U)) from Rat.mul_nonneg hH (by decide +kernel))
  have e := Rat.mul_le_mul_of_nonneg_right n1 hM
  have e1 : K * (H * ((1 + U) * (1 + U)) * Z) = H * ((1 + U) * (1 + U)) * (K * Z) := by grind
  have e2 : H * ((1 + U) * (1 + U)) * ((1 + U) * (1 + U) * M2) = H * ((1 + U) * (1 + U)) * ((1 + U) * (1 + U)) * M2 := by grind
  have e3 : C * K * M2 = K * (C * M2) := by grind
  rw [e1] at a; rw [e2] at d; rw [e3] at e
  exact Rat.le_trans a (Rat.le_trans d e)
set_option maxHeartbeats 8000000 in
/-- a length that is greater than the greatest one is clipped -/
theorem clip_bound {X : List Nat} (h : ∀ i, okG (X.getD i 0)) {n : Nat} (hn : n ≤ 8) {c : Nat} (hc : Fin single c) (c1 : 1 / 8 ≤ val single c) (hgt : val single c < val single (clR X n)) :
    (∀ i, okN ((listOf n (clG c X n)).getD i 0)) ∧ val single (clR (listOf n (clG c X n)) n) ≤ cLim * val single c := by
  have hcc : cn .f32 c = c := cn_not (Fin.not (k := .f32) hc)
  obtain ⟨f, l0, l1, l2⟩ := len_rel (fun i => (h i).ok) hn
  have s90 := sqS_le90 h n
  obtain ⟨s0, s1, _⟩ := sqS_nonneg (fun i => (h i).ok) n
  obtain ⟨l, hl⟩ : ∃ l, l = clR X n := ⟨_, rfl⟩
  have hG : ∀ i, clG c X n i = fop .mul .f32 (X.getD i 0) (fop .quo .f32 c l) := by intro i; unfold clG; rw [hcc, hl]
  rw [← hl] at f l0 l1 l2 hgt
  obtain ⟨lam, hlam⟩ : ∃ x, x = val single l := ⟨_, rfl⟩
  obtain ⟨M, hM⟩ : ∃ x, x = val single c := ⟨_, rfl⟩
  obtain ⟨S, hS⟩ : ∃ x, x = sqS X n := ⟨_, rfl⟩
  rw [← hlam] at l0 l1 l2 hgt
  rw [← hM] at c1 hgt ⊢
  rw [← hS] at l1 l2 s90 s0 s1
  have hk8 : (n : Rat) ≤ 8 := by have : ((n : Nat) : Rat) ≤ ((8 : Nat) : Rat) := nat_rat_le hn
                                 exact this
  have hM0 : 0 < M := by have : (0 : Rat) < 1 / 8 := by { decide +kernel }
                         grind
  have hlpos : 0 < lam := by grind
  have hl39 : lam ≤ 39 := by
    refine sq_le l0 (by decide +kernel) ?_
    have a := rp_two (n + 1) (by omega)
    have h5 := hi5_le
    have b : rp (1 + U) (n + 1) * S ≤ (1000001 / 1000000 * (1001 / 1000)) * 720 := mul_mono a (by grind) (rp_nonneg U_le.2 _) s0
    have d : hi5 * (rp (1 + U) (n + 1) * S) ≤ (1001 / 1000) * ((1000001 / 1000000 * (1001 / 1000)) * 720) := mul_mono h5.1 b h5.2.1 (Rat.mul_nonneg (rp_nonneg U_le.2 _) s0)
    have e : (1001 / 1000 : Rat) * ((1000001 / 1000000 * (1001 / 1000)) * 720) ≤ 39 * 39 := by decide +kernel
    grind
  -- the factor
  have hquo := fop_quo (k := .f32) hc f (by show val single l ≠ 0; rw [← hlam]; grind)
  obtain ⟨b, hb⟩ : ∃ b, b = fop .quo .f32 c l := ⟨_, rfl⟩
  rw [← hb] at hquo hG
  obtain ⟨q, hq⟩ : ∃ q, q = M / lam := ⟨_, rfl⟩
  have hquo' : Near single q b := by rw [hq, hM, hlam]; exact hquo
  have hql : q * lam = M := by rw [hq]; exact Rat.div_mul_cancel (by grind)
  have hq0 : 0 ≤ q := by
    rcases rat_tri q 0 with h1 | h1 | h1
    · exfalso
      have := Rat.mul_le_mul_of_nonneg_right (Rat.le_of_lt h1) l0
      grind
    · grind
    · grind
  have hq1 : q ≤ 1 := by
    rcases rat_tri q 1 with h1 | h1 | h1
    · grind
    · grind
    · exfalso
      have := Rat.mul_le_mul_of_nonneg_right (Rat.le_of_lt h1) l0
      grind
  have hq2 : 1 / 312 ≤ q := by
    rcases rat_tri q (1 / 312) with h1 | h1 | h1
    · exfalso
      have a := Rat.mul_lt_mul_of_pos_right h1 hlpos
      have d : (1 / 312 : Rat) * lam ≤ 1 / 312 * 39 := Rat.mul_le_mul_of_nonneg_left hl39 (by decide +kernel)
      have e : (1 / 312 : Rat) * 39 ≤ 1 / 8 := by decide +kernel
      grind
    · grind
    · grind
  have hbt : Btw .f32 0 1 b := near_btw (k := .f32) (a := 0) (b := 1) (smallI_of (by decide) (by decide)) (smallI_of (by decide) (by decide)) hq0 hq1 hquo'
  have hrb := rel32 hquo' hbt.fin (by have : cMin ≤ 1 / 312 := by { decide +kernel }
                                      grind)
  obtain ⟨β, hβ⟩ : ∃ x, x = val single b := ⟨_, rfl⟩
  rw [← hβ] at hrb
  have hβ1 : β ≤ 1 := by rw [hβ]; exact hbt.hi
  have hβ0 : 0 ≤ β := by rw [hβ]; exact hbt.lo
  have hβ2 : 1 / 313 ≤ β := by
    have a := Rat.mul_le_mul_of_nonneg_left hq2 U_le.1
    have d : (1 / 313 : Rat) ≤ (1 - U) * (1 / 312) := by decide +kernel
    grind
  have hββ : β * β ≤ 1 := by have := mul_mono hβ1 hβ1 hβ0 hβ0; grind
  have hββ0 : 0 ≤ β * β := Rat.mul_nonneg hβ0 hβ0
  -- the clipped numbers
  have one : ∀ i, okN (fop .mul .f32 (X.getD i 0) b) ∧ val single (fop .mul .f32 (X.getD i 0) b) * val single (fop .mul .f32 (X.getD i 0) b) ≤ (1 + U) * (1 + U) * (β * β) * (val single (X.getD i 0) * val single (X.getD i 0)) := by
    intro i
    obtain ⟨g1, g2, g3⟩ := h i
    have hm := fop_mul (k := .f32) g1 hbt.fin
    obtain ⟨x, hx⟩ : ∃ x, x = X.getD i 0 := ⟨_, rfl⟩
    rw [← hx] at g1 g2 g3 hm ⊢
    obtain ⟨A, hA⟩ : ∃ A, A = val single x * val single x := ⟨_, rfl⟩
    rw [← hA] at g2 g3 ⊢
    have hm' : Near single (val single x * β) (fop .mul .f32 x b) := by rw [hβ]; exact hm
    have hsq : (val single x * β) * (val single x * β) = A * (β * β) := by rw [hA]; grind
    have hA0 : 0 ≤ A := by rcases g2 with h1 | h1
                           · grind
                           · have : (0 : Rat) ≤ 1 / 256 := by decide +kernel
                             grind
    have hAB : A * (β * β) ≤ 90 := by
      have := Rat.mul_le_mul_of_nonneg_left hββ hA0
      grind
    have habs : -10 ≤ val single x * β ∧ val single x * β ≤ 10 := by
      have h1 : rabs (val single x * β) ≤ 10 := by
        refine sq_le (rabs_nonneg _) (by decide +kernel) ?_
        have : rabs (val single x * β) * rabs (val single x * β) = A * (β * β) := by rw [← hsq]; unfold rabs; split <;> grind
        rw [this]
        have : (90 : Rat) ≤ 10 * 10 := by decide +kernel
        grind
      unfold rabs at h1
      split at h1 <;> constructor <;> grind
    have hbo : Btw .f32 (-10) 10 (fop .mul .f32 x b) := near_btw (k := .f32) (a := -10) (b := 10) (smallI_of (by decide) (by decide)) (smallI_of (by decide) (by decide)) habs.1 habs.2 hm'
    rcases g2 with g2 | g2
    · have hz : val single x * β = 0 := by
        have : (val single x * β) * (val single x * β) = 0 := by rw [hsq, g2]; simp
        rcases rat_tri (val single x * β) 0 with h1 | h1 | h1
        · have := Rat.mul_pos (show (0 : Rat) < -(val single x * β) by grind) (show (0 : Rat) < -(val single x * β) by grind); grind
        · exact h1
        · have := Rat.mul_pos h1 h1; grind
      rw [hz] at hm'
      have hv := (Near.int32 (n := 0) hm' (by decide)).2
      have hv2 : val single (fop .mul .f32 x b) = 0 := hv
      refine ⟨⟨hbo.fin, .inl (by rw [hv2]; simp), by rw [hv2]; decide +kernel⟩, ?_⟩
      rw [hv2, g2]; simp
    · have hlow : (1 / 256 : Rat) * (1 / 313 * (1 / 313)) ≤ A * (β * β) := mul_mono g2 (mul_mono hβ2 hβ2 (by decide +kernel) (by decide +kernel)) (by decide +kernel) (by decide +kernel)
      have hr := rel32_sq hm' hbo.fin (by rw [hsq]; have : cMin * cMin ≤ (1 / 256 : Rat) * (1 / 313 * (1 / 313)) := by { decide +kernel }
                                          grind)
      rw [hsq] at hr
      refine ⟨⟨hbo.fin, .inr ?_, ?_⟩, ?_⟩
      · have a := Rat.mul_le_mul_of_nonneg_left hlow (show (0 : Rat) ≤ (1 - U) * (1 - U) by decide +kernel)
        have d : cSq ≤ (1 - U) * (1 - U) * ((1 / 256 : Rat) * (1 / 313 * (1 / 313))) := by decide +kernel
        grind
      · have a := Rat.mul_le_mul_of_nonneg_left hAB (show (0 : Rat) ≤ (1 + U) * (1 + U) by decide +kernel)
        have d : (1 + U) * (1 + U) * 90 ≤ (100 : Rat) := by decide +kernel
        grind
      · grind
  have hO : ∀ i, okN ((listOf n (clG c X n)).getD i 0) := by
    intro i
    by_cases hi : i < n
    · rw [listOf_getD _ hi, hG]; exact (one i).1
    · have e : (listOf n (clG c X n)).getD i 0 = 0 := by rw [List.getD_eq_getElem?_getD, List.getElem?_eq_none (by rw [listOf_length]; omega)]; rfl
      rw [e]; exact okN_zero
  refine ⟨hO, ?_⟩
  have hsum : ∀ k, k ≤ n → sqS (listOf n (clG c X n)) k ≤ (1 + U) * (1 + U) * (β * β) * sqS X k := by
    intro k
    induction k with
    | zero => intro _; unfold sqS; simp
    | succ k ih =>
      intro hk
      have i1 := ih (by omega)
      have i2 := (one k).2
      unfold sqS
      rw [listOf_getD _ (by omega), hG]
      grind
  have hs := hsum n (Nat.le_refl _)
  rw [← hS] at hs
  obtain ⟨f2, m0, m1, _⟩ := len_rel hO hn
  obtain ⟨lam2, hlam2⟩ : ∃ x, x = val single (clR (listOf n (clG c X n)) n) := ⟨_, rfl⟩
  rw [← hlam2] at m0 m1 ⊢
  obtain ⟨n1, n2, n3⟩ := lim_ok n hn
  obtain ⟨K, hK⟩ : ∃ K, K = lo5 * rp (1 - U) (n + 1) := ⟨_, rfl⟩
  obtain ⟨H, hH⟩ : ∃ H, H = hi5 * rp (1 + U) (n + 1) := ⟨_, rfl⟩
  rw [← hK, ← hH] at n1
  rw [← hK] at n2
  rw [← hH] at n3
  have l2' : K * S ≤ lam * lam := by rw [hK]; grind
  have m1' : lam2 * lam2 ≤ H * sqS (listOf n (clG c X n)) n := by rw [hH]; grind
  -- b lam is nearly M
  have hbl : β * lam ≤ (1 + U) * M := cl_bl hrb.2 hql l0
  have hbl2 : (β * lam) * (β * lam) ≤ ((1 + U) * M) * ((1 + U) * M) := mul_mono hbl hbl (Rat.mul_nonneg hβ0 l0) (Rat.mul_nonneg hβ0 l0)
  obtain ⟨Z, hZ⟩ : ∃ Z, Z = β * β * S := ⟨_, rfl⟩
  have hZ0 : 0 ≤ Z := by rw [hZ]; exact Rat.mul_nonneg hββ0 s0
  have hZK : K * Z ≤ (1 + U) * (1 + U) * (M * M) := by rw [hZ]; exact clZ l2' hββ0 hbl2
  have hL : lam2 * lam2 ≤ H * ((1 + U) * (1 + U)) * Z := by rw [hZ]; exact clL m1' hs n3
  have hMM : 0 ≤ M * M := Rat.mul_nonneg (Rat.le_of_lt hM0) (Rat.le_of_lt hM0)
  have hfin : K * (lam2 * lam2) ≤ K * (cLim * cLim * (M * M)) := clF hL hZK n1 (Rat.le_of_lt n2) n3 hMM
  have hres : lam2 * lam2 ≤ cLim * cLim * (M * M) := le_of_mul n2 hfin
  refine sq_le m0 (Rat.mul_nonneg (by decide +kernel) (Rat.le_of_lt hM0)) ?_
  have e4 : cLim * M * (cLim * M) = cLim * cLim * (M * M) := sq_prod cLim M
  rw [e4]; exact hres
end Go.Proofs.Ytaocilimggpdjaa
