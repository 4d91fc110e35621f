/- Plain laws of floats: roots and sums of squares are near the true ones. No condition. -/
import Derived.Test.YtaocilimggpdjaaRel
import Derived.Test.YtaocilimggpdjaaExb
namespace Go.Proofs.Ytaocilimggpdjaa
open Go Ieee
set_option linter.unusedVariables false
set_option linter.unusedSimpArgs false
theorem sq_le {a b : Rat} (ha : 0 ≤ a) (hb : 0 ≤ b) (h : a * a ≤ b * b) : a ≤ b := by
  rcases rat_tri a b with h1 | h1 | h1
  · grind
  · grind
  · exfalso
    have h2 := Rat.mul_le_mul_of_nonneg_left (Rat.le_of_lt h1) hb
    have h3 : b * a < a * a := by
      have := Rat.mul_lt_mul_of_pos_right h1 (show (0 : Rat) < a by grind)
      exact this
    grind
theorem mul_mono {a b c d : Rat} (h1 : a ≤ b) (h2 : c ≤ d) (ha : 0 ≤ a) (hc : 0 ≤ c) : a * c ≤ b * d :=
  Rat.le_trans (Rat.mul_le_mul_of_nonneg_right h1 hc) (Rat.mul_le_mul_of_nonneg_left h2 (Rat.le_trans ha h1))
def cRoot : Rat := 1 / 68719476736
def hi5 : Rat := (1 + U) * (1 + U) * (1 + U) * (1 + U) * (1 + U)
def lo5 : Rat := (1 - U) * (1 - U) * (1 - U) * (1 - U) * (1 - U)
theorem U_le : (0 : Rat) ≤ 1 - U ∧ (0 : Rat) ≤ 1 + U := by decide +kernel
theorem near_num64 (M : Nat) (P : Int) : Near double (num false M P) (double.write (.number false M P)) := near_num double (by decide) false M P
theorem num_nonneg (M : Nat) (P : Int) : 0 ≤ num false M P := by
  unfold num sg
  have h := Rat.mul_nonneg (show (0 : Rat) ≤ (M : Rat) from Rat.natCast_nonneg) (Rat.le_of_lt (pw_pos P))
  simpa using h
/-- a root in 64 bits -/
theorem root_rel64 {y : Nat} (hy : Fin double y) (h1 : cRoot ≤ val double y) (h2 : val double y ≤ 1000000) : Fin double (fsq y) ∧ 1 / 4194304 ≤ val double (fsq y) ∧ val double (fsq y) ≤ 2000 ∧
    val double (fsq y) * val double (fsq y) ≤ (1 + U) * (1 + U) * (1 + U) * val double y ∧ (1 - U) * (1 - U) * (1 - U) * val double y ≤ val double (fsq y) * val double (fsq y) := by
  obtain ⟨s, m, i, e1, e2⟩ := hy.read
  have hc0 : (0 : Rat) < cRoot := by decide +kernel
  have hpos : 0 < num s m i := by rw [← e2]; grind
  have hs : s = false := by
    cases s
    · rfl
    · exfalso
      have h := num_nonneg m i
      have h3 : num true m i = -num false m i := by have := num_neg false m i; simpa using this
      rw [h3] at hpos; grind
  subst hs
  have hm : m ≠ 0 := num_ne (t := false) (n := m) (q := i) (by grind)
  obtain ⟨M, P, hr, k1, k2⟩ := root_sq (i := i) hm
  have hsq : fsq y = double.write (.number false M P) := by
    unfold fsq Format.sqrt
    rw [e1, show double.fractionBits + 2 = 54 from rfl, hr]
    rfl
  rw [hsq]
  obtain ⟨t, ht⟩ : ∃ t, t = num false M P := ⟨_, rfl⟩
  obtain ⟨Y, hY⟩ : ∃ Y, Y = val double y := ⟨_, rfl⟩
  rw [← e2, ← hY, ← ht] at k1 k2
  rw [← hY] at h1 h2 ⊢
  have ht0 : 0 ≤ t := by rw [ht]; exact num_nonneg M P
  have a1 : t * t ≤ (1 + U) * Y := by unfold U; grind
  have a2 : (1 - U) * Y ≤ t * t := by unfold U; grind
  have b1 : t ≤ 1999 := by
    refine sq_le ht0 (by decide +kernel) ?_
    have : (1 + U) * Y ≤ (1 + U) * 1000000 := Rat.mul_le_mul_of_nonneg_left h2 U_le.2
    have c : (1 + U) * 1000000 ≤ (1999 : Rat) * 1999 := by decide +kernel
    grind
  have b2 : 1 / 2097152 ≤ t := by
    refine sq_le (by decide +kernel) ht0 ?_
    have : (1 - U) * cRoot ≤ (1 - U) * Y := Rat.mul_le_mul_of_nonneg_left h1 U_le.1
    have c : (1 / 2097152 : Rat) * (1 / 2097152) ≤ (1 - U) * cRoot := by decide +kernel
    grind
  have hn := near_num64 M P
  rw [← ht] at hn
  have hbt : Btw .f64 0 1999 (double.write (.number false M P)) := near_btw (k := .f64) (a := 0) (b := 1999) (smallI_of (by decide) (by decide)) (smallI_of (by decide) (by decide)) ht0 b1 hn
  have hcm : cMin ≤ t := by have : cMin ≤ 1 / 2097152 := by { decide +kernel }
                            grind
  have hrel := rel64 hn hbt.fin hcm
  obtain ⟨w, hw⟩ : ∃ w, w = val double (double.write (.number false M P)) := ⟨_, rfl⟩
  rw [← hw] at hrel ⊢
  have hhi : w ≤ 1999 := by rw [hw]; exact hbt.hi
  have hlo0 : 0 ≤ (1 - U) * t := Rat.mul_nonneg U_le.1 ht0
  have hw0 : 0 ≤ w := by grind
  have s1 := mul_mono hrel.2 hrel.2 hw0 hw0
  have s2 := mul_mono hrel.1 hrel.1 hlo0 hlo0
  have u1 := Rat.mul_le_mul_of_nonneg_left a1 (show (0 : Rat) ≤ (1 + U) * (1 + U) by decide +kernel)
  have u2 := Rat.mul_le_mul_of_nonneg_left a2 (show (0 : Rat) ≤ (1 - U) * (1 - U) by decide +kernel)
  refine ⟨hbt.fin, ?_, ?_, ?_, ?_⟩
  · have : (1 - U) * (1 / 2097152) ≤ (1 - U) * t := Rat.mul_le_mul_of_nonneg_left b2 U_le.1
    have c : (1 / 4194304 : Rat) ≤ (1 - U) * (1 / 2097152) := by decide +kernel
    grind
  · have : (1999 : Rat) ≤ 2000 := by decide +kernel
    grind
  · grind
  · grind
/-- a root in 32 bits -/
theorem root_rel {x : Nat} (hx : Fin single x) (h1 : cRoot ≤ val single x) (h2 : val single x ≤ 1000000) : Fin single (rootE x) ∧ 1 / 8388608 ≤ val single (rootE x) ∧ val single (rootE x) ≤ 2001 ∧
    val single (rootE x) * val single (rootE x) ≤ hi5 * val single x ∧ lo5 * val single x ≤ val single (rootE x) * val single (rootE x) := by
  have hw := wide_val hx
  obtain ⟨f, l1, l2, l3, l4⟩ := root_rel64 hw.1 (by rw [hw.2]; exact h1) (by rw [hw.2]; exact h2)
  rw [hw.2] at l3 l4
  have e : rootE x = fcv .f64 (fsq (fcv .f32 x .f64)) .f32 := rfl
  rw [e]
  obtain ⟨r, hr⟩ : ∃ r, r = fsq (fcv .f32 x .f64) := ⟨_, rfl⟩
  rw [← hr] at f l1 l2 l3 l4 ⊢
  obtain ⟨ρ, hρ⟩ : ∃ ρ, ρ = val double r := ⟨_, rfl⟩
  obtain ⟨Y, hY⟩ : ∃ Y, Y = val single x := ⟨_, rfl⟩
  have hn := narrow_near f
  rw [← hρ] at l1 l2 l3 l4 hn
  rw [← hY] at l3 l4 ⊢
  have r0 : 0 ≤ ρ := by have : (0 : Rat) ≤ 1 / 4194304 := by { decide +kernel }
                        grind
  have hbt : Btw .f32 0 2000 (fcv .f64 r .f32) := near_btw (k := .f32) (a := 0) (b := 2000) (smallI_of (by decide) (by decide)) (smallI_of (by decide) (by decide)) r0 l2 hn
  have hcm : cMin ≤ ρ := by have : cMin ≤ 1 / 4194304 := by { decide +kernel }
                            grind
  have hrel := rel32 hn hbt.fin hcm
  obtain ⟨w, hw2⟩ : ∃ w, w = val single (fcv .f64 r .f32) := ⟨_, rfl⟩
  rw [← hw2] at hrel ⊢
  have hhi : w ≤ 2000 := by rw [hw2]; exact hbt.hi
  have hlo0 : 0 ≤ (1 - U) * ρ := Rat.mul_nonneg U_le.1 r0
  have hw0 : 0 ≤ w := by grind
  have s1 := mul_mono hrel.2 hrel.2 hw0 hw0
  have s2 := mul_mono hrel.1 hrel.1 hlo0 hlo0
  have u1 := Rat.mul_le_mul_of_nonneg_left l3 (show (0 : Rat) ≤ (1 + U) * (1 + U) by decide +kernel)
  have u2 := Rat.mul_le_mul_of_nonneg_left l4 (show (0 : Rat) ≤ (1 - U) * (1 - U) by decide +kernel)
  refine ⟨hbt.fin, ?_, ?_, ?_, ?_⟩
  · have : (1 - U) * (1 / 4194304) ≤ (1 - U) * ρ := Rat.mul_le_mul_of_nonneg_left l1 U_le.1
    have c : (1 / 8388608 : Rat) ≤ (1 - U) * (1 / 4194304) := by decide +kernel
    grind
  · have : (2000 : Rat) ≤ 2001 := by decide +kernel
    grind
  · unfold hi5; grind
  · unfold lo5; grind
/-- powers -/
def rp (c : Rat) : Nat → Rat
  | 0 => 1
  | k + 1 => rp c k * c
theorem rp_nonneg {c : Rat} (h : 0 ≤ c) : ∀ k, 0 ≤ rp c k
  | 0 => by unfold rp; decide +kernel
  | k + 1 => Rat.mul_nonneg (rp_nonneg h k) h
theorem rp_up : ∀ k, 1 ≤ rp (1 + U) k
  | 0 => by unfold rp; decide +kernel
  | k + 1 => by
    have ih := rp_up k
    have h := mul_mono ih (show (1 : Rat) ≤ 1 + U by decide +kernel) (by decide +kernel) (by decide +kernel)
    unfold rp; grind
theorem rp_down : ∀ k, rp (1 - U) k ≤ 1
  | 0 => by unfold rp; decide +kernel
  | k + 1 => by
    have ih := rp_down k
    have h := mul_mono ih (show (1 : Rat) - U ≤ 1 by decide +kernel) (rp_nonneg U_le.1 k) U_le.1
    unfold rp; grind
theorem rp_half : ∀ k, k ≤ 12 → 1 / 2 ≤ rp (1 - U) k := by decide +kernel
/-- a product, squared -/
theorem rel32_sq {q : Rat} {w : Nat} (h : Near single q w) (hf : Fin single w) (hq : cMin * cMin ≤ q * q) : val single w * val single w ≤ (1 + U) * (1 + U) * (q * q) ∧ (1 - U) * (1 - U) * (q * q) ≤ val single w * val single w := by
  have hc : (0 : Rat) < cMin := by decide +kernel
  obtain ⟨s, r, e, hm, h1, h2⟩ := h
  have hqa : rabs q * rabs q = q * q := by unfold rabs; split <;> grind
  have hq0 : cMin ≤ rabs q := by
    refine sq_le (Rat.le_of_lt hc) (rabs_nonneg q) ?_
    rw [hqa]; exact hq
  have hpos : 0 < rabs q := by grind
  have hn2 : Near single (rabs q) (single.word false r) := by
    refine ⟨false, r, rfl, ?_, fun h3 => ?_, fun _ => rfl⟩
    · rw [rabs_pos (Rat.le_of_lt hpos)]; exact hm
    · grind
  obtain ⟨s0, r0, e0, hr⟩ := hf
  rw [e] at e0
  obtain ⟨rfl, rfl⟩ := word_inj (by have := hm.le; have := inf_lt .f32; exact Nat.lt_of_le_of_lt hm.le this) (Nat.lt_trans hr (inf_lt .f32)) e0
  have hr2 := rel32 hn2 ⟨false, r, rfl, hr⟩ hq0
  have hv : val single w * val single w = val single (single.word false r) * val single (single.word false r) := by
    rw [e, val_word single s hr, val_word single false hr]
    have := sg_sq s
    unfold sg at *
    cases s <;> simp <;> grind
  rw [hv]
  have hlo0 : 0 ≤ (1 - U) * rabs q := Rat.mul_nonneg U_le.1 (rabs_nonneg q)
  have hw0 : 0 ≤ val single (single.word false r) := by grind
  have s1 := mul_mono hr2.2 hr2.2 hw0 hw0
  have s2 := mul_mono hr2.1 hr2.1 hlo0 hlo0
  rw [← hqa]
  constructor <;> grind
/-- sums of squares -/
def sqS (G : List Nat) : Nat → Rat
  | 0 => 0
  | k + 1 => sqS G k + val single (G.getD k 0) * val single (G.getD k 0)
def cSq : Rat := 1 / 1073741824
def okN (x : Nat) : Prop := Fin single x ∧ (val single x * val single x = 0 ∨ cSq ≤ val single x * val single x) ∧ val single x * val single x ≤ 100
theorem sqS_nonneg {G : List Nat} (h : ∀ i, okN (G.getD i 0)) : ∀ k, 0 ≤ sqS G k ∧ (sqS G k = 0 ∨ cSq ≤ sqS G k) ∧ sqS G k ≤ 100 * (k : Rat)
  | 0 => by unfold sqS; exact ⟨Rat.le_refl, .inl rfl, by simp⟩
  | k + 1 => by
    obtain ⟨h1, h2, h3⟩ := sqS_nonneg h k
    obtain ⟨_, h4, h5⟩ := h k
    have hc : (0 : Rat) < cSq := by decide +kernel
    have e : ((k + 1 : Nat) : Rat) = (k : Rat) + 1 := by rw [Rat.natCast_add]; rfl
    have h6 : (0 : Rat) ≤ val single (G.getD k 0) * val single (G.getD k 0) := by rcases h4 with h | h <;> grind
    unfold sqS
    rw [e]
    refine ⟨by grind, ?_, by grind⟩
    rcases h2 with h2 | h2 <;> rcases h4 with h4 | h4
    · left; grind
    · right; grind
    · right; grind
    · right; grind
theorem dot_end {S A q w lo hi : Rat} (h1 : (1 - U) * q ≤ w) (h2 : w ≤ (1 + U) * q) (q1 : q ≤ hi * (S + A)) (q2 : lo * (S + A) ≤ q) (q0 : 0 ≤ q) : 0 ≤ w ∧ w ≤ hi * (1 + U) * (S + A) ∧ lo * (1 - U) * (S + A) ≤ w := by
  have e1 : hi * (1 + U) * (S + A) = (1 + U) * (hi * (S + A)) := by grind
  have e2 : lo * (1 - U) * (S + A) = (1 - U) * (lo * (S + A)) := by grind
  rw [e1, e2]
  exact ⟨Rat.le_trans (Rat.mul_nonneg U_le.1 q0) h1, Rat.le_trans h2 (Rat.mul_le_mul_of_nonneg_left q1 U_le.2), Rat.le_trans (Rat.mul_le_mul_of_nonneg_left q2 U_le.1) h1⟩
theorem dot_ge {S A c : Rat} (hS : 0 ≤ S) (hA : 0 ≤ A) (s1 : S = 0 ∨ c ≤ S) (g2 : A = 0 ∨ c ≤ A) (hz : ¬ S + A = 0) : c ≤ S + A := by
  rcases s1 with h1 | h1
  · rcases g2 with h2 | h2
    · exact absurd (by rw [h1, h2]; exact Rat.add_zero 0) hz
    · rw [h1]; grind
  · grind
theorem dot_qc {S q lo : Rat} (hS : 0 ≤ S) (hl : 1 / 2 ≤ lo) (hc : cSq ≤ S) (q2 : lo * S ≤ q) : cMin ≤ q := by
  have h1 : (1 / 2 : Rat) * S ≤ lo * S := Rat.mul_le_mul_of_nonneg_right hl hS
  have h3 : (1 / 2 : Rat) * cSq ≤ 1 / 2 * S := Rat.mul_le_mul_of_nonneg_left hc (by decide +kernel)
  have h2 : cMin ≤ 1 / 2 * cSq := by decide +kernel
  exact Rat.le_trans h2 (Rat.le_trans h3 (Rat.le_trans h1 q2))
set_option maxHeartbeats 4000000 in
theorem dot_rel {G : List Nat} (h : ∀ i, okN (G.getD i 0)) : ∀ k : Nat, k ≤ 8 → Fin single (dotS G G k) ∧ 0 ≤ val single (dotS G G k) ∧ val single (dotS G G k) ≤ rp (1 + U) (k + 1) * sqS G k ∧ rp (1 - U) (k + 1) * sqS G k ≤ val single (dotS G G k)
  | 0, _ => by
    unfold sqS
    show Fin single 0 ∧ 0 ≤ val single 0 ∧ val single 0 ≤ _ ∧ _ ≤ val single 0
    rw [zero_fin.2]
    exact ⟨zero_fin.1, Rat.le_refl, by simp, by simp⟩
  | k + 1, hk => by
    obtain ⟨f1, d0, d1, d2⟩ := dot_rel h k (by omega)
    obtain ⟨g1, g2, g3⟩ := h k
    obtain ⟨s0, s1, s2⟩ := sqS_nonneg h k
    obtain ⟨x, hx⟩ : ∃ x, x = G.getD k 0 := ⟨_, rfl⟩
    obtain ⟨A, hA⟩ : ∃ A, A = val single x * val single x := ⟨_, rfl⟩
    rw [← hx] at g1 g2 g3
    rw [← hA] at g2 g3
    have hc : (0 : Rat) < cSq := by decide +kernel
    have hA0 : 0 ≤ A := by rcases g2 with h | h <;> grind
    -- the product
    have hn := fop_mul (k := .f32) g1 g1
    have hp : Fin single (fop .mul .f32 x x) ∧ val single (fop .mul .f32 x x) ≤ (1 + U) * A ∧ (1 - U) * A ≤ val single (fop .mul .f32 x x) ∧ (A = 0 → val single (fop .mul .f32 x x) = 0) := by
      have hn' : Near single A (fop .mul .f32 x x) := by rw [hA]; exact hn
      have hb : Btw .f32 0 100 (fop .mul .f32 x x) := near_btw (k := .f32) (a := 0) (b := 100) (smallI_of (by decide) (by decide)) (smallI_of (by decide) (by decide)) hA0 g3 hn'
      rcases g2 with h | h
      · rw [h] at hn'
        have hz := Near.int32 (n := 0) hn' (by decide)
        have hz2 : val single (fop .mul .f32 x x) = 0 := hz.2
        refine ⟨hb.fin, ?_, ?_, fun _ => hz2⟩ <;> rw [hz2, h] <;> simp
      · have hr := rel32 hn' hb.fin (by have : cMin ≤ cSq := by { decide +kernel }
                                        grind)
        exact ⟨hb.fin, hr.2, hr.1, fun h0 => by rw [h0] at h; grind⟩
    obtain ⟨pf, p1, p2, p3⟩ := hp
    obtain ⟨p, hpp⟩ : ∃ p, p = fop .mul .f32 x x := ⟨_, rfl⟩
    obtain ⟨d, hd⟩ : ∃ d, d = dotS G G k := ⟨_, rfl⟩
    have ed : dotS G G (k + 1) = fop .add .f32 d p := by rw [hd, hpp, hx]; rfl
    have es : sqS G (k + 1) = sqS G k + A := by rw [hA, hx]; rfl
    rw [← hpp] at pf p1 p2 p3
    rw [← hd] at f1 d0 d1 d2
    rw [ed, es]
    obtain ⟨S, hS⟩ : ∃ S, S = sqS G k := ⟨_, rfl⟩
    rw [← hS] at s0 s1 s2 d1 d2 ⊢
    obtain ⟨hi, hhi⟩ : ∃ c, c = rp (1 + U) (k + 1) := ⟨_, rfl⟩
    obtain ⟨lo, hlo⟩ : ∃ c, c = rp (1 - U) (k + 1) := ⟨_, rfl⟩
    have ehi : rp (1 + U) (k + 1 + 1) = hi * (1 + U) := by rw [hhi]; rfl
    have elo : rp (1 - U) (k + 1 + 1) = lo * (1 - U) := by rw [hlo]; rfl
    rw [ehi, elo]
    rw [← hhi] at d1
    rw [← hlo] at d2
    have hi1 : 1 + U ≤ hi := by
      rw [hhi]
      have h1 := rp_up k
      have h2 := Rat.mul_le_mul_of_nonneg_right h1 U_le.2
      show 1 + U ≤ rp (1 + U) k * (1 + U)
      grind
    have lo1 : lo ≤ 1 - U := by
      rw [hlo]
      have h1 := rp_down k
      have h2 := Rat.mul_le_mul_of_nonneg_right h1 U_le.1
      show rp (1 - U) k * (1 - U) ≤ 1 - U
      grind
    have lo0 : 1 / 2 ≤ lo := by rw [hlo]; exact rp_half (k + 1) (by omega)
    have hi2 : hi ≤ 2 := by
      rw [hhi]
      have : ∀ j, j ≤ 9 → rp (1 + U) j ≤ 2 := by decide +kernel
      exact this (k + 1) (by omega)
    have q1 : val single d + val single p ≤ hi * (S + A) := by
      have := Rat.mul_le_mul_of_nonneg_right hi1 hA0
      grind
    have q2 : lo * (S + A) ≤ val single d + val single p := by
      have := Rat.mul_le_mul_of_nonneg_right lo1 hA0
      grind
    have hp0 : 0 ≤ val single p := by have := Rat.mul_nonneg U_le.1 hA0; grind
    have hns := fop_add (k := .f32) f1 pf
    obtain ⟨q, hq⟩ : ∃ q, q = val single d + val single p := ⟨_, rfl⟩
    have hns' : Near single q (fop .add .f32 d p) := by rw [hq]; exact hns
    rw [← hq] at q1 q2
    have hq0 : 0 ≤ q := by grind
    have hSA : S + A ≤ 100 * ((k : Rat) + 1) := by grind
    have hk8 : (k : Rat) ≤ 8 := by have : ((k : Nat) : Rat) ≤ ((8 : Nat) : Rat) := nat_rat_le (by omega)
                                   exact this
    have hqb : q ≤ 2000 := by
      have h1 : hi * (S + A) ≤ 2 * (S + A) := Rat.mul_le_mul_of_nonneg_right hi2 (by grind)
      grind
    have hb : Btw .f32 0 2000 (fop .add .f32 d p) := near_btw (k := .f32) (a := 0) (b := 2000) (smallI_of (by decide) (by decide)) (smallI_of (by decide) (by decide)) hq0 hqb hns'
    have hSA0 : 0 ≤ S + A := by grind
    by_cases hz : S + A = 0
    · rw [hz] at q1 q2 ⊢
      have hqz : q = 0 := by grind
      rw [hqz] at hns'
      have hv := (Near.int32 (n := 0) hns' (by decide)).2
      have hv2 : val single (fop .add .f32 d p) = 0 := hv
      refine ⟨hb.fin, ?_, ?_, ?_⟩ <;> rw [hv2] <;> simp
    · have hge : cSq ≤ S + A := dot_ge s0 hA0 s1 g2 hz
      have hqc : cMin ≤ q := dot_qc hSA0 lo0 hge q2
      have hr := rel32 hns' hb.fin hqc
      exact ⟨hb.fin, dot_end hr.1 hr.2 q1 q2 hq0⟩
end Go.Proofs.Ytaocilimggpdjaa
