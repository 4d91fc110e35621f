/- Joined texts 5: Eln Gpw WEg. Each is told at its own head. No condition. -/
import Derived.Test.YtnhikdjljjemlaaMc3
import Derived.Test.YtnhikdjljjemlaaMc4
/- Plain laws of the codes in 8 bits: a code's value has it as its code; no other value is nearer. No condition. -/
namespace Go.Proofs.Ytnhikdjljjemlaa
open Go Ieee
set_option linter.unusedVariables false
set_option linter.unusedSimpArgs false
set_option exponentiation.threshold 4000
/-- a rung's worth in units, with its sign -/
def un (s : Bool) (p : Nat) : Rat := sg s * (nval double p : Rat)
def R1 : Nat := 5183643171103440896
theorem R1_lt {p : Nat} (h : p ≤ R1) : p < double.infRung := by rw [d_ir]; unfold R1 at h; omega
theorem d_bin8 : double.binade = 4503599627370496 := by decide +kernel
theorem nval_R1 : nval double R1 = 2 ^ 1202 := by
  have e : R1 = 1151 * double.binade := by rw [d_bin8]; rfl
  rw [e, nval_top double 1151 (by decide), d_bin8, show 4503599627370496 = 2 ^ 52 from by decide, ← Nat.pow_add]
theorem nval_R2 : nval double 5188146770730811392 = 2 ^ 1203 := by
  have e : 5188146770730811392 = 1152 * double.binade := by rw [d_bin8]
  rw [e, nval_top double 1152 (by decide), d_bin8, show 4503599627370496 = 2 ^ 52 from by decide, ← Nat.pow_add]
theorem un_val {s : Bool} {p : Nat} (h : p < double.infRung) : val double (double.word s p) * (2 : Rat) ^ (-double.leastPlace) = un s p := by
  rw [val_word double s h]
  unfold un
  rw [← Rat.mul_assoc, units]
theorem rabs_mul {q c : Rat} (hc : 0 ≤ c) : rabs q * c = rabs (q * c) := by
  rcases rat_tri q 0 with h | h | h
  · rw [rabs_neg (Rat.le_of_lt h), rabs_neg (by have := Rat.mul_le_mul_of_nonneg_right (Rat.le_of_lt h) hc; grind)]; grind
  · subst h; rw [rabs_pos (Rat.le_refl), Rat.zero_mul, rabs_pos (Rat.le_refl)]
  · rw [rabs_pos (Rat.le_of_lt h), rabs_pos (Rat.mul_nonneg (Rat.le_of_lt h) hc)]
theorem un_bound {s t : Bool} {p q : Nat} (hp : p ≤ R1) (hq : q ≤ R1) : rabs (un s p - un t q) ≤ ((2 ^ 1203 : Nat) : Rat) := by
  have h1 := nat_rat_le (nval_le (f := double) hp)
  have h2 := nat_rat_le (nval_le (f := double) hq)
  rw [nval_R1] at h1 h2
  have e : ((2 ^ 1203 : Nat) : Rat) = ((2 ^ 1202 : Nat) : Rat) + ((2 ^ 1202 : Nat) : Rat) := by
    rw [← Rat.natCast_add]
  rw [e]
  generalize ((2 ^ 1202 : Nat) : Rat) = B at *
  have z1 : (0 : Rat) ≤ (nval double p : Rat) := Rat.natCast_nonneg
  have z2 : (0 : Rat) ≤ (nval double q : Rat) := Rat.natCast_nonneg
  unfold un sg
  generalize (nval double p : Rat) = P at *
  generalize (nval double q : Rat) = Q at *
  rcases rat_tri ((if s = true then (-1 : Rat) else 1) * P - (if t = true then (-1 : Rat) else 1) * Q) 0 with h | h | h
  · rw [rabs_neg (Rat.le_of_lt h)]; cases s <;> cases t <;> simp <;> grind
  · rw [h, rabs_pos (Rat.le_refl)]; grind
  · rw [rabs_pos (Rat.le_of_lt h)]; cases s <;> cases t <;> simp <;> grind
/-- the difference of two, as a rung -/
theorem sub_rung {s t : Bool} {p q : Nat} (hp : p ≤ R1) (hq : q ≤ R1) : ∃ o ρ, fop .sub .f64 (double.word s p) (double.word t q) = double.word o ρ ∧ Mid double (rabs (un s p - un t q)) ρ ∧ ρ < double.infRung ∧ (0 < un s p - un t q → o = false) := by
  have fp : Fin double (double.word s p) := ⟨s, p, rfl, R1_lt hp⟩
  have fq : Fin double (double.word t q) := ⟨t, q, rfl, R1_lt hq⟩
  obtain ⟨r, h1, o, ρ, h2, h3, h4, h5⟩ := sub_near (k := .f64) fp fq
  have hpw := pw_pos (-double.leastPlace)
  have e : rabs (val double (double.word s p) - val double (double.word t q)) * (2 : Rat) ^ (-double.leastPlace) = rabs (un s p - un t q) := by
    rw [rabs_mul (Rat.le_of_lt hpw), ← un_val (R1_lt hp), ← un_val (R1_lt hq)]; congr 1; grind
  have h3' : Mid double (rabs (un s p - un t q)) ρ := by rw [← e]; exact h3
  have hb : rabs (un s p - un t q) ≤ (nval double 5188146770730811392 : Rat) := by rw [nval_R2]; exact un_bound hp hq
  have hlt : ρ ≤ 5188146770730811392 := h3'.mono (Mid.exact (by rw [d_ir]; decide)) hb
  refine ⟨o, ρ, ?_, h3', by rw [d_ir]; omega, fun hpos => h5 ?_⟩
  · unfold fop; rw [h1, h2]; rfl
  · have e2 : val double (double.word s p) - val double (double.word t q) = (un s p - un t q) * (2 : Rat) ^ double.leastPlace := by
      rw [← un_val (R1_lt hp), ← un_val (R1_lt hq)]
      have := units' double (val double (double.word s p)); have := units' double (val double (double.word t q)); grind
    show 0 < val double (double.word s p) - val double (double.word t q)
    rw [e2]; exact Rat.mul_pos hpos (pw_pos _)
theorem d_sw8 : double.signWeight = 9223372036854775808 := by decide +kernel
theorem gD_rung {D R : Nat} (hD : D ≤ R1) (hR : R ≤ R1) : Mid double (rabs (un false D - un false R)) (gD D R) ∧ gD D R < double.infRung := by
  obtain ⟨o, ρ, h1, h2, h3, -⟩ := sub_rung (s := false) (t := false) hD hR
  have e : gD D R = ρ := by
    unfold gD sW
    have e1 : double.word false D = D := rfl
    have e2 : double.word false R = R := rfl
    rw [e1, e2] at h1
    rw [h1, ← d_sw8]
    exact word_mod double o (Nat.lt_trans h3 double.infRung_lt)
  rw [e]; exact ⟨h2, h3⟩
theorem gapW_rung {s t : Bool} {p q : Nat} (hp : p ≤ R1) (hq : q ≤ R1) : ∃ o ρ, gapW (double.word s p) (double.word t q) = double.word o ρ ∧ Mid double (rabs (un s p - un t q)) ρ ∧ ρ < double.infRung := by
  unfold gapW
  split
  · obtain ⟨o, ρ, h1, h2, h3, -⟩ := sub_rung (s := t) (t := s) hq hp
    refine ⟨o, ρ, h1, ?_, h3⟩
    have e : rabs (un s p - un t q) = rabs (un t q - un s p) := by
      unfold rabs; split <;> split <;> grind
    rw [e]; exact h2
  · obtain ⟨o, ρ, h1, h2, h3, -⟩ := sub_rung (s := s) (t := t) hp hq
    exact ⟨o, ρ, h1, h2, h3⟩
theorem gapW_sign {s t : Bool} {p q : Nat} (hp : p ≤ R1) (hq : q ≤ R1) {o : Bool} {ρ : Nat} (h : gapW (double.word s p) (double.word t q) = double.word o ρ) (hρ : ρ < double.infRung) : o = false ∨ ρ = 0 := by
  have fp : Fin double (double.word s p) := ⟨s, p, rfl, R1_lt hp⟩
  have fq : Fin double (double.word t q) := ⟨t, q, rfl, R1_lt hq⟩
  have hI := double.infRung_lt
  have ov := order_val (k := .f64) fp fq
  have e1 := un_val (s := s) (R1_lt hp)
  have e2 := un_val (s := t) (R1_lt hq)
  have hpw := pw_pos (-double.leastPlace)
  unfold gapW at h
  split at h
  · rename_i hlt
    obtain ⟨o', ρ', h1, h2, h3, h4⟩ := sub_rung (s := t) (t := s) hq hp
    rw [h1] at h
    obtain ⟨rfl, rfl⟩ := word_inj (by omega) (by omega) h
    left
    apply h4
    have := ov.1.1 hlt
    have := Rat.mul_lt_mul_of_pos_right this hpw
    rw [← e1, ← e2]
    have a1 : FloatKind.f64.format = double := rfl
    rw [a1] at this
    grind
  · rename_i hlt
    obtain ⟨o', ρ', h1, h2, h3, h4⟩ := sub_rung (s := s) (t := t) hp hq
    rw [h1] at h
    obtain ⟨rfl, rfl⟩ := word_inj (by omega) (by omega) h
    rcases rat_tri (un s p - un t q) 0 with hz | hz | hz
    · exfalso
      apply hlt
      apply ov.1.2
      show val double _ < val double _
      have h5 : un s p < un t q := by grind
      have h6 := Rat.mul_lt_mul_of_pos_right h5 (pw_pos double.leastPlace)
      rw [← e1, ← e2, units', units'] at h6
      exact h6
    · right
      rw [hz, rabs_pos Rat.le_refl] at h2
      have := Mid.exact (f := double) (r := 0) (Nat.zero_le _)
      rw [nval_zero] at this
      exact h2.unique this
    · left; exact h4 hz
/-- gaps are compared by their rungs -/
theorem gap_not_lt {a b : Bool} {ρ σ : Nat} (hρ : ρ < double.infRung) (hσ : σ < double.infRung) (h1 : a = false ∨ ρ = 0) (h2 : b = false ∨ σ = 0) (h : σ ≤ ρ) : (FloatKind.f64.format.order (double.word a ρ) (double.word b σ) == some .lt) = false := by
  have f1 : Fin double (double.word a ρ) := ⟨a, ρ, rfl, hρ⟩
  have f2 : Fin double (double.word b σ) := ⟨b, σ, rfl, hσ⟩
  have ov := order_val (k := .f64) f1 f2
  have v1 : val double (double.word a ρ) * (2 : Rat) ^ (-double.leastPlace) = (nval double ρ : Rat) := by
    rw [un_val hρ]; unfold un sg
    rcases h1 with h1 | h1
    · subst h1; simp
    · subst h1; rw [nval_zero]; simp
  have v2 : val double (double.word b σ) * (2 : Rat) ^ (-double.leastPlace) = (nval double σ : Rat) := by
    rw [un_val hσ]; unfold un sg
    rcases h2 with h2 | h2
    · subst h2; simp
    · subst h2; rw [nval_zero]; simp
  rw [beq_eq_false_iff_ne]
  intro hlt
  have h3 : val double (double.word a ρ) < val double (double.word b σ) := ov.1.1 hlt
  have h4 := Rat.mul_lt_mul_of_pos_right h3 (pw_pos (-double.leastPlace))
  rw [v1, v2] at h4
  have h5 := nat_rat_le (nval_le (f := double) h)
  grind
set_option maxRecDepth 1000000 in
theorem rVal_step : ∀ k, k < 2 → ∀ r, r < 126 → rVal k r < rVal k (r + 1) := by decide +kernel
set_option maxRecDepth 1000000 in
theorem rVal_top : ∀ k, k < 2 → rVal k 126 ≤ R1 := by decide +kernel
theorem rVal_zero : ∀ k, k < 2 → rVal k 0 = 0 := by decide +kernel
theorem rVal_lt {k : Nat} (hk : k < 2) : ∀ {b : Nat}, b ≤ 126 → ∀ {a : Nat}, a < b → rVal k a < rVal k b
  | 0, _, _, h => by omega
  | b + 1, hb, a, h => by
    have h1 := rVal_step k hk b (by omega)
    by_cases e : a = b
    · subst e; exact h1
    · exact Nat.lt_trans (rVal_lt hk (b := b) (by omega) (by omega)) h1
theorem rVal_mono {k : Nat} (hk : k < 2) {a b : Nat} (hb : b ≤ 126) (h : a ≤ b) : rVal k a ≤ rVal k b := by
  by_cases e : a = b
  · subst e; exact Nat.le_refl _
  · exact Nat.le_of_lt (rVal_lt hk hb (by omega))
theorem rVal_R1 {k r : Nat} (hk : k < 2) (hr : r ≤ 126) : rVal k r ≤ R1 := Nat.le_trans (rVal_mono hk (Nat.le_refl _) hr) (rVal_top k hk)
theorem ord64 {x y : Nat} (hx : x < double.infRung) (hy : y < double.infRung) : FloatKind.f64.format.order x y = some (compare x y) := order_pos double hx hy
theorem best_min {D k : Nat} (hk : k < 2) (hD : D ≤ R1) : ∀ n, n ≤ 126 → ∀ r, r ≤ n → gD D (rVal k (eBest D k n)) ≤ gD D (rVal k r)
  | 0, _, r, h => by
    have : r = 0 := by omega
    subst this; exact Nat.le_refl _
  | n + 1, hn, r, h => by
    have ih := best_min hk hD n (by omega)
    have hb := eBest_le D k n
    have hA := (gD_rung hD (rVal_R1 hk (show n + 1 ≤ 126 by omega))).2
    have hC := (gD_rung hD (rVal_R1 hk (show eBest D k n ≤ 126 by omega))).2
    have ho := ord64 hA hC
    unfold eBest
    split
    · rename_i he
      unfold eC at he
      rw [ho] at he
      have hle : gD D (rVal k (n + 1)) ≤ gD D (rVal k (eBest D k n)) := by
        rcases Nat.lt_trichotomy (gD D (rVal k (n + 1))) (gD D (rVal k (eBest D k n))) with h1 | h1 | h1
        · omega
        · omega
        · rw [Nat.compare_eq_gt.2 h1] at he
          simp at he
      by_cases e : r = n + 1
      · subst e; exact Nat.le_refl _
      · exact Nat.le_trans hle (ih r (by omega))
    · rename_i he
      unfold eC at he
      rw [ho] at he
      by_cases e : r = n + 1
      · subst e
        rcases Nat.lt_trichotomy (gD D (rVal k (n + 1))) (gD D (rVal k (eBest D k n))) with h1 | h1 | h1
        · rw [Nat.compare_eq_lt.2 h1] at he
          simp at he
        · omega
        · omega
      · exact ih r (by omega)
theorem un_false (p : Nat) : un false p = (nval double p : Rat) := by unfold un sg; simp
theorem rest_min {D k : Nat} (hk : k < 2) (hD : D ≤ R1) {r : Nat} (hr : r ≤ rTop k) : gD D (rVal k (eRest D k)) ≤ gD D (rVal k r) := by
  have ht := rTop_le k
  unfold eRest
  split
  · exact best_min hk hD _ ht r hr
  · rename_i h
    rw [ord64 (R1_lt hD) (R1_lt (rVal_R1 hk ht))] at h
    have hle : rVal k (rTop k) ≤ D := by
      rcases Nat.lt_trichotomy D (rVal k (rTop k)) with h1 | h1 | h1
      · exact absurd (by rw [Nat.compare_eq_lt.2 h1]) h
      · omega
      · omega
    obtain ⟨m1, -⟩ := gD_rung hD (rVal_R1 hk ht)
    obtain ⟨m2, -⟩ := gD_rung hD (rVal_R1 hk (show r ≤ 126 by omega))
    refine m1.mono m2 ?_
    have a1 := nat_rat_le (nval_le (f := double) hle)
    have a2 := nat_rat_le (nval_le (f := double) (rVal_mono hk ht hr))
    rw [un_false, un_false, un_false, rabs_pos (by grind), rabs_pos (by grind)]
    grind
theorem rest_self {k r : Nat} (hk : k < 2) (hr : r ≤ rTop k) : eRest (rVal k r) k = r := by
  have ht := rTop_le k
  have hR := rVal_R1 hk (show r ≤ 126 by omega)
  by_cases e : r = rTop k
  · unfold eRest
    rw [if_neg, e]
    rw [e, ord64 (R1_lt (rVal_R1 hk ht)) (R1_lt (rVal_R1 hk ht))]
    rw [Nat.compare_eq_eq.2 rfl]; decide
  · have hmin := rest_min hk hR hr
    have hb := eRest_le (rVal k r) k
    obtain ⟨m1, -⟩ := gD_rung hR hR
    obtain ⟨m2, -⟩ := gD_rung hR (rVal_R1 hk (show eRest (rVal k r) k ≤ 126 by omega))
    obtain ⟨b, hbe⟩ : ∃ b, b = eRest (rVal k r) k := ⟨_, rfl⟩
    rw [← hbe] at hmin hb m2 ⊢
    have z : gD (rVal k r) (rVal k r) = 0 := by
      rw [un_false, show ((nval double (rVal k r) : Rat) - nval double (rVal k r)) = 0 by grind, rabs_pos Rat.le_refl] at m1
      have := Mid.exact (f := double) (r := 0) (Nat.zero_le _)
      rw [nval_zero] at this
      exact m1.unique this
    rw [z] at hmin
    have z2 : gD (rVal k r) (rVal k b) = 0 := by omega
    rw [z2] at m2
    have hone : nval double 1 = 1 := by decide +kernel
    have key : ¬ (1 : Rat) ≤ rabs (un false (rVal k r) - un false (rVal k b)) := by
      intro hle
      have h1 := Mid.exact (f := double) (r := 1) (by rw [d_ir]; decide)
      rw [hone] at h1
      have := h1.mono m2 hle
      omega
    rcases Nat.lt_trichotomy b r with h | h | h
    · exfalso
      apply key
      have h1 := nval_lt (f := double) (rVal_lt hk (show r ≤ 126 by omega) h)
      have h2 := nat_rat_le (show nval double (rVal k b) + 1 ≤ nval double (rVal k r) by omega)
      rw [Rat.natCast_add] at h2
      rw [un_false, un_false, rabs_pos (by have : ((1 : Nat) : Rat) = 1 := rfl; grind)]
      have : ((1 : Nat) : Rat) = 1 := rfl
      grind
    · exact h
    · exfalso
      apply key
      have h1 := nval_lt (f := double) (rVal_lt hk (show b ≤ 126 by omega) h)
      have h2 := nat_rat_le (show nval double (rVal k r) + 1 ≤ nval double (rVal k b) by omega)
      rw [Rat.natCast_add] at h2
      rw [un_false, un_false, rabs_neg (by have : ((1 : Nat) : Rat) = 1 := rfl; grind)]
      have : ((1 : Nat) : Rat) = 1 := rfl
      grind
theorem s_bin8 : single.binade = 8388608 := by decide +kernel
theorem wide_parts {x : Nat} (hx : Fin single x) : ∃ s q, fcv .f32 x .f64 = double.word s q ∧ q ≤ R1 ∧ szD x = q ∧ (s = false ↔ x < 2147483648) := by
  have hw := cv_fin8 hx default
  have hs := wide_sg hx
  obtain ⟨s, r, rfl, hr⟩ := hx
  obtain ⟨q, h1, h2, h3⟩ := wide_fin s hr
  rw [h2] at hw
  have hq : q ≤ R1 := by
    rcases Nat.lt_or_ge R1 q with h | h
    · exfalso
      have a1 := nval_lt (f := double) h
      rw [nval_R1, h3] at a1
      have a2 := nval_le (f := single) (Nat.le_of_lt hr)
      have e : single.infRung = 255 * single.binade := by decide +kernel
      rw [e, nval_top single 255 (by decide), s_bin8, show 8388608 = 2 ^ 23 from by decide, ← Nat.pow_add] at a2
      have a3 := Nat.mul_le_mul_right (2 ^ 925) a2
      rw [← Nat.pow_add] at a3
      exact absurd (Nat.lt_of_lt_of_le a1 a3) (Nat.lt_irrefl _)
    · exact h
  refine ⟨s, q, hw.symm, hq, ?_, ?_⟩
  · unfold szD
    rw [← hw, ← d_sw8]
    exact word_mod double s (Nat.lt_trans h1 double.infRung_lt)
  · rw [← hs, ← hw]
    rw [d_ir] at h1
    unfold Format.word
    rw [d_sw8]
    cases s <;> simp <;> omega
theorem ev_parts {k c : Nat} (hk : k < 2) (hr : c % 128 ≤ rTop k) : Fin single (evW k c) ∧ evW k c < 4294967296 ∧ (evW k c < 2147483648 ↔ c < 128) ∧ fcv .f32 (evW k c) .f64 = double.word (!decide (c < 128)) (rVal k (c % 128)) := by
  have ht := rTop_le k
  obtain ⟨-, h2, -, h4, h5⟩ := nv_facts hk (show c % 128 < 127 by omega)
  have hf : nV k (c % 128) < single.infRung := by rw [s_ir]; exact h2
  unfold evW
  by_cases h : c < 128
  · rw [if_pos h, decide_eq_true h]
    exact ⟨⟨false, _, rfl, hf⟩, by omega, ⟨fun _ => h, fun _ => by omega⟩, h4⟩
  · rw [if_neg h, decide_eq_false h]
    refine ⟨⟨true, nV k (c % 128), ?_, hf⟩, by omega, ⟨fun h6 => by omega, fun h6 => absurd h6 h⟩, ?_⟩
    · unfold Format.word
      have : single.signWeight = 2147483648 := s_sw
      rw [this]; simp; omega
    · rw [h5]
      unfold Format.word
      rw [d_sw8]; simp; omega
theorem sgC_code {x R : Nat} (hR : R ≤ 126) : (R + sgC x) % 128 = R ∧ (R + sgC x < 128 ↔ x < 2147483648) ∧ R + sgC x < 256 := by
  unfold sgC
  split <;> refine ⟨by omega, ?_, by omega⟩
  · exact ⟨fun _ => by assumption, fun _ => by omega⟩
  · exact ⟨fun h => by omega, fun h => by contradiction⟩
theorem ei_self {k c : Nat} (hk : k < 2) (hc : c < 256) (hr : c % 128 ≤ rTop k) : eR k (evW k c) + sgC (evW k c) = c ∧ Fin single (evW k c) ∧ evW k c < 4294967296 := by
  obtain ⟨h1, h2, h3, h4⟩ := ev_parts hk hr
  have ht := rTop_le k
  refine ⟨?_, h1, h2⟩
  have hz : szD (evW k c) = rVal k (c % 128) := by
    unfold szD
    rw [h4, ← d_sw8]
    exact word_mod double _ (Nat.lt_trans (R1_lt (rVal_R1 hk (by omega))) double.infRung_lt)
  unfold eR
  rw [if_pos (finB_of_fin h1), hz, rest_self hk hr]
  unfold sgC
  by_cases h : c < 128
  · rw [if_pos (h3.2 h)]; omega
  · rw [if_neg (fun h5 => h (h3.1 h5))]; omega
theorem ei_sign {k x R : Nat} (hk : k < 2) (hx32 : x < 4294967296) (hR : R ≤ rTop k) : evW k (R + sgC x) / 2147483648 = x / 2147483648 ∧ R + sgC x < 256 ∧ (R + sgC x) % 128 ≤ rTop k := by
  have ht := rTop_le k
  obtain ⟨s1, s2, s3⟩ := sgC_code (x := x) (show R ≤ 126 by omega)
  have hr : (R + sgC x) % 128 ≤ rTop k := by rw [s1]; exact hR
  obtain ⟨-, h2, h3, -⟩ := ev_parts hk hr
  refine ⟨?_, s3, hr⟩
  rw [s2] at h3
  omega
theorem ei_near {k x c : Nat} (hk : k < 2) (hx : Fin single x) (hx32 : x < 4294967296) (hc : c < 256) (hr : c % 128 ≤ rTop k) :
    (FloatKind.f64.format.order (gapW (fcv .f32 x .f64) (fcv .f32 (evW k c) .f64)) (gapW (fcv .f32 x .f64) (fcv .f32 (evW k (eR k x + sgC x)) .f64)) == some .lt) = false := by
  have ht := rTop_le k
  have hR := eR_le k x
  have he : eR k x = eRest (szD x) k := by unfold eR; rw [if_pos (finB_of_fin hx)]
  obtain ⟨s1, s2, -⟩ := sgC_code (x := x) (show eR k x ≤ 126 by omega)
  obtain ⟨-, -, -, hv⟩ := ev_parts hk (show (eR k x + sgC x) % 128 ≤ rTop k by rw [s1]; exact hR)
  obtain ⟨-, -, -, hy⟩ := ev_parts hk hr
  obtain ⟨s, q, w1, w2, w3, w4⟩ := wide_parts hx
  have hsg : (!decide (eR k x + sgC x < 128)) = s := by
    by_cases h : x < 2147483648
    · rw [decide_eq_true (s2.2 h), w4.2 h]; rfl
    · rw [decide_eq_false (fun h5 => h (s2.1 h5))]
      cases s
      · exact absurd (w4.1 rfl) h
      · rfl
  rw [s1, hsg] at hv
  rw [w3] at he
  rw [w1, hv, hy]
  obtain ⟨t, htt⟩ : ∃ t, t = !decide (c < 128) := ⟨_, rfl⟩
  rw [← htt]
  have bR := rVal_R1 hk (show eR k x ≤ 126 by omega)
  have bY := rVal_R1 hk (show c % 128 ≤ 126 by omega)
  obtain ⟨o1, ρ, g1, m1, l1⟩ := gapW_rung (s := s) (t := t) w2 bY
  obtain ⟨o2, σ, g2, m2, l2⟩ := gapW_rung (s := s) (t := s) w2 bR
  have c1 := gapW_sign w2 bY g1 l1
  have c2 := gapW_sign w2 bR g2 l2
  rw [g1, g2]
  refine gap_not_lt l1 l2 c1 c2 ?_
  have same : ∀ (u : Bool) (p : Nat), rabs (un u q - un u p) = rabs (un false q - un false p) := by
    intro u p
    unfold un sg
    cases u
    · rfl
    · simp
      unfold rabs
      split <;> split <;> grind
  have hσ : σ = gD q (rVal k (eR k x)) := by
    rw [same] at m2
    exact m2.unique (gD_rung w2 bR).1
  have hmin : ∀ r, r ≤ rTop k → σ ≤ gD q (rVal k r) := by
    intro r hr'
    rw [hσ, he]
    exact rest_min hk w2 hr'
  by_cases hst : t = s
  · subst hst
    rw [same] at m1
    have := m1.unique (gD_rung w2 bY).1
    rw [this]
    exact hmin _ hr
  · have h0 := hmin 0 (Nat.zero_le _)
    refine Nat.le_trans h0 ?_
    refine (gD_rung w2 (rVal_R1 hk (Nat.zero_le _))).1.mono m1 ?_
    rw [rVal_zero k hk]
    have z1 : (0 : Rat) ≤ (nval double q : Rat) := Rat.natCast_nonneg
    have z2 : (0 : Rat) ≤ (nval double (rVal k (c % 128)) : Rat) := Rat.natCast_nonneg
    have z3 : ((nval double 0 : Nat) : Rat) = 0 := by rw [nval_zero]; rfl
    generalize (nval double (rVal k (c % 128)) : Rat) = P at *
    rw [un_false, un_false, z3, rabs_pos (by grind)]
    have e1 : rabs (un s q - un t (rVal k (c % 128))) = (nval double q : Rat) + (nval double (rVal k (c % 128)) : Rat) := by
      have z2 : (0 : Rat) ≤ (nval double (rVal k (c % 128)) : Rat) := Rat.natCast_nonneg
      unfold un sg
      cases s <;> cases t <;> simp at hst ⊢
      · rw [rabs_pos (by grind)]; grind
      · rw [rabs_neg (by grind)]; grind
    rw [e1]
    have z2 : (0 : Rat) ≤ (nval double (rVal k (c % 128)) : Rat) := Rat.natCast_nonneg
    grind
end Go.Proofs.Ytnhikdjljjemlaa
/- The gap of two numbers. No condition. -/
namespace Go.Proofs.Ytnhikdjljjemlaa
open Go Go.RowKit Ieee
set_option linter.unusedVariables false
set_option linter.unusedSimpArgs false
theorem b10_gap8 (a b : Nat) (w : World) : Calls Try.prog 23 #[.float .f64 a, .float .f64 b] w fun e w' => ∃ r, e = .returned (.float .f64 r) ∧ Hid (cn .f64 r = gapW (cn .f64 a) (cn .f64 b)) ∧ Dr w w' := by
  have hg : gapW (cn .f64 a) (cn .f64 b) = if FloatKind.f64.format.order a b = some .lt then fop .sub .f64 (cn .f64 b) (cn .f64 a) else fop .sub .f64 (cn .f64 a) (cn .f64 b) := by
    unfold gapW; rw [order_cn]
  rw [hg]
  by_cases h : FloatKind.f64.format.order a b = some .lt
  · rw [if_pos h]
    clear hg
    go_enter Try.func23, Try.ntmps23
    go_wp2
    go_ret
    exact ⟨_, rfl, Lib.hid (cn_fbits _ _ _ _ _), (Dr.refl _).drewN _⟩
  · rw [if_neg h]
    have h2 : (FloatKind.f64.format.order a b == some .lt) = false := by simpa using h
    clear hg h
    go_enter Try.func23, Try.ntmps23
    go_wp2
    go_ret
    exact ⟨_, rfl, Lib.hid (cn_fbits _ _ _ _ _), (Dr.refl _).drewN _⟩

theorem order_none8 {x : Nat} (h : isN .f32 x = true) : (FloatKind.f32.format.order x x == some .eq) = false ∧ (FloatKind.f32.format.order x x != some .eq) = true := by
  rw [← order_cn (k := .f32) x x, cn_nan h]
  exact ⟨by decide +kernel, by decide +kernel⟩
theorem order_self8 {x : Nat} (hx : x < 4294967296) (h : isN .f32 x = false) : FloatKind.f32.format.order x x = some .eq := by
  by_cases hf : Fin single x
  · exact (order_val (k := .f32) hf hf).2.2.2 rfl
  · rcases inf_cases hx h hf with rfl | rfl <;> decide +kernel
end Go.Proofs.Ytnhikdjljjemlaa
/- The law of the codes in 8 bits, walked. No condition. -/
namespace Go.Proofs.Ytnhikdjljjemlaa
open Go Go.RowKit Ieee
set_option linter.unusedVariables false
set_option linter.unusedSimpArgs false
set_option maxHeartbeats 16000000 in
set_option maxRecDepth 100000 in
theorem fnEights_walk (w : World) (a0 : Option Addr) (c0 : Nat) (l0 : List Int) (A0 : Ints .u8 w a0 c0 l0) (a1 : Option Addr) (c1 : Nat) (l1 : List Int) (A1 : Ints .u8 w a1 c1 l1) :
    Calls Try.prog 4 #[.slice a0 l0.length c0, .slice a1 l1.length c1] w fun e w' => e = .returned (.bool true) ∧ Below w.heap.size w w' := by
  by_cases hlong : l0.length ≤ 1048576 ∧ l1.length ≤ 1048576
  rotate_left
  · go_enter Try.func4, Try.ntmps4
    go_wp2_with fail
    refine (b10Long_yes _ _ _ _ _ _ _ hlong).mono ?_
    rintro e w1 ⟨rfl, rfl⟩
    go_wp2
    go_ret
    exact ⟨rfl, Below.refl _ _⟩
  obtain ⟨hl0, hl1⟩ := hlong
  have AA0 := Lib.hid A0; have AA1 := Lib.hid A1
  clear A0 A1
  go_enter Try.func4, Try.ntmps4
  go_wp2_with fail
  refine (b10Long_no _ _ _ _ _ _ _ hl0 hl1).mono ?_
  rintro e w1 ⟨rfl, rfl⟩
  clear hl0 hl1
  go_wp2_with fail
  refine (b10At_any _ _ _ _ AA0.out 0 2 (by decide) (by decide) (by decide) (by decide)).mono ?_
  rintro e w1 ⟨k, rfl, hk, rfl⟩
  have hk2 : k < 2 := by omega
  clear hk
  go_wp2_with fail
  refine (b10_number _ _ _ _ AA1.out).mono ?_
  rintro e w1 ⟨x1, rfl, hx1, hb1⟩
  have B := Lib.hid hb1; clear hb1
  go_wp2_with fail
  refine (b10At_any _ _ _ _ (AA0.out.below B.out) 1 3 (by decide) (by decide) (by decide) (by decide)).mono ?_
  rintro e w2 ⟨t, rfl, ht, rfl⟩
  clear ht
  by_cases ht : t = 0
  · have ht0 : ¬ (0 < (t : Int)) := by omega
    clear ht
    obtain ⟨x, hxx⟩ : ∃ x, x = x1 := ⟨_, rfl⟩
    subst hxx
    have hx := hx1
    clear hx1
    by_cases hn : isN .f32 x = true
    · obtain ⟨o1, o2⟩ := order_none8 hn
      have K1 := Lib.hid (fun W => impl_EightOf_nan k hk2 x o1 W)
      clear hn
      go_wp2_with fail
      refine (K1.out _).mono ?_
      rintro e w4 ⟨rfl, hd⟩
      have HD := Lib.hid hd; clear hd
      go_wp2
      go_ret
      exact ⟨rfl, bthen B.out HD.out.below⟩
    · have hn : isN .f32 x = false := by simpa using hn
      have oe := order_self8 hx hn
      have K1 := Lib.hid (fun W => impl_EightOf_num k hk2 x hx hn W)
      obtain ⟨s1, s2, s3⟩ := ei_sign (x := x) hk2 hx (eR_le k x)
      have cx := cn_not hn
      have NR := Lib.hid (fun (hf : Fin single x) (c' : Nat) (h1 : c' < 256) (h2 : c' % 128 ≤ rTop k) => ei_near hk2 hf hx h1 h2)
      obtain ⟨c, hc⟩ : ∃ c, c = eR k x + sgC x := ⟨_, rfl⟩
      rw [← hc] at K1 s1 s2 s3 NR
      obtain ⟨-, fv, v32⟩ := ei_self hk2 s2 s3
      have K2 := Lib.hid (fun W => impl_EightValue k hk2 c s2 W)
      have KX := Lib.hid (fun W => spec_BitsOf x hx W)
      rw [cx] at KX
      have S3 := Lib.hid s3
      have CN := Lib.hid (Fin.not (k := .f32) fv)
      obtain ⟨v, hv⟩ : ∃ v, v = evW k c := ⟨_, rfl⟩
      rw [← hv] at s1 fv v32 NR CN
      have HV := Lib.hid hv; have FV := Lib.hid fv
      have kv := fun W => spec_BitsOf v v32 W
      rw [cn_not CN.out] at kv
      have KV := Lib.hid kv
      have kf := fun W => impl_IsFinite v W
      rw [finB_of_fin fv] at kf
      have KF := Lib.hid kf
      have hdv : (v : Int) / 2147483648 = (x : Int) / 2147483648 := by omega
      have HX := Lib.hid hx
      clear hn cx hc s3 hv fv kv kf s1 v32 hx
      go_wp2_with fail
      refine (K1.out _).mono ?_
      rintro e w4 ⟨rfl, hd⟩
      have B := Lib.hid (bthen B.out hd.below); clear hd
      go_wp2_with fail
      refine (K2.out _).mono ?_
      rintro e w5 ⟨v', rfl, hv', hd⟩
      have B := Lib.hid (bthen B.out hd.below); clear hd
      obtain rfl : v = v' := HV.out.trans (hv'.out.2.1 S3.out).symm
      clear hv'
      go_wp2_with fail
      refine (KF.out _).mono ?_
      rintro e w6 ⟨rfl, hd⟩
      have B := Lib.hid (bthen B.out hd.below); clear hd
      go_wp2_with fail
      refine (KV.out _).mono ?_
      rintro e w7 ⟨rfl, rfl⟩
      go_wp2_with fail
      refine (KX.out _).mono ?_
      rintro e w7 ⟨rfl, rfl⟩
      go_wp2
      go_loopw [11, 12, 13, 14, 15] (fun i _ _ _ _ wt => ∃ n : Nat, i = .int .i64 n ∧ n ≤ 256 ∧ Dr w6 wt) (fun i _ _ _ _ _ => 256 - (intOf i).toNat)
      case atStart => exact ⟨0, rfl, by omega, Dr.refl _⟩
      case round =>
        clear hdv KV KX KF K1 K2
        obtain ⟨n, rfl, hn, hd⟩ := hrel
        have HD := Lib.hid hd; clear hd
        by_cases hlt : n < 256
        · have K2 := Lib.hid (fun W => impl_EightValue k hk2 n hlt W)
          go_wp2_with fail
          refine (K2.out _).mono ?_
          rintro e w8 ⟨y, rfl, hy, hd⟩
          have HD8 := Lib.hid (HD.out.trans hd); clear hd K2
          by_cases hr : n % 128 ≤ rTop k
          · obtain ⟨e1, e2, e3⟩ := ei_self hk2 hlt hr
            have he := hy.out.2.1 hr
            have nr := NR.out
            rw [← he] at e1 e2 e3
            have nr2 := fun hf => NR.out hf n hlt hr
            rw [← he] at nr2
            have k3 := fun W => impl_EightOf_num k hk2 y e3 (Fin.not (k := .f32) e2) W
            rw [e1] at k3
            have kf := fun W => spec_IsFinite y W
            rw [finB_of_fin e2] at kf
            have K3 := Lib.hid k3; have KF := Lib.hid kf; have E2 := Lib.hid e2; have N2 := Lib.hid nr2
            have kx := fun W => spec_IsFinite x W
            clear e1 e2 e3 he k3 kf nr nr2 hr hy
            go_wp2_with fail
            refine (KF.out _).mono ?_
            rintro e w9 ⟨rfl, hd⟩
            have HD9 := Lib.hid (HD8.out.trans hd); clear hd
            go_wp2_with fail
            refine (K3.out _).mono ?_
            rintro e w10 ⟨rfl, hd⟩
            have HD10 := Lib.hid (HD9.out.trans hd); clear hd
            cases hfx : finB x
            · rw [hfx] at kx
              have KX := Lib.hid kx
              clear kx hfx
              go_wp2_with fail
              refine (KX.out _).mono ?_
              rintro e w11 ⟨rfl, hd⟩
              have HD11 := Lib.hid (HD10.out.trans hd); clear hd
              go_wp2
              refine ⟨?rel, ?measure⟩
              case rel => exact ⟨n + 1, by go_num, hlt, HD11.out⟩
              case measure => simp [intOf]; omega
            · rw [hfx] at kx
              have KX := Lib.hid kx
              have fx := fin_of_finB HX.out hfx
              have hno := N2.out fx
              have cw1 := cv_fin8 fx
              have cw2 := cv_fin8 E2.out
              have cw3 := cv_fin8 FV.out
              have nx := Fin.not (k := .f64) (wide_val fx).1
              have ny := Fin.not (k := .f64) (wide_val E2.out).1
              have nv := Fin.not (k := .f64) (wide_val FV.out).1
              have g1 := fun W => b10_gap8 (fcv .f32 x .f64) (fcv .f32 y .f64) W
              have g2 := fun W => b10_gap8 (fcv .f32 x .f64) (fcv .f32 v .f64) W
              rw [cn_not nx, cn_not ny] at g1
              rw [cn_not nx, cn_not nv] at g2
              obtain ⟨G1, hG1⟩ : ∃ G, G = gapW (fcv .f32 x .f64) (fcv .f32 y .f64) := ⟨_, rfl⟩
              obtain ⟨G2, hG2⟩ : ∃ G, G = gapW (fcv .f32 x .f64) (fcv .f32 v .f64) := ⟨_, rfl⟩
              rw [← hG1] at g1 hno
              rw [← hG2] at g2 hno
              obtain ⟨X, hX⟩ : ∃ X, X = fcv .f32 x .f64 := ⟨_, rfl⟩
              obtain ⟨Y, hY⟩ : ∃ Y, Y = fcv .f32 y .f64 := ⟨_, rfl⟩
              obtain ⟨V, hV⟩ : ∃ V, V = fcv .f32 v .f64 := ⟨_, rfl⟩
              rw [← hX] at cw1 g1 g2
              rw [← hY] at cw2 g1
              rw [← hV] at cw3 g2
              have GG1 := Lib.hid g1; have GG2 := Lib.hid g2; have HNO := Lib.hid hno
              clear kx hfx fx hno nx ny nv g1 g2 hG1 hG2 hX hY hV
              go_wp2_with fail
              refine (KX.out _).mono ?_
              rintro e w11 ⟨rfl, hd⟩
              have HD11 := Lib.hid (HD10.out.trans hd); clear hd
              go_wp2_with fail
              refine (GG1.out _).mono ?_
              rintro e w12 ⟨r1, rfl, hr1, hd⟩
              have HD12 := Lib.hid hd; clear hd
              go_wp2_with fail
              refine (GG2.out _).mono ?_
              rintro e w13 ⟨r2, rfl, hr2, hd⟩
              have HD13 := Lib.hid hd; clear hd
              have hlt2 : (FloatKind.f64.format.order r1 r2 == some .lt) = false := by
                rw [← order_cn .f64 r1 r2, hr1.out, hr2.out]; exact HNO.out
              have hd12 : Dr w11 w12 := by obtain ⟨q, hq⟩ := HD12.out; exact ⟨_, by rw [hq]; simp only [World.drewN_drewN]; rfl⟩
              have hd13 : Dr w12 w13 := by obtain ⟨q, hq⟩ := HD13.out; exact ⟨_, by rw [hq]; simp only [World.drewN_drewN]; rfl⟩
              have HD14 := Lib.hid ((HD11.out.trans hd12).trans hd13)
              clear hr1 hr2 hd12 hd13 cw1 cw2 cw3
              go_wp2
              refine ⟨?rel, ?measure⟩
              case rel => exact ⟨n + 1, by go_num, hlt, HD14.out⟩
              case measure => simp [intOf]; omega
          · have nf := hy.out.2.2 (by omega)
            have y32 := hy.out.1
            have hfy : finB y = false := by
              cases h : finB y
              · rfl
              · exact absurd (fin_of_finB y32 h) nf
            have kf := fun W => spec_IsFinite y W
            rw [hfy] at kf
            have KF := Lib.hid kf
            clear kf hfy nf y32 hy hr
            go_wp2_with fail
            refine (KF.out _).mono ?_
            rintro e w9 ⟨rfl, hd⟩
            have HD9 := Lib.hid (HD8.out.trans hd); clear hd
            go_wp2
            refine ⟨?rel, ?measure⟩
            case rel => exact ⟨n + 1, by go_num, hlt, HD9.out⟩
            case measure => simp [intOf]; omega
        · go_wp2
          go_ret
          exact ⟨rfl, bthen B.out HD.out.below⟩
  · have ht0 : (0 : Int) < (t : Int) := by omega
    clear ht
    go_wp2_with fail
    refine (b10_plain _ _ _ _ (AA1.out.below B.out)).mono ?_
    rintro e w3 ⟨x, rfl, hx, hb⟩
    have hx := isPl_lt hx.out
    have B := Lib.hid (bthen B.out hb); clear hb hx1
    by_cases hn : isN .f32 x = true
    · obtain ⟨o1, o2⟩ := order_none8 hn
      have K1 := Lib.hid (fun W => impl_EightOf_nan k hk2 x o1 W)
      clear hn
      go_wp2_with fail
      refine (K1.out _).mono ?_
      rintro e w4 ⟨rfl, hd⟩
      have HD := Lib.hid hd; clear hd
      go_wp2
      go_ret
      exact ⟨rfl, bthen B.out HD.out.below⟩
    · have hn : isN .f32 x = false := by simpa using hn
      have oe := order_self8 hx hn
      have K1 := Lib.hid (fun W => impl_EightOf_num k hk2 x hx hn W)
      obtain ⟨s1, s2, s3⟩ := ei_sign (x := x) hk2 hx (eR_le k x)
      have cx := cn_not hn
      have NR := Lib.hid (fun (hf : Fin single x) (c' : Nat) (h1 : c' < 256) (h2 : c' % 128 ≤ rTop k) => ei_near hk2 hf hx h1 h2)
      obtain ⟨c, hc⟩ : ∃ c, c = eR k x + sgC x := ⟨_, rfl⟩
      rw [← hc] at K1 s1 s2 s3 NR
      obtain ⟨-, fv, v32⟩ := ei_self hk2 s2 s3
      have K2 := Lib.hid (fun W => impl_EightValue k hk2 c s2 W)
      have KX := Lib.hid (fun W => spec_BitsOf x hx W)
      rw [cx] at KX
      have S3 := Lib.hid s3
      have CN := Lib.hid (Fin.not (k := .f32) fv)
      obtain ⟨v, hv⟩ : ∃ v, v = evW k c := ⟨_, rfl⟩
      rw [← hv] at s1 fv v32 NR CN
      have HV := Lib.hid hv; have FV := Lib.hid fv
      have kv := fun W => spec_BitsOf v v32 W
      rw [cn_not CN.out] at kv
      have KV := Lib.hid kv
      have kf := fun W => impl_IsFinite v W
      rw [finB_of_fin fv] at kf
      have KF := Lib.hid kf
      have hdv : (v : Int) / 2147483648 = (x : Int) / 2147483648 := by omega
      have HX := Lib.hid hx
      clear hn cx hc s3 hv fv kv kf s1 v32 hx
      go_wp2_with fail
      refine (K1.out _).mono ?_
      rintro e w4 ⟨rfl, hd⟩
      have B := Lib.hid (bthen B.out hd.below); clear hd
      go_wp2_with fail
      refine (K2.out _).mono ?_
      rintro e w5 ⟨v', rfl, hv', hd⟩
      have B := Lib.hid (bthen B.out hd.below); clear hd
      obtain rfl : v = v' := HV.out.trans (hv'.out.2.1 S3.out).symm
      clear hv'
      go_wp2_with fail
      refine (KF.out _).mono ?_
      rintro e w6 ⟨rfl, hd⟩
      have B := Lib.hid (bthen B.out hd.below); clear hd
      go_wp2_with fail
      refine (KV.out _).mono ?_
      rintro e w7 ⟨rfl, rfl⟩
      go_wp2_with fail
      refine (KX.out _).mono ?_
      rintro e w7 ⟨rfl, rfl⟩
      go_wp2
      go_loopw [11, 12, 13, 14, 15] (fun i _ _ _ _ wt => ∃ n : Nat, i = .int .i64 n ∧ n ≤ 256 ∧ Dr w6 wt) (fun i _ _ _ _ _ => 256 - (intOf i).toNat)
      case atStart => exact ⟨0, rfl, by omega, Dr.refl _⟩
      case round =>
        clear hdv KV KX KF K1 K2
        obtain ⟨n, rfl, hn, hd⟩ := hrel
        have HD := Lib.hid hd; clear hd
        by_cases hlt : n < 256
        · have K2 := Lib.hid (fun W => impl_EightValue k hk2 n hlt W)
          go_wp2_with fail
          refine (K2.out _).mono ?_
          rintro e w8 ⟨y, rfl, hy, hd⟩
          have HD8 := Lib.hid (HD.out.trans hd); clear hd K2
          by_cases hr : n % 128 ≤ rTop k
          · obtain ⟨e1, e2, e3⟩ := ei_self hk2 hlt hr
            have he := hy.out.2.1 hr
            have nr := NR.out
            rw [← he] at e1 e2 e3
            have nr2 := fun hf => NR.out hf n hlt hr
            rw [← he] at nr2
            have k3 := fun W => impl_EightOf_num k hk2 y e3 (Fin.not (k := .f32) e2) W
            rw [e1] at k3
            have kf := fun W => spec_IsFinite y W
            rw [finB_of_fin e2] at kf
            have K3 := Lib.hid k3; have KF := Lib.hid kf; have E2 := Lib.hid e2; have N2 := Lib.hid nr2
            have kx := fun W => spec_IsFinite x W
            clear e1 e2 e3 he k3 kf nr nr2 hr hy
            go_wp2_with fail
            refine (KF.out _).mono ?_
            rintro e w9 ⟨rfl, hd⟩
            have HD9 := Lib.hid (HD8.out.trans hd); clear hd
            go_wp2_with fail
            refine (K3.out _).mono ?_
            rintro e w10 ⟨rfl, hd⟩
            have HD10 := Lib.hid (HD9.out.trans hd); clear hd
            cases hfx : finB x
            · rw [hfx] at kx
              have KX := Lib.hid kx
              clear kx hfx
              go_wp2_with fail
              refine (KX.out _).mono ?_
              rintro e w11 ⟨rfl, hd⟩
              have HD11 := Lib.hid (HD10.out.trans hd); clear hd
              go_wp2
              refine ⟨?rel, ?measure⟩
              case rel => exact ⟨n + 1, by go_num, hlt, HD11.out⟩
              case measure => simp [intOf]; omega
            · rw [hfx] at kx
              have KX := Lib.hid kx
              have fx := fin_of_finB HX.out hfx
              have hno := N2.out fx
              have cw1 := cv_fin8 fx
              have cw2 := cv_fin8 E2.out
              have cw3 := cv_fin8 FV.out
              have nx := Fin.not (k := .f64) (wide_val fx).1
              have ny := Fin.not (k := .f64) (wide_val E2.out).1
              have nv := Fin.not (k := .f64) (wide_val FV.out).1
              have g1 := fun W => b10_gap8 (fcv .f32 x .f64) (fcv .f32 y .f64) W
              have g2 := fun W => b10_gap8 (fcv .f32 x .f64) (fcv .f32 v .f64) W
              rw [cn_not nx, cn_not ny] at g1
              rw [cn_not nx, cn_not nv] at g2
              obtain ⟨G1, hG1⟩ : ∃ G, G = gapW (fcv .f32 x .f64) (fcv .f32 y .f64) := ⟨_, rfl⟩
              obtain ⟨G2, hG2⟩ : ∃ G, G = gapW (fcv .f32 x .f64) (fcv .f32 v .f64) := ⟨_, rfl⟩
              rw [← hG1] at g1 hno
              rw [← hG2] at g2 hno
              obtain ⟨X, hX⟩ : ∃ X, X = fcv .f32 x .f64 := ⟨_, rfl⟩
              obtain ⟨Y, hY⟩ : ∃ Y, Y = fcv .f32 y .f64 := ⟨_, rfl⟩
              obtain ⟨V, hV⟩ : ∃ V, V = fcv .f32 v .f64 := ⟨_, rfl⟩
              rw [← hX] at cw1 g1 g2
              rw [← hY] at cw2 g1
              rw [← hV] at cw3 g2
              have GG1 := Lib.hid g1; have GG2 := Lib.hid g2; have HNO := Lib.hid hno
              clear kx hfx fx hno nx ny nv g1 g2 hG1 hG2 hX hY hV
              go_wp2_with fail
              refine (KX.out _).mono ?_
              rintro e w11 ⟨rfl, hd⟩
              have HD11 := Lib.hid (HD10.out.trans hd); clear hd
              go_wp2_with fail
              refine (GG1.out _).mono ?_
              rintro e w12 ⟨r1, rfl, hr1, hd⟩
              have HD12 := Lib.hid hd; clear hd
              go_wp2_with fail
              refine (GG2.out _).mono ?_
              rintro e w13 ⟨r2, rfl, hr2, hd⟩
              have HD13 := Lib.hid hd; clear hd
              have hlt2 : (FloatKind.f64.format.order r1 r2 == some .lt) = false := by
                rw [← order_cn .f64 r1 r2, hr1.out, hr2.out]; exact HNO.out
              have hd12 : Dr w11 w12 := by obtain ⟨q, hq⟩ := HD12.out; exact ⟨_, by rw [hq]; simp only [World.drewN_drewN]; rfl⟩
              have hd13 : Dr w12 w13 := by obtain ⟨q, hq⟩ := HD13.out; exact ⟨_, by rw [hq]; simp only [World.drewN_drewN]; rfl⟩
              have HD14 := Lib.hid ((HD11.out.trans hd12).trans hd13)
              clear hr1 hr2 hd12 hd13 cw1 cw2 cw3
              go_wp2
              refine ⟨?rel, ?measure⟩
              case rel => exact ⟨n + 1, by go_num, hlt, HD14.out⟩
              case measure => simp [intOf]; omega
          · have nf := hy.out.2.2 (by omega)
            have y32 := hy.out.1
            have hfy : finB y = false := by
              cases h : finB y
              · rfl
              · exact absurd (fin_of_finB y32 h) nf
            have kf := fun W => spec_IsFinite y W
            rw [hfy] at kf
            have KF := Lib.hid kf
            clear kf hfy nf y32 hy hr
            go_wp2_with fail
            refine (KF.out _).mono ?_
            rintro e w9 ⟨rfl, hd⟩
            have HD9 := Lib.hid (HD8.out.trans hd); clear hd
            go_wp2
            refine ⟨?rel, ?measure⟩
            case rel => exact ⟨n + 1, by go_num, hlt, HD9.out⟩
            case measure => simp [intOf]; omega
        · go_wp2
          go_ret
          exact ⟨rfl, bthen B.out HD.out.below⟩
end Go.Proofs.Ytnhikdjljjemlaa
