/- Plain laws of the loss of a label: what is not greater, its exponential function, their sum. No condition. -/
import Derived.Test.YtaocilimggpdjaaLo4
import Derived.Test.YtaocilimggpdjaaGreat
import Derived.Test.YtaocilimggpdjaaKey
import Derived.Test.YtaocilimggpdjaaLst
namespace Go.Proofs.Ytaocilimggpdjaa
open Go Ieee
set_option linter.unusedVariables false
set_option linter.unusedSimpArgs false
def NI : Nat := 4286578688
theorem order_NI : FloatKind.f32.format.order NI 0 = some .lt := by decide +kernel
theorem zero_fin : Fin single 0 ∧ val single 0 = 0 := ⟨⟨false, 0, rfl, by rw [s_ir]; decide⟩, by
  have h := val_word single false (r := 0) (by rw [s_ir]; decide)
  have e : single.word false 0 = 0 := rfl
  rw [e] at h
  rw [h, nval_zero]; simp⟩
/-- what is taken from a number that is not less, is not positive -/
theorem sub_le {a m : Nat} (h : FloatKind.f32.format.order a m ≠ some .gt) : FloatKind.f32.format.order (fop .sub .f32 a m) 0 ≠ some .gt := by
  have hs : floatBits .sub .f32 a m = ((single.read a).sum (single.read m).opposite).map single.write := rfl
  have ho : FloatKind.f32.format.order a m = (single.read a).order (single.read m) := rfl
  have hnan : floatBits .sub .f32 a m = none → FloatKind.f32.format.order (fop .sub .f32 a m) 0 ≠ some .gt := by
    intro e
    unfold fop
    rw [e]
    have : FloatKind.f32.format.order (nanOf .f32) 0 = none := order_none (.inl (isN_nanOf _))
    show FloatKind.f32.format.order (nanOf .f32) 0 ≠ _
    rw [this]; decide
  have hinf : floatBits .sub .f32 a m = some NI → FloatKind.f32.format.order (fop .sub .f32 a m) 0 ≠ some .gt := by
    intro e
    rw [fop_some e, order_NI]; decide
  have hw : single.write (.infinity true) = NI := by decide +kernel
  rw [ho] at h
  cases ha : single.read a with
  | nan s t => exact hnan (by rw [hs, ha]; rfl)
  | infinity s =>
    cases hm : single.read m with
    | nan s t => exact hnan (by rw [hs, ha, hm]; cases s <;> rfl)
    | infinity t =>
      rw [ha, hm] at h
      cases s <;> cases t
      · exact hnan (by rw [hs, ha, hm]; rfl)
      · exact absurd rfl h
      · exact hinf (by rw [hs, ha, hm, ← hw]; rfl)
      · exact hnan (by rw [hs, ha, hm]; rfl)
    | number t n q =>
      rw [ha, hm] at h
      cases s
      · exact absurd rfl h
      · exact hinf (by rw [hs, ha, hm, ← hw]; rfl)
  | number s n q =>
    cases hm : single.read m with
    | nan s t => exact hnan (by rw [hs, ha, hm]; rfl)
    | infinity t =>
      rw [ha, hm] at h
      cases t
      · exact hinf (by rw [hs, ha, hm, ← hw]; rfl)
      · exact absurd rfl h
    | number t n2 q2 =>
      rw [ha, hm] at h
      have hv : num s n q ≤ num t n2 q2 := by
        have := order_num s t n n2 q q2
        rcases rat_tri (num s n q) (num t n2 q2) with h1 | h1 | h1
        · grind
        · grind
        · exact absurd (this.2.1.2 h1) h
      obtain ⟨u, M, P, h5, h6⟩ := sum_num s (!t) n n2 q q2
      have hb : floatBits .sub .f32 a m = some (single.write (.number u M P)) := by
        rw [hs, ha, hm]
        show ((Datum.number s n q).sum (.number (!t) n2 q2)).map _ = _
        rw [h5]; rfl
      rw [fop_some hb]
      have hle : num u M P ≤ 0 := by rw [h6, num_neg]; grind
      obtain ⟨r, hr1, hr2⟩ := near_mid single (by decide) u M P
      have hn := near_num single (by decide) u M P
      intro hgt
      obtain ⟨s', r', e1, hmid, hs1, hs2⟩ := hn
      have ew : single.write (.number u M P) = single.nearest u M P := rfl
      rw [ew, e1] at hgt
      have hr' := hmid.le
      rcases Nat.lt_or_eq_of_le hr' with hlt | heq
      · have hf : Fin single (single.word s' r') := ⟨s', r', rfl, hlt⟩
        have hpos := (order_val (k := .f32) hf zero_fin.1).2.1.1 hgt
        have hpos2 : (0 : Rat) < val single (single.word s' r') := by have h0 := zero_fin.2; rw [← h0]; exact hpos
        rw [val_word single s' hlt] at hpos2
        have hz : (0 : Rat) ≤ (nval single r' : Rat) * (2 : Rat) ^ single.leastPlace := Rat.mul_nonneg Rat.natCast_nonneg (Rat.le_of_lt (pw_pos _))
        rcases rat_tri (num u M P) 0 with h1 | h1 | h1
        · rw [hs1 h1] at hpos2; unfold sg at hpos2; simp at hpos2; grind
        · rw [h1] at hmid
          have hm0 : Mid single ((nval single 0 : Nat) : Rat) 0 := Mid.exact (Nat.zero_le _)
          have e0 : rabs (0 : Rat) * (2 : Rat) ^ (-single.leastPlace) = ((nval single 0 : Nat) : Rat) := by rw [rabs_pos Rat.le_refl, nval_zero]; simp
          rw [e0] at hmid
          have := hmid.unique hm0
          rw [this, nval_zero] at hpos2
          simp at hpos2
        · grind
      · subst heq
        have hne : num u M P ≠ 0 := by
          intro h1
          rw [h1] at hmid
          have hm0 : Mid single ((nval single 0 : Nat) : Rat) 0 := Mid.exact (Nat.zero_le _)
          have e0 : rabs (0 : Rat) * (2 : Rat) ^ (-single.leastPlace) = ((nval single 0 : Nat) : Rat) := by rw [rabs_pos Rat.le_refl, nval_zero]; simp
          rw [e0] at hmid
          have := hmid.unique hm0
          rw [s_ir] at this
          omega
        rw [hs1 (by grind)] at hgt
        revert hgt
        decide +kernel
theorem nan_word_of {x : Nat} (hx : x < 4294967296) : isN .f32 x = true ∨ x = 2139095040 ∨ x = NI ∨ Fin single x := by
  obtain ⟨s, r, e, hr⟩ := word_of single (x := x) (by rw [s_sw]; omega)
  subst e
  rcases Nat.lt_trichotomy r single.infRung with h1 | h1 | h1
  · exact .inr (.inr (.inr ⟨s, r, rfl, h1⟩))
  · subst h1
    cases s
    · exact .inr (.inl (by decide +kernel))
    · exact .inr (.inr (.inl (by decide +kernel)))
  · exact .inl (nan_word single single_binade s h1 hr)
/-- the exponential function of what is not positive -/
theorem exp_le {d : Nat} (hd : d < 4294967296) (h : FloatKind.f32.format.order d 0 ≠ some .gt) : okExp d ∧ (isN .f32 (expF (cn .f32 d)) = true ∨ Btw .f32 0 1 (expF (cn .f32 d))) := by
  have b0 : Btw .f32 0 1 0 := by
    refine ⟨zero_fin.1, ?_, ?_⟩
    · show ((0 : Int) : Rat) ≤ val single 0
      rw [zero_fin.2]; decide +kernel
    · show val single 0 ≤ ((1 : Int) : Rat)
      rw [zero_fin.2]; decide +kernel
  rcases nan_word_of hd with hn | hn | hn | hf
  · refine ⟨⟨by rw [order_none (.inl hn)]; decide, fun _ => ?_⟩, .inl ?_⟩
    · rw [cn_nan hn]; decide +kernel
    · rw [cn_nan hn]; decide +kernel
  · subst hn; exact absurd (by decide +kernel) h
  · subst hn
    refine ⟨⟨by decide +kernel, fun h2 => absurd (by decide +kernel) h2⟩, .inr ?_⟩
    rw [expF_low (by decide +kernel)]; exact b0
  · have hn : isN .f32 d = false := Fin.not (k := .f32) hf
    have ho := order_val (k := .f32) hf zero_fin.1
    have hv : val single d ≤ 0 := by
      rcases rat_tri (val single d) 0 with h1 | h1 | h1
      · grind
      · grind
      · exact absurd (ho.2.1.2 (by show val single 0 < val single d; rw [zero_fin.2]; exact h1)) h
    have h200 : val single c200 = 200 := by unfold val; decide +kernel
    have hm200 : val single cm200 = -200 := by unfold val; decide +kernel
    have h1 : FloatKind.f32.format.order d c200 ≠ some .gt := by
      intro e
      have := (order_val (k := .f32) hf fin_c200).2.1.1 e
      have h3 : val single c200 < val single d := this
      rw [h200] at h3; grind
    by_cases hlt : FloatKind.f32.format.order d cm200 = some .lt
    · exact ⟨⟨h1, fun h2 => absurd hlt h2⟩, .inr (by rw [expF_low hlt]; exact b0)⟩
    · have hge : -200 ≤ val single d := by
        rcases rat_tri (val single d) (-200) with h3 | h3 | h3
        · exact absurd ((order_val (k := .f32) hf fin_cm200).1.2 (by show val single d < val single cm200; rw [hm200]; exact h3)) hlt
        · grind
        · grind
      have hw := wide_val hf
      have hb : Btw .f64 (-200) 0 (fcv .f32 d .f64) := by
        refine ⟨hw.1, ?_, ?_⟩
        · show ((-200 : Int) : Rat) ≤ val double _
          rw [hw.2]; exact hge
        · show val double _ ≤ ((0 : Int) : Rat)
          rw [hw.2]; exact hv
      have hn2 := (exp_btw hb).narrow (smallI_of (by decide) (by decide)) (smallI_of (by decide) (by decide))
      have hc : cn .f32 d = d := cn_not hn
      refine ⟨⟨h1, fun _ => by rw [hc]; exact hn2.1⟩, .inr ?_⟩
      rw [hc]; unfold expF; rw [if_neg hlt]; exact hn2.2
theorem okExp_of_cn {z : Nat} (h : okExp (cn .f32 z)) : okExp z := by
  obtain ⟨h1, h2⟩ := h
  rw [order_cnl _ _ (by decide +kernel)] at h1
  rw [order_cnl _ _ cn_cm200, cn_cn] at h2
  exact ⟨h1, h2⟩
/-- none is greater than the greatest one -/
theorem gBest_max {xs : List Nat} (hx : ∀ x ∈ xs, x < 4294967296) : ∀ k, k ≤ xs.length → ∀ i, i < k → gtF (xs.getD i 0) (xs.getD (gBest xs k) 0) = false
  | 0, _, i, hi => absurd hi (Nat.not_lt_zero _)
  | k + 1, hk, i, hi => by
    have hl : ∀ j, xs.getD j 0 < 4294967296 := by
      intro j
      by_cases hj : j < xs.length
      · rw [List.getD_eq_getElem?_getD, List.getElem?_eq_getElem hj]; exact hx _ (List.getElem_mem hj)
      · rw [List.getD_eq_getElem?_getD, List.getElem?_eq_none (by omega)]; decide
    have key : ∀ a b, a < 4294967296 → b < 4294967296 → (gtF a b = true ↔ isN .f32 a = false ∧ isN .f32 b = false ∧ kf b < kf a) := by
      intro a b ha hb
      unfold gtF
      cases na : isN .f32 a
      · cases nb : isN .f32 b
        · rw [order_key ha hb na nb]
          constructor
          · intro h
            have h2 : compare (kf a) (kf b) = .gt := by simpa using h
            exact ⟨rfl, rfl, (Int.compare_eq_gt.1 h2)⟩
          · intro h; rw [Int.compare_eq_gt.2 h.2.2]; rfl
        · rw [order_none (.inr nb)]; simp
      · rw [order_none (.inl na)]; simp
    unfold gBest
    by_cases hg : gtF (xs.getD k 0) (xs.getD (gBest xs k) 0) = true
    · rw [if_pos hg]
      rcases Nat.lt_or_eq_of_le (Nat.le_of_lt_succ hi) with h1 | h1
      · have ih := gBest_max hx k (by omega) i h1
        cases h3 : gtF (xs.getD i 0) (xs.getD k 0)
        · rfl
        · exfalso
          have e1 := (key _ _ (hl k) (hl _)).1 hg
          have e2 := (key _ _ (hl i) (hl k)).1 h3
          have : gtF (xs.getD i 0) (xs.getD (gBest xs k) 0) = true := (key _ _ (hl i) (hl _)).2 ⟨e2.1, e1.2.1, by omega⟩
          rw [this] at ih; cases ih
      · subst h1; exact gtF_self _
    · rw [if_neg hg]
      rcases Nat.lt_or_eq_of_le (Nat.le_of_lt_succ hi) with h1 | h1
      · exact gBest_max hx k (by omega) i h1
      · subst h1
        cases h3 : gtF (xs.getD i 0) (xs.getD (gBest xs i) 0)
        · rfl
        · exact absurd h3 hg
theorem fop_nan {op : BinOp} {k : FloatKind} {x y : Nat} (h : isN k x = true ∨ isN k y = true) : isN k (fop op k x y) = true := by
  unfold fop
  cases e : floatBits op k x y with
  | none => exact isN_nanOf k
  | some r =>
    obtain ⟨h1, h2, _⟩ := bits_not e
    rcases h with h | h
    · rw [h1] at h; cases h
    · rw [h2] at h; cases h
/-- a sum of numbers from 0 to 1, one of which is 1 or none -/
theorem sum_btw {E : List Nat} {b : Nat} (h : ∀ i, isN .f32 (E.getD i 0) = true ∨ Btw .f32 0 1 (E.getD i 0)) (hb : isN .f32 (E.getD b 0) = true ∨ E.getD b 0 = 1065353216) : ∀ k : Nat, k ≤ 1000 → isN .f32 (sumS E k) = true ∨ Btw .f32 (if b < k then 1 else 0) k (sumS E k)
  | 0, _ => .inr (by
    rw [if_neg (Nat.not_lt_zero _)]
    refine ⟨zero_fin.1, ?_, ?_⟩
    · show ((0 : Int) : Rat) ≤ val single 0
      rw [zero_fin.2]; decide +kernel
    · show val single 0 ≤ ((0 : Nat) : Int)
      rw [zero_fin.2]; decide +kernel)
  | k + 1, hk => by
    rcases sum_btw h hb k (by omega) with ih | ih
    · exact .inl (fop_nan (.inl ih))
    · rcases h k with hn | hn
      · exact .inl (fop_nan (.inr hn))
      · right
        by_cases hkb : b = k
        · subst hkb
          rcases hb with hb | hb
          · exfalso
            have := Fin.not (k := .f32) hn.fin
            rw [this] at hb; cases hb
          · rw [if_neg (Nat.lt_irrefl _)] at ih
            rw [if_pos (Nat.lt_succ_self _)]
            have h1 : Btw .f32 1 1 (E.getD b 0) := by
              have h2 := Btw.int (k := .f32) (n := 1) (smallI_of (by decide) (by decide))
              have e : floatOfInt .f32 1 = 1065353216 := by decide +kernel
              rw [e] at h2; rw [hb]; exact h2
            exact (Btw.add ih h1 (smallI_of (by omega) (by omega)) (smallI_of (by omega) (by omega))).mono (by omega) (by omega)
        · have e : (if b < k + 1 then (1 : Int) else 0) = if b < k then 1 else 0 := by
            by_cases hlt : b < k
            · rw [if_pos hlt, if_pos (by omega)]
            · rw [if_neg hlt, if_neg (by omega)]
          rw [e]
          have ha := Btw.add ih hn (by split <;> exact smallI_of (by omega) (by omega)) (smallI_of (by omega) (by omega))
          exact ha.mono (by split <;> omega) (by omega)
/-- the least value 1 makes a logarithm's argument -/
theorem logIn_of {z s : Nat} {c : Int} (hz : cn .f32 z = s) (h : isN .f32 s = true ∨ Btw .f32 1 c s) : logIn z := by
  rcases h with h | h
  · left; rw [← isN_cn, hz]; exact h
  · right
    have hzz : z = s := Fin.cn (k := .f32) h.fin hz
    rw [hzz]
    obtain ⟨t, r, e, hr⟩ := h.fin
    have h1 := h.lo
    have h2 : (1 : Rat) ≤ val single s := h1
    have hrr : r < single.infRung := hr
    have e2 : s = single.word t r := e
    rw [e2, val_word single t hrr] at h2
    have hz2 : (0 : Rat) ≤ (nval single r : Rat) * (2 : Rat) ^ single.leastPlace := Rat.mul_nonneg Rat.natCast_nonneg (Rat.le_of_lt (pw_pos _))
    cases t
    · rw [e2]
      refine ⟨?_, hrr⟩
      show 0 < r
      rcases Nat.eq_zero_or_pos r with h0 | h0
      · subst h0; rw [nval_zero] at h2; simp at h2; exact absurd h2 (by decide +kernel)
      · exact h0
    · exfalso; unfold sg at h2; simp at h2; grind
end Go.Proofs.Ytaocilimggpdjaa
