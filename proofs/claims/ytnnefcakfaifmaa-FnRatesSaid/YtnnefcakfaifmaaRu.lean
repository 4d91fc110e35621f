/- Plain laws of rates. No condition. -/
import Derived.Test.YtnnefcakfaifmaaRt
namespace Go.Proofs.Ytnnefcakfaifmaa
open Go Go.RowKit
set_option linter.unusedVariables false
theorem gt0_not {x : Nat} (h : gt0 x = true) : isN .f32 x = false := by
  cases hn : isN .f32 x
  · rfl
  · unfold gt0 at h; rw [order_none (.inl hn)] at h; cases h
theorem rate_up {x warm hh s : Nat} (h : s < warm) : rateF (baseW x) warm (1 + (hh : Int)) s = upW x warm s := by
  unfold rateF upW; rw [if_pos (by omega)]
theorem rate_down {x warm hh s : Nat} (h : ¬ s < warm) : rateF (baseW x) warm (1 + (hh : Int)) s = halves ((s - warm) / (1 + hh)) (baseW x) := by
  unfold rateF; rw [if_neg (by omega)]
  congr 1
  have : ((s : Int) - warm) = ((s - warm : Nat) : Int) := by omega
  rw [this, show (1 + (hh : Int)) = ((1 + hh : Nat) : Int) from by simp, ← Int.natCast_ediv]
  rfl
theorem rate_gt {x warm hh s : Nat} (hx : x < 64) (hw : warm < 10) (hs : s ≤ 60) : gt0 (rateF (baseW x) warm (1 + (hh : Int)) s) = true := by
  by_cases h : s < warm
  · rw [rate_up h]; exact (up_all x hx warm hw s h).1
  · rw [rate_down h]
    refine (hchk_at (base_halves x hx) _ ?_).1
    have := Nat.div_le_self (s - warm) (1 + hh)
    omega
theorem rate_warm {x warm hh : Nat} : rateF (baseW x) warm (1 + (hh : Int)) warm = baseW x := by
  rw [rate_down (by omega), Nat.sub_self, Nat.zero_div]; rfl
theorem rate_half {x warm hh : Nat} : rateF (baseW x) warm (1 + (hh : Int)) (warm + (1 + (hh : Int))) = halfW (baseW x) := by
  have e : ((warm : Int) + (1 + (hh : Int))) = ((warm + (1 + hh) : Nat) : Int) := by omega
  rw [e, rate_down (by omega), Nat.add_sub_cancel_left, Nat.div_self (by omega)]; rfl
theorem rate_next {x warm hh s : Nat} (hx : x < 64) (hw : warm < 10) (hs : s < 60) (h : s + 1 < warm) :
    gq (rateF (baseW x) warm (1 + (hh : Int)) ((s : Int) + 1)) (rateF (baseW x) warm (1 + (hh : Int)) s) = true ∧ lq (rateF (baseW x) warm (1 + (hh : Int)) ((s : Int) + 1)) (baseW x) = true := by
  have e : ((s : Int) + 1) = ((s + 1 : Nat) : Int) := by omega
  rw [e, rate_up h, rate_up (by omega)]
  exact ⟨(up_all x hx warm hw s (by omega)).2.2 h, (up_all x hx warm hw (s + 1) h).2.1⟩
theorem lq_self {x : Nat} (h : isN .f32 x = false) : lq x x = true := by
  unfold lq; rw [order_self, h]; rfl
theorem rate_fall {x warm hh s : Nat} (hx : x < 64) (hw : warm < 10) (hs : s < 60) (h : ¬ s < warm) :
    lq (rateF (baseW x) warm (1 + (hh : Int)) ((s : Int) + 1)) (rateF (baseW x) warm (1 + (hh : Int)) s) = true := by
  have e : ((s : Int) + 1) = ((s + 1 : Nat) : Int) := by omega
  rw [e, rate_down (show ¬ s + 1 < warm by omega), rate_down h]
  have h1 : (s - warm) / (1 + hh) ≤ 60 := by have := Nat.div_le_self (s - warm) (1 + hh); omega
  have h2 : (s + 1 - warm) / (1 + hh) = (s - warm) / (1 + hh) ∨ (s + 1 - warm) / (1 + hh) = (s - warm) / (1 + hh) + 1 := by
    have e2 : s + 1 - warm = (s - warm) + 1 := by omega
    rw [e2]
    rw [Nat.succ_div]
    split
    · exact .inr rfl
    · exact .inl rfl
  have h3 := hchk_at (base_halves x hx) ((s - warm) / (1 + hh)) (by omega)
  rcases h2 with h2 | h2
  · rw [h2]; exact lq_self (gt0_not h3.1)
  · rw [h2]; exact h3.2
theorem raw_of {r X : Nat} (h : cn .f32 r = X) (hg : gt0 X = true) : r = X :=
  (eq_of_cn (h.trans (cn_not (gt0_not hg)).symm).symm (gt0_not hg)).symm
end Go.Proofs.Ytnnefcakfaifmaa
