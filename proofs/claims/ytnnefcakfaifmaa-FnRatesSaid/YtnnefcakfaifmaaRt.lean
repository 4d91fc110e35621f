/- The law of rates, walked. No condition. -/
import Derived.Test.YtnnefcakfaifmaaTen
import Derived.Test.YtnnefcakfaifmaaRate
namespace Go.Proofs.Ytnnefcakfaifmaa
open Go Go.RowKit
set_option linter.unusedVariables false
def lq (x y : Nat) : Bool := FloatKind.f32.format.order x y == some .lt || FloatKind.f32.format.order x y == some .eq
def gq (x y : Nat) : Bool := FloatKind.f32.format.order x y == some .gt || FloatKind.f32.format.order x y == some .eq
def gt0 (x : Nat) : Bool := FloatKind.f32.format.order x 0 == some .gt
def baseW (x : Nat) : Nat := fop .quo .f32 (floatOfInt .f32 ((1 + x : Nat) : Int)) 1098907648
def halfW (x : Nat) : Nat := fop .quo .f32 x 1073741824
def upW (x warm s : Nat) : Nat := fop .quo .f32 (fop .mul .f32 (baseW x) (floatOfInt .f32 ((s : Int) + 1))) (floatOfInt .f32 (warm : Int))
def hchk : Nat → Nat → Bool
  | 0, _ => true
  | n + 1, b => gt0 b && lq (halfW b) b && hchk n (halfW b)
theorem halves_in (k b : Nat) : halves (k + 1) b = halves k (halfW b) := by
  induction k with
  | zero => rfl
  | succ k ih => show halfW (halves (k + 1) b) = _; rw [ih]; rfl
theorem hchk_at {n b : Nat} (h : hchk n b = true) : ∀ k, k < n → gt0 (halves k b) = true ∧ lq (halves (k + 1) b) (halves k b) = true := by
  induction n generalizing b with
  | zero => intro k hk; omega
  | succ n ih =>
    simp only [hchk, Bool.and_eq_true] at h
    intro k hk
    cases k with
    | zero => exact ⟨h.1.1, h.1.2⟩
    | succ k => rw [halves_in k, halves_in (k + 1)]; exact ih h.2 k (by omega)
theorem base_fin : ∀ x, x < 64 → floatBits .quo .f32 (floatOfInt .f32 ((1 + x : Nat) : Int)) 1098907648 = some (baseW x) ∧ isN .f32 (baseW x) = false ∧ floatBits .quo .f32 (baseW x) 1073741824 = some (halfW (baseW x)) ∧ isN .f32 (halfW (baseW x)) = false := by decide +kernel
theorem base_halves : ∀ x, x < 64 → hchk 62 (baseW x) = true := by decide +kernel
theorem up_all : ∀ x, x < 64 → ∀ warm, warm < 10 → ∀ s, s < warm → gt0 (upW x warm s) = true ∧ lq (upW x warm s) (baseW x) = true ∧ (s + 1 < warm → gq (upW x warm (s + 1)) (upW x warm s) = true) := by decide +kernel
theorem base_eq (x : Nat) : floatOfInt .f32 (1 + (x : Int)) = floatOfInt .f32 ((1 + x : Nat) : Int) := by congr 1
theorem base_at {x : Nat} (hx : x < 64) : (∀ w, fbits .quo .f32 (floatOfInt .f32 (1 + (x : Int))) 1098907648 w = baseW x) ∧ fdr .quo .f32 (floatOfInt .f32 (1 + (x : Int))) 1098907648 = 0 ∧
    (∀ w, fbits .quo .f32 (baseW x) 1073741824 w = halfW (baseW x)) ∧ fdr .quo .f32 (baseW x) 1073741824 = 0 ∧ cn .f32 (baseW x) = baseW x ∧ isN .f32 (baseW x) = false ∧ isN .f32 (halfW (baseW x)) = false := by
  obtain ⟨h1, h2, h3, h4⟩ := base_fin x hx
  rw [base_eq]
  exact ⟨fun w => fbits_some h1 w, fdr_some h1, fun w => fbits_some h3 w, fdr_some h3, cn_not h2, h2, h4⟩
end Go.Proofs.Ytnnefcakfaifmaa
