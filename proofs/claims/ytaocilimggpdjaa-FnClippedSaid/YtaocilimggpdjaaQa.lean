/- Plain laws of floats as rational numbers: what a datum is worth, and orders. No condition. -/
import Derived.Test.YtaocilimggpdjaaFl6
namespace Go.Proofs.Ytaocilimggpdjaa
open Go Go.RowKit Ieee
set_option linter.unusedVariables false
set_option linter.unusedSimpArgs false
def sg (s : Bool) : Rat := if s = true then -1 else 1
def num (s : Bool) (m : Nat) (p : Int) : Rat := sg s * (m : Rat) * (2 : Rat) ^ p
/-- what a datum is worth -/
def rv : Datum → Rat
  | .number s m p => num s m p
  | _ => 0
theorem two_ne : (2 : Rat) ≠ 0 := by decide
theorem pw_pos (p : Int) : (0 : Rat) < (2 : Rat) ^ p := Rat.zpow_pos (by decide)
theorem pw_add (p q : Int) : (2 : Rat) ^ (p + q) = (2 : Rat) ^ p * (2 : Rat) ^ q := Rat.zpow_add two_ne p q
theorem pw_nat (n : Nat) : (2 : Rat) ^ (n : Int) = ((2 ^ n : Nat) : Rat) := by rw [Rat.zpow_natCast, Rat.natCast_pow]; rfl
theorem pw_zero : (2 : Rat) ^ (0 : Int) = 1 := by decide +kernel
theorem signed_rv (s : Bool) (m k : Nat) : ((signed s m k : Int) : Rat) = sg s * (m : Rat) * (2 : Rat) ^ (k : Int) := by
  rw [pw_nat]
  unfold signed sg
  rw [Nat.shiftLeft_eq]
  cases s
  · simp only [Bool.false_eq_true, if_false]
    rw [Rat.intCast_natCast, Rat.natCast_mul]
    grind
  · simp only [if_true]
    rw [Rat.intCast_neg, Rat.intCast_natCast, Rat.natCast_mul]
    grind
theorem num_base {s : Bool} {m : Nat} {p b : Int} (h : b ≤ p) : num s m p = ((signed s m (p - b).toNat : Int) : Rat) * (2 : Rat) ^ b := by
  rw [signed_rv, show (((p - b).toNat : Nat) : Int) = p - b by omega]
  unfold num
  have := pw_add (p - b) b
  rw [show p - b + b = p by omega] at this
  rw [this]
  grind
theorem order_num (s t : Bool) (m n : Nat) (p q : Int) :
    ((Datum.number s m p).order (.number t n q) = some .lt ↔ num s m p < num t n q) ∧ ((Datum.number s m p).order (.number t n q) = some .gt ↔ num t n q < num s m p) ∧ ((Datum.number s m p).order (.number t n q) = some .eq ↔ num s m p = num t n q) := by
  obtain ⟨b, hb⟩ : ∃ b, b = min p q := ⟨_, rfl⟩
  have e1 := num_base (s := s) (m := m) (show b ≤ p by omega)
  have e2 := num_base (s := t) (m := n) (show b ≤ q by omega)
  have hp := pw_pos b
  simp only [Datum.order, ← hb, Option.some.injEq]
  generalize signed s m (p - b).toNat = A at e1 ⊢
  generalize signed t n (q - b).toNat = B at e2 ⊢
  generalize (2 : Rat) ^ b = c at *
  rw [e1, e2]
  have k1 : (A : Rat) * c < B * c ↔ A < B := by
    rw [Rat.mul_lt_mul_right hp, Rat.intCast_lt_intCast]
  have k2 : (B : Rat) * c < A * c ↔ B < A := by
    rw [Rat.mul_lt_mul_right hp, Rat.intCast_lt_intCast]
  refine ⟨?_, ?_, ?_⟩
  · rw [k1, Int.compare_eq_lt]
  · rw [k2, Int.compare_eq_gt]
  · rw [Int.compare_eq_eq]
    constructor
    · intro h; rw [h]
    · intro h
      have h1 : ¬ A < B := by rw [← k1, h]; exact Rat.lt_irrefl
      have h2 : ¬ B < A := by rw [← k2, h]; exact Rat.lt_irrefl
      omega
end Go.Proofs.Ytaocilimggpdjaa
