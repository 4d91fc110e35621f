/- What the rate of a step and a power compute. No condition. -/
import Derived.Test.YtaocilimggpdjaaSam
import Derived.Lib.Hide
namespace Go.Proofs.Ytaocilimggpdjaa
open Go Go.RowKit
set_option linter.unusedVariables false
def two32 : Nat := 1073741824
/-- halved so many times -/
def halves : Nat → Nat → Nat
  | 0, x => x
  | n + 1, x => fop .quo .f32 (halves n x) 1073741824
def powF (b : Nat) : Nat → Nat
  | 0 => 1065353216
  | n + 1 => fop .mul .f32 (powF b n) b
def rateF (b : Nat) (warm half step : Int) : Nat :=
  if step < warm then fop .quo .f32 (fop .mul .f32 b (floatOfInt .f32 (step + 1))) (floatOfInt .f32 warm) else halves ((step - warm) / half).toNat b
theorem cn_two32 : cn .f32 1073741824 = 1073741824 := by decide +kernel
theorem cn_one32 : cn .f32 1065353216 = 1065353216 := by decide +kernel
theorem cn_zero32 : cn .f32 0 = 0 := by decide +kernel
theorem impl_power (b : Nat) (n : Int) (w : World) (h0 : 0 ≤ n) (h1 : n ≤ 1001) :
    Calls Try.prog 120 #[.float .f32 b, .int .i64 n] w fun e w' => ∃ r, e = .returned (.float .f32 r) ∧ cn .f32 r = powF (cn .f32 b) n.toNat ∧ Dr w w' := by
  obtain ⟨m, rfl⟩ : ∃ m : Nat, n = m := ⟨n.toNat, by omega⟩
  go_enter Try.func120, Try.ntmps120
  go_wp2
  go_loopw [5, 7] (fun v i wr => ∃ k : Nat, i = .int .i64 k ∧ k ≤ m ∧ ∃ r, v = .float .f32 r ∧ cn .f32 r = powF (cn .f32 b) k ∧ Dr w wr) (fun _ i _ => m - (intOf i).toNat)
  case atStart => exact ⟨0, rfl, Nat.zero_le _, _, rfl, cn_one32, Dr.refl _⟩
  case round =>
    obtain ⟨k, rfl, hk, r, rfl, hr, m', rfl⟩ := hrel
    have HR : Hid (cn .f32 r = powF (cn .f32 b) k) := hr
    clear hr
    by_cases hlt : k < m
    · go_wp2
      go_roundw
      case rel => exact ⟨k + 1, by go_num, hlt, _, rfl, by rw [cn_fbits, HR.out]; rfl, _, rfl⟩
      case measure => simp [intOf]; omega
    · go_wp2
      go_ret
      refine ⟨_, rfl, ?_, _, rfl⟩
      rw [HR.out]
      congr 1
      simp; omega
theorem impl_PowerOf_no (b : Nat) (n : Int) (w : World) (h : inB n 0 1000 = false) :
    Calls Try.prog 63 #[.float .f32 b, .int .i64 n] w fun e w' => e = .returned (.tuple #[.float .f32 0, .bool false]) ∧ w = w' := by
  go_enter Try.func63, Try.ntmps63
  go_wp2_with (go_at_call 81; refine (within_any _ _ _ _).mono ?_; rintro e w' ⟨rfl, rfl⟩)
  go_ret2
  exact ⟨rfl, rfl⟩
theorem impl_PowerOf_yes (b : Nat) (n : Int) (w : World) (h : inB n 0 1000 = true) :
    Calls Try.prog 63 #[.float .f32 b, .int .i64 n] w fun e w' => ∃ r, e = .returned (.tuple #[.float .f32 r, .bool true]) ∧ cn .f32 r = powF (cn .f32 b) n.toNat ∧ Dr w w' := by
  have ⟨h0, h1⟩ := inB_iff.1 h
  go_enter Try.func63, Try.ntmps63
  go_wp2_with (first | (go_at_call 81; refine (within_any _ _ _ _).mono ?_; rintro e w' ⟨rfl, rfl⟩) | fail)
  refine (impl_power _ _ _ (by omega) (by omega)).mono ?_
  rintro e w1 ⟨r, rfl, hr, m, rfl⟩
  have HR := Lib.hid hr; clear hr
  go_wp2
  go_ret2
  exact ⟨_, rfl, HR.out, _, rfl⟩
theorem spec_l05Power (b : Nat) (n : Int) (w : World) (h0 : 0 ≤ n) (h1 : n ≤ 1001) :
    Calls Try.prog 135 #[.float .f32 b, .int .i64 n] w fun e w' => ∃ r, e = .returned (.float .f32 r) ∧ cn .f32 r = powF (cn .f32 b) n.toNat ∧ Dr w w' := by
  obtain ⟨m, rfl⟩ : ∃ m : Nat, n = m := ⟨n.toNat, by omega⟩
  go_enter Try.func135, Try.ntmps135
  go_wp2
  go_loopw [5, 1] (fun v i wr => ∃ k : Nat, i = .int .i64 ((m : Int) - k) ∧ k ≤ m ∧ ∃ r, v = .float .f32 r ∧ cn .f32 r = powF (cn .f32 b) k ∧ Dr w wr) (fun _ i _ => (intOf i).toNat)
  case atStart => exact ⟨0, by simp, Nat.zero_le _, _, rfl, cn_one32, Dr.refl _⟩
  case round =>
    obtain ⟨k, rfl, hk, r, rfl, hr, m', rfl⟩ := hrel
    have HR : Hid (cn .f32 r = powF (cn .f32 b) k) := hr
    clear hr
    by_cases hlt : k < m
    · have hp : 0 < (m : Int) - k := by omega
      go_wp2
      go_roundw
      case rel => exact ⟨k + 1, by congr 1; omega, hlt, _, rfl, by rw [cn_fbits, HR.out]; rfl, _, rfl⟩
      case measure => simp [intOf]; omega
    · have hp : (m : Int) - k ≤ 0 := by omega
      go_wp2
      go_ret
      refine ⟨_, rfl, ?_, _, rfl⟩
      rw [HR.out]
      congr 1
      simp; omega
end Go.Proofs.Ytaocilimggpdjaa
