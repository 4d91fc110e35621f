/- What the rate of a step and a power compute. No condition. -/
import Derived.Test.YtnnefcakfaifmaaSam
import Derived.Lib.Hide
namespace Go.Proofs.Ytnnefcakfaifmaa
open Go Go.RowKit
set_option linter.unusedVariables false
def two32 : Nat := 1073741824
def one32 : Nat := 1065353216
/-- halved so many times -/
def halves : Nat → Nat → Nat
  | 0, x => x
  | n + 1, x => fop .quo .f32 (halves n x) 1073741824
def powF (b : Nat) : Nat → Nat
  | 0 => 1065353216
  | n + 1 => fop .mul .f32 (powF b n) b
def rateF (b : Nat) (warm half step : Int) : Nat :=
  if step < warm then fop .quo .f32 (fop .mul .f32 b (floatOfInt .f32 (step + 1))) (floatOfInt .f32 warm) else halves ((step - warm) / half).toNat b
theorem cn_two32 : cn .f32 1073741824 = 1073741824 := by decide +kernel
theorem cn_one32 : cn .f32 1065353216 = 1065353216 := by decide +kernel
theorem cn_zero32 : cn .f32 0 = 0 := by decide +kernel
theorem impl_RateAt_no (b : Nat) (warm half step : Int) (w : World) (h : (inB warm 0 1000 && inB half 1 1000 && inB step 0 1000) = false) :
    Calls Try.prog 17 #[.float .f32 b, .int .i64 warm, .int .i64 half, .int .i64 step] w fun e w' => e = .returned (.tuple #[.float .f32 0, .bool false]) ∧ w = w' := by
  go_enter Try.func17, Try.ntmps17
  by_cases h1 : inB warm 0 1000 = true
  · by_cases h2 : inB half 1 1000 = true
    · have h3 : inB step 0 1000 = false := by simpa [h1, h2] using h
      clear h
      go_wp2_with (go_at_call 69; refine (within_any _ _ _ _).mono ?_; rintro e w' ⟨rfl, rfl⟩)
      go_ret2
      exact ⟨rfl, rfl⟩
    · have h2' : inB half 1 1000 = false := by simpa using h2
      clear h h2
      go_wp2_with (go_at_call 69; refine (within_any _ _ _ _).mono ?_; rintro e w' ⟨rfl, rfl⟩)
      go_ret2
      exact ⟨rfl, rfl⟩
  · have h1' : inB warm 0 1000 = false := by simpa using h1
    clear h h1
    go_wp2_with (go_at_call 69; refine (within_any _ _ _ _).mono ?_; rintro e w' ⟨rfl, rfl⟩)
    go_ret2
    exact ⟨rfl, rfl⟩
theorem impl_RateAt_yes (b : Nat) (warm half step : Int) (w : World) (h1 : inB warm 0 1000 = true) (h2 : inB half 1 1000 = true) (h3 : inB step 0 1000 = true) :
    Calls Try.prog 17 #[.float .f32 b, .int .i64 warm, .int .i64 half, .int .i64 step] w fun e w' => ∃ r, e = .returned (.tuple #[.float .f32 r, .bool true]) ∧ cn .f32 r = rateF (cn .f32 b) warm half step ∧ Dr w w' := by
  have ⟨a1, a2⟩ := inB_iff.1 h1
  have ⟨a3, a4⟩ := inB_iff.1 h2
  have ⟨a5, a6⟩ := inB_iff.1 h3
  by_cases hlt : step < warm
  · go_enter Try.func17, Try.ntmps17
    go_wp2_with (go_at_call 69; refine (within_any _ _ _ _).mono ?_; rintro e w' ⟨rfl, rfl⟩)
    go_ret2
    refine ⟨_, rfl, ?_, _, rfl⟩
    rw [rateF, if_pos hlt]
    simp only [cn_fbits, cn_floatOfInt]
  · have hle : warm ≤ step := by omega
    have hq0 : 0 ≤ (step - warm) / half := Int.ediv_nonneg (by omega) (by omega)
    have hq1 : (step - warm) / half ≤ 1000 := by
      have := Int.ediv_le_self (b := half) (a := step - warm) (by omega)
      omega
    obtain ⟨n, hn⟩ : ∃ n : Nat, (step - warm) / half = n := ⟨((step - warm) / half).toNat, by omega⟩
    have HN : Hid ((step - warm) / half = n) := hn
    have hn1 : n ≤ 1000 := by omega
    go_enter Try.func17, Try.ntmps17
    go_wp2_with (go_at_call 69; refine (within_any _ _ _ _).mono ?_; rintro e w' ⟨rfl, rfl⟩)
    clear hn
    go_loopw [0, 39] (fun v i wr => ∃ k : Nat, i = .int .i64 k ∧ k ≤ n ∧ ∃ r, v = .float .f32 r ∧ cn .f32 r = halves k (cn .f32 b) ∧ Dr w wr) (fun _ i _ => n - (intOf i).toNat)
    case atStart => exact ⟨0, rfl, Nat.zero_le _, b, rfl, rfl, Dr.refl _⟩
    case round =>
      obtain ⟨k, rfl, hk, r, rfl, hr, m, rfl⟩ := hrel
      have HR : Hid (cn .f32 r = halves k (cn .f32 b)) := hr
      clear hr
      by_cases hlt : k < n
      · have hlt' : (k : Int) < (step - warm) / half := by rw [HN.out]; omega
        go_wp2
        go_roundw
        case rel => exact ⟨k + 1, by go_num, hlt, _, rfl, by rw [cn_fbits, HR.out, cn_two32]; rfl, _, rfl⟩
        case measure => simp [intOf]; omega
      · have hge : (step - warm) / half ≤ (k : Int) := by rw [HN.out]; omega
        go_wp2
        go_ret2
        refine ⟨_, rfl, ?_, _, rfl⟩
        rw [rateF, if_neg (by omega), HR.out, HN.out]
        congr 1
        omega
theorem impl_power (b : Nat) (n : Int) (w : World) (h0 : 0 ≤ n) (h1 : n ≤ 1001) :
    Calls Try.prog 106 #[.float .f32 b, .int .i64 n] w fun e w' => ∃ r, e = .returned (.float .f32 r) ∧ cn .f32 r = powF (cn .f32 b) n.toNat ∧ Dr w w' := by
  obtain ⟨m, rfl⟩ : ∃ m : Nat, n = m := ⟨n.toNat, by omega⟩
  go_enter Try.func106, Try.ntmps106
  go_wp2
  go_loopw [5, 7] (fun v i wr => ∃ k : Nat, i = .int .i64 k ∧ k ≤ m ∧ ∃ r, v = .float .f32 r ∧ cn .f32 r = powF (cn .f32 b) k ∧ Dr w wr) (fun _ i _ => m - (intOf i).toNat)
  case atStart => exact ⟨0, rfl, Nat.zero_le _, _, rfl, cn_one32, Dr.refl _⟩
  case round =>
    obtain ⟨k, rfl, hk, r, rfl, hr, m', rfl⟩ := hrel
    have HR : Hid (cn .f32 r = powF (cn .f32 b) k) := hr
    clear hr
    by_cases hlt : k < m
    · go_wp2
      go_roundw
      case rel => exact ⟨k + 1, by go_num, hlt, _, rfl, by rw [cn_fbits, HR.out]; rfl, _, rfl⟩
      case measure => simp [intOf]; omega
    · go_wp2
      go_ret
      refine ⟨_, rfl, ?_, _, rfl⟩
      rw [HR.out]
      congr 1
      simp; omega
theorem impl_PowerOf_no (b : Nat) (n : Int) (w : World) (h : inB n 0 1000 = false) :
    Calls Try.prog 58 #[.float .f32 b, .int .i64 n] w fun e w' => e = .returned (.tuple #[.float .f32 0, .bool false]) ∧ w = w' := by
  go_enter Try.func58, Try.ntmps58
  go_wp2_with (go_at_call 69; refine (within_any _ _ _ _).mono ?_; rintro e w' ⟨rfl, rfl⟩)
  go_ret2
  exact ⟨rfl, rfl⟩
theorem impl_PowerOf_yes (b : Nat) (n : Int) (w : World) (h : inB n 0 1000 = true) :
    Calls Try.prog 58 #[.float .f32 b, .int .i64 n] w fun e w' => ∃ r, e = .returned (.tuple #[.float .f32 r, .bool true]) ∧ cn .f32 r = powF (cn .f32 b) n.toNat ∧ Dr w w' := by
  have ⟨h0, h1⟩ := inB_iff.1 h
  go_enter Try.func58, Try.ntmps58
  go_wp2_with (first | (go_at_call 69; refine (within_any _ _ _ _).mono ?_; rintro e w' ⟨rfl, rfl⟩) | fail)
  refine (impl_power _ _ _ (by omega) (by omega)).mono ?_
  rintro e w1 ⟨r, rfl, hr, m, rfl⟩
  have HR := Lib.hid hr; clear hr
  go_wp2
  go_ret2
  exact ⟨_, rfl, HR.out, _, rfl⟩
end Go.Proofs.Ytnnefcakfaifmaa
