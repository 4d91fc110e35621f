/- Joined texts 2: Rst Qa Qc Qd Qe Fl7 Qf. Each is told at its own head. No condition. -/
import GoSem.Extern.MathSqrt
import Derived.Test.YtnhikdjljjemlaaMc0
import Derived.Test.YtnhikdjljjemlaaMc1
/- The values of the codes in 8 bits. No condition. -/
namespace Go.Proofs.Ytnhikdjljjemlaa
open Go Go.RowKit
set_option linter.unusedVariables false
set_option linter.unusedSimpArgs false
theorem rv1_0 (w : World) : Calls Try.prog 53 #[.int .i64 1, .int .i64 0] w fun e w' => e = .returned (.float .f64 (ldY 0 (-6))) ∧ Dr w w' := by
  have e1 := fbits_some (show floatBits .quo .f64 (floatOfInt .f64 0) (floatOfInt .f64 8) = some 0 by decide +kernel)
  have e2 := fdr_some (show floatBits .quo .f64 (floatOfInt .f64 0) (floatOfInt .f64 8) = some 0 by decide +kernel)
  have hz0 := World.drewN_none
  have K := Lib.hid (fun W => math_Ldexp 0 (-6) (by decide +kernel) W)
  go_enter Try.func53, Try.ntmps53
  go_wp2
  refine wp_region_drawn (fun f args u => False) (by kernel_rfl) (by kernel_rfl) ?_
  repeat (refine wset_step (fun K hK nq => ?_); go_simp; refine hK _ ?_; clear hK K)
  refine wset_nil ?_
  rintro w' ⟨dq, rfl⟩
  go_wp2_with fail
  refine (K.out _).mono ?_
  rintro e w1 ⟨rfl, rfl⟩
  go_wp2
  go_ret
  exact ⟨rfl, _, rfl⟩
theorem rv1_1 (w : World) : Calls Try.prog 53 #[.int .i64 1, .int .i64 1] w fun e w' => e = .returned (.float .f64 (ldY 4593671619917905920 (-6))) ∧ Dr w w' := by
  have e1 := fbits_some (show floatBits .quo .f64 (floatOfInt .f64 1) (floatOfInt .f64 8) = some 4593671619917905920 by decide +kernel)
  have e2 := fdr_some (show floatBits .quo .f64 (floatOfInt .f64 1) (floatOfInt .f64 8) = some 4593671619917905920 by decide +kernel)
  have hz0 := World.drewN_none
  have K := Lib.hid (fun W => math_Ldexp 4593671619917905920 (-6) (by decide +kernel) W)
  go_enter Try.func53, Try.ntmps53
  go_wp2
  refine wp_region_drawn (fun f args u => False) (by kernel_rfl) (by kernel_rfl) ?_
  repeat (refine wset_step (fun K hK nq => ?_); go_simp; refine hK _ ?_; clear hK K)
  refine wset_nil ?_
  rintro w' ⟨dq, rfl⟩
  go_wp2_with fail
  refine (K.out _).mono ?_
  rintro e w1 ⟨rfl, rfl⟩
  go_wp2
  go_ret
  exact ⟨rfl, _, rfl⟩
theorem rv1_2 (w : World) : Calls Try.prog 53 #[.int .i64 1, .int .i64 2] w fun e w' => e = .returned (.float .f64 (ldY 4598175219545276416 (-6))) ∧ Dr w w' := by
  have e1 := fbits_some (show floatBits .quo .f64 (floatOfInt .f64 2) (floatOfInt .f64 8) = some 4598175219545276416 by decide +kernel)
  have e2 := fdr_some (show floatBits .quo .f64 (floatOfInt .f64 2) (floatOfInt .f64 8) = some 4598175219545276416 by decide +kernel)
  have hz0 := World.drewN_none
  have K := Lib.hid (fun W => math_Ldexp 4598175219545276416 (-6) (by decide +kernel) W)
  go_enter Try.func53, Try.ntmps53
  go_wp2
  refine wp_region_drawn (fun f args u => False) (by kernel_rfl) (by kernel_rfl) ?_
  repeat (refine wset_step (fun K hK nq => ?_); go_simp; refine hK _ ?_; clear hK K)
  refine wset_nil ?_
  rintro w' ⟨dq, rfl⟩
  go_wp2_with fail
  refine (K.out _).mono ?_
  rintro e w1 ⟨rfl, rfl⟩
  go_wp2
  go_ret
  exact ⟨rfl, _, rfl⟩
theorem rv1_3 (w : World) : Calls Try.prog 53 #[.int .i64 1, .int .i64 3] w fun e w' => e = .returned (.float .f64 (ldY 4600427019358961664 (-6))) ∧ Dr w w' := by
  have e1 := fbits_some (show floatBits .quo .f64 (floatOfInt .f64 3) (floatOfInt .f64 8) = some 4600427019358961664 by decide +kernel)
  have e2 := fdr_some (show floatBits .quo .f64 (floatOfInt .f64 3) (floatOfInt .f64 8) = some 4600427019358961664 by decide +kernel)
  have hz0 := World.drewN_none
  have K := Lib.hid (fun W => math_Ldexp 4600427019358961664 (-6) (by decide +kernel) W)
  go_enter Try.func53, Try.ntmps53
  go_wp2
  refine wp_region_drawn (fun f args u => False) (by kernel_rfl) (by kernel_rfl) ?_
  repeat (refine wset_step (fun K hK nq => ?_); go_simp; refine hK _ ?_; clear hK K)
  refine wset_nil ?_
  rintro w' ⟨dq, rfl⟩
  go_wp2_with fail
  refine (K.out _).mono ?_
  rintro e w1 ⟨rfl, rfl⟩
  go_wp2
  go_ret
  exact ⟨rfl, _, rfl⟩
theorem rv1_4 (w : World) : Calls Try.prog 53 #[.int .i64 1, .int .i64 4] w fun e w' => e = .returned (.float .f64 (ldY 4602678819172646912 (-6))) ∧ Dr w w' := by
  have e1 := fbits_some (show floatBits .quo .f64 (floatOfInt .f64 4) (floatOfInt .f64 8) = some 4602678819172646912 by decide +kernel)
  have e2 := fdr_some (show floatBits .quo .f64 (floatOfInt .f64 4) (floatOfInt .f64 8) = some 4602678819172646912 by decide +kernel)
  have hz0 := World.drewN_none
  have K := Lib.hid (fun W => math_Ldexp 4602678819172646912 (-6) (by decide +kernel) W)
  go_enter Try.func53, Try.ntmps53
  go_wp2
  refine wp_region_drawn (fun f args u => False) (by kernel_rfl) (by kernel_rfl) ?_
  repeat (refine wset_step (fun K hK nq => ?_); go_simp; refine hK _ ?_; clear hK K)
  refine wset_nil ?_
  rintro w' ⟨dq, rfl⟩
  go_wp2_with fail
  refine (K.out _).mono ?_
  rintro e w1 ⟨rfl, rfl⟩
  go_wp2
  go_ret
  exact ⟨rfl, _, rfl⟩
theorem rv1_5 (w : World) : Calls Try.prog 53 #[.int .i64 1, .int .i64 5] w fun e w' => e = .returned (.float .f64 (ldY 4603804719079489536 (-6))) ∧ Dr w w' := by
  have e1 := fbits_some (show floatBits .quo .f64 (floatOfInt .f64 5) (floatOfInt .f64 8) = some 4603804719079489536 by decide +kernel)
  have e2 := fdr_some (show floatBits .quo .f64 (floatOfInt .f64 5) (floatOfInt .f64 8) = some 4603804719079489536 by decide +kernel)
  have hz0 := World.drewN_none
  have K := Lib.hid (fun W => math_Ldexp 4603804719079489536 (-6) (by decide +kernel) W)
  go_enter Try.func53, Try.ntmps53
  go_wp2
  refine wp_region_drawn (fun f args u => False) (by kernel_rfl) (by kernel_rfl) ?_
  repeat (refine wset_step (fun K hK nq => ?_); go_simp; refine hK _ ?_; clear hK K)
  refine wset_nil ?_
  rintro w' ⟨dq, rfl⟩
  go_wp2_with fail
  refine (K.out _).mono ?_
  rintro e w1 ⟨rfl, rfl⟩
  go_wp2
  go_ret
  exact ⟨rfl, _, rfl⟩
theorem rv1_6 (w : World) : Calls Try.prog 53 #[.int .i64 1, .int .i64 6] w fun e w' => e = .returned (.float .f64 (ldY 4604930618986332160 (-6))) ∧ Dr w w' := by
  have e1 := fbits_some (show floatBits .quo .f64 (floatOfInt .f64 6) (floatOfInt .f64 8) = some 4604930618986332160 by decide +kernel)
  have e2 := fdr_some (show floatBits .quo .f64 (floatOfInt .f64 6) (floatOfInt .f64 8) = some 4604930618986332160 by decide +kernel)
  have hz0 := World.drewN_none
  have K := Lib.hid (fun W => math_Ldexp 4604930618986332160 (-6) (by decide +kernel) W)
  go_enter Try.func53, Try.ntmps53
  go_wp2
  refine wp_region_drawn (fun f args u => False) (by kernel_rfl) (by kernel_rfl) ?_
  repeat (refine wset_step (fun K hK nq => ?_); go_simp; refine hK _ ?_; clear hK K)
  refine wset_nil ?_
  rintro w' ⟨dq, rfl⟩
  go_wp2_with fail
  refine (K.out _).mono ?_
  rintro e w1 ⟨rfl, rfl⟩
  go_wp2
  go_ret
  exact ⟨rfl, _, rfl⟩
theorem rv1_7 (w : World) : Calls Try.prog 53 #[.int .i64 1, .int .i64 7] w fun e w' => e = .returned (.float .f64 (ldY 4606056518893174784 (-6))) ∧ Dr w w' := by
  have e1 := fbits_some (show floatBits .quo .f64 (floatOfInt .f64 7) (floatOfInt .f64 8) = some 4606056518893174784 by decide +kernel)
  have e2 := fdr_some (show floatBits .quo .f64 (floatOfInt .f64 7) (floatOfInt .f64 8) = some 4606056518893174784 by decide +kernel)
  have hz0 := World.drewN_none
  have K := Lib.hid (fun W => math_Ldexp 4606056518893174784 (-6) (by decide +kernel) W)
  go_enter Try.func53, Try.ntmps53
  go_wp2
  refine wp_region_drawn (fun f args u => False) (by kernel_rfl) (by kernel_rfl) ?_
  repeat (refine wset_step (fun K hK nq => ?_); go_simp; refine hK _ ?_; clear hK K)
  refine wset_nil ?_
  rintro w' ⟨dq, rfl⟩
  go_wp2_with fail
  refine (K.out _).mono ?_
  rintro e w1 ⟨rfl, rfl⟩
  go_wp2
  go_ret
  exact ⟨rfl, _, rfl⟩
theorem rv0_0 (w : World) : Calls Try.prog 53 #[.int .i64 0, .int .i64 0] w fun e w' => e = .returned (.float .f64 (ldY 0 (-14))) ∧ Dr w w' := by
  have e1 := fbits_some (show floatBits .quo .f64 (floatOfInt .f64 0) (floatOfInt .f64 4) = some 0 by decide +kernel)
  have e2 := fdr_some (show floatBits .quo .f64 (floatOfInt .f64 0) (floatOfInt .f64 4) = some 0 by decide +kernel)
  have hz0 := World.drewN_none
  have K := Lib.hid (fun W => math_Ldexp 0 (-14) (by decide +kernel) W)
  go_enter Try.func53, Try.ntmps53
  go_wp2
  refine wp_region_drawn (fun f args u => False) (by kernel_rfl) (by kernel_rfl) ?_
  repeat (refine wset_step (fun K hK nq => ?_); go_simp; refine hK _ ?_; clear hK K)
  refine wset_nil ?_
  rintro w' ⟨dq, rfl⟩
  go_wp2_with fail
  refine (K.out _).mono ?_
  rintro e w1 ⟨rfl, rfl⟩
  go_wp2
  go_ret
  exact ⟨rfl, _, rfl⟩
theorem rv0_1 (w : World) : Calls Try.prog 53 #[.int .i64 0, .int .i64 1] w fun e w' => e = .returned (.float .f64 (ldY 4598175219545276416 (-14))) ∧ Dr w w' := by
  have e1 := fbits_some (show floatBits .quo .f64 (floatOfInt .f64 1) (floatOfInt .f64 4) = some 4598175219545276416 by decide +kernel)
  have e2 := fdr_some (show floatBits .quo .f64 (floatOfInt .f64 1) (floatOfInt .f64 4) = some 4598175219545276416 by decide +kernel)
  have hz0 := World.drewN_none
  have K := Lib.hid (fun W => math_Ldexp 4598175219545276416 (-14) (by decide +kernel) W)
  go_enter Try.func53, Try.ntmps53
  go_wp2
  refine wp_region_drawn (fun f args u => False) (by kernel_rfl) (by kernel_rfl) ?_
  repeat (refine wset_step (fun K hK nq => ?_); go_simp; refine hK _ ?_; clear hK K)
  refine wset_nil ?_
  rintro w' ⟨dq, rfl⟩
  go_wp2_with fail
  refine (K.out _).mono ?_
  rintro e w1 ⟨rfl, rfl⟩
  go_wp2
  go_ret
  exact ⟨rfl, _, rfl⟩
theorem rv0_2 (w : World) : Calls Try.prog 53 #[.int .i64 0, .int .i64 2] w fun e w' => e = .returned (.float .f64 (ldY 4602678819172646912 (-14))) ∧ Dr w w' := by
  have e1 := fbits_some (show floatBits .quo .f64 (floatOfInt .f64 2) (floatOfInt .f64 4) = some 4602678819172646912 by decide +kernel)
  have e2 := fdr_some (show floatBits .quo .f64 (floatOfInt .f64 2) (floatOfInt .f64 4) = some 4602678819172646912 by decide +kernel)
  have hz0 := World.drewN_none
  have K := Lib.hid (fun W => math_Ldexp 4602678819172646912 (-14) (by decide +kernel) W)
  go_enter Try.func53, Try.ntmps53
  go_wp2
  refine wp_region_drawn (fun f args u => False) (by kernel_rfl) (by kernel_rfl) ?_
  repeat (refine wset_step (fun K hK nq => ?_); go_simp; refine hK _ ?_; clear hK K)
  refine wset_nil ?_
  rintro w' ⟨dq, rfl⟩
  go_wp2_with fail
  refine (K.out _).mono ?_
  rintro e w1 ⟨rfl, rfl⟩
  go_wp2
  go_ret
  exact ⟨rfl, _, rfl⟩
theorem rv0_3 (w : World) : Calls Try.prog 53 #[.int .i64 0, .int .i64 3] w fun e w' => e = .returned (.float .f64 (ldY 4604930618986332160 (-14))) ∧ Dr w w' := by
  have e1 := fbits_some (show floatBits .quo .f64 (floatOfInt .f64 3) (floatOfInt .f64 4) = some 4604930618986332160 by decide +kernel)
  have e2 := fdr_some (show floatBits .quo .f64 (floatOfInt .f64 3) (floatOfInt .f64 4) = some 4604930618986332160 by decide +kernel)
  have hz0 := World.drewN_none
  have K := Lib.hid (fun W => math_Ldexp 4604930618986332160 (-14) (by decide +kernel) W)
  go_enter Try.func53, Try.ntmps53
  go_wp2
  refine wp_region_drawn (fun f args u => False) (by kernel_rfl) (by kernel_rfl) ?_
  repeat (refine wset_step (fun K hK nq => ?_); go_simp; refine hK _ ?_; clear hK K)
  refine wset_nil ?_
  rintro w' ⟨dq, rfl⟩
  go_wp2_with fail
  refine (K.out _).mono ?_
  rintro e w1 ⟨rfl, rfl⟩
  go_wp2
  go_ret
  exact ⟨rfl, _, rfl⟩
theorem impl_restValue1 (rest : Nat) (hr : rest < 127) (w : World) : Calls Try.prog 53 #[.int .i64 1, .int .i64 rest] w fun e w' => e = .returned (.float .f64 (rVal 1 rest)) ∧ Dr w w' := by
  have ok := rOk_all 1 (by decide) rest hr
  unfold rOk at ok
  rw [Bool.and_eq_true, decide_eq_true_eq] at ok
  obtain ⟨o1, o2⟩ := ok
  have hv : rVal 1 rest = if rest / 8 = 0 then ldY (rFrac 1 rest) (1 - rBias 1) else ldY (rOne 1 rest) ((rest / 8 : Nat) - rBias 1) := rfl
  have hp : rParts 1 = 8 := rfl
  have hb : rBias 1 = 7 := rfl
  rw [hv]
  rw [hp, hb] at o2
  rw [hp] at o1
  rw [hb]
  obtain ⟨fr, hfr⟩ : ∃ x, x = rFrac 1 rest := ⟨_, rfl⟩
  obtain ⟨fo, hfo⟩ : ∃ x, x = rOne 1 rest := ⟨_, rfl⟩
  have hFR := hfr
  rw [← hfr, ← hfo] at o2
  rw [← hfr] at o1
  rw [← hfr, ← hfo]
  have hd : ((rest : Nat) : Int) / 8 = ((rest / 8 : Nat) : Int) := by omega
  have hm : ((rest : Nat) : Int) % 8 = ((rest % 8 : Nat) : Int) := by omega
  obtain ⟨q, hq⟩ : ∃ x, x = rest / 8 := ⟨_, rfl⟩
  obtain ⟨t, ht⟩ : ∃ x, x = rest % 8 := ⟨_, rfl⟩
  rw [← hq] at o2 hd
  rw [← ht] at hm o1
  rw [← hq]
  rw [show ((8 : Nat) : Int) = 8 from rfl] at o1
  have hq16 : q < 32 := by omega
  have e1 := fbits_some o1
  have e2 := fdr_some o1
  have hz0 := World.drewN_none
  have o1' : floatBits .quo .f64 (floatOfInt .f64 ((rest : Int) % 8)) (floatOfInt .f64 8) = some fr := by rw [hm]; exact o1
  clear hv hp hb hfr hfo ht o1
  by_cases h0 : q = 0
  · rw [if_pos h0]
    have hl : rest < 8 := by omega
    rw [hFR]
    match rest, hl with
    | 0, _ => exact rv1_0 w
    | 1, _ => exact rv1_1 w
    | 2, _ => exact rv1_2 w
    | 3, _ => exact rv1_3 w
    | 4, _ => exact rv1_4 w
    | 5, _ => exact rv1_5 w
    | 6, _ => exact rv1_6 w
    | 7, _ => exact rv1_7 w
  · rw [if_neg h0] at o2 ⊢
    rw [Bool.and_eq_true, decide_eq_true_eq] at o2
    obtain ⟨o2, o3⟩ := o2
    have e3 := fbits_some o2
    have e4 := fdr_some o2
    have hq0 : ((q : Int) == 0) = false := by simpa using h0
    have K := Lib.hid (fun W => math_Ldexp fo ((q : Int) - 7) o3 W)
    clear o2 o3 hq h0 o1' hFR
    go_enter Try.func53, Try.ntmps53
    go_wp2
    refine wp_region_drawn (fun f args u => False) (by kernel_rfl) (by kernel_rfl) ?_
    repeat (refine wset_step (fun K hK nq => ?_); go_simp; refine hK _ ?_; clear hK K)
    refine wset_nil ?_
    rintro w' ⟨dq, rfl⟩
    go_wp2_with fail
    refine (K.out _).mono ?_
    rintro e w1 ⟨rfl, rfl⟩
    go_wp2
    go_ret
    exact ⟨rfl, _, rfl⟩
theorem impl_restValue0 (rest : Nat) (hr : rest < 127) (w : World) : Calls Try.prog 53 #[.int .i64 0, .int .i64 rest] w fun e w' => e = .returned (.float .f64 (rVal 0 rest)) ∧ Dr w w' := by
  have ok := rOk_all 0 (by decide) rest hr
  unfold rOk at ok
  rw [Bool.and_eq_true, decide_eq_true_eq] at ok
  obtain ⟨o1, o2⟩ := ok
  have hv : rVal 0 rest = if rest / 4 = 0 then ldY (rFrac 0 rest) (1 - rBias 0) else ldY (rOne 0 rest) ((rest / 4 : Nat) - rBias 0) := rfl
  have hp : rParts 0 = 4 := rfl
  have hb : rBias 0 = 15 := rfl
  rw [hv]
  rw [hp, hb] at o2
  rw [hp] at o1
  rw [hb]
  obtain ⟨fr, hfr⟩ : ∃ x, x = rFrac 0 rest := ⟨_, rfl⟩
  obtain ⟨fo, hfo⟩ : ∃ x, x = rOne 0 rest := ⟨_, rfl⟩
  have hFR := hfr
  rw [← hfr, ← hfo] at o2
  rw [← hfr] at o1
  rw [← hfr, ← hfo]
  have hd : ((rest : Nat) : Int) / 4 = ((rest / 4 : Nat) : Int) := by omega
  have hm : ((rest : Nat) : Int) % 4 = ((rest % 4 : Nat) : Int) := by omega
  obtain ⟨q, hq⟩ : ∃ x, x = rest / 4 := ⟨_, rfl⟩
  obtain ⟨t, ht⟩ : ∃ x, x = rest % 4 := ⟨_, rfl⟩
  rw [← hq] at o2 hd
  rw [← ht] at hm o1
  rw [← hq]
  rw [show ((4 : Nat) : Int) = 4 from rfl] at o1
  have hq16 : q < 32 := by omega
  have e1 := fbits_some o1
  have e2 := fdr_some o1
  have hz0 := World.drewN_none
  have o1' : floatBits .quo .f64 (floatOfInt .f64 ((rest : Int) % 4)) (floatOfInt .f64 4) = some fr := by rw [hm]; exact o1
  clear hv hp hb hfr hfo ht o1
  by_cases h0 : q = 0
  · rw [if_pos h0]
    have hl : rest < 4 := by omega
    rw [hFR]
    match rest, hl with
    | 0, _ => exact rv0_0 w
    | 1, _ => exact rv0_1 w
    | 2, _ => exact rv0_2 w
    | 3, _ => exact rv0_3 w
  · rw [if_neg h0] at o2 ⊢
    rw [Bool.and_eq_true, decide_eq_true_eq] at o2
    obtain ⟨o2, o3⟩ := o2
    have e3 := fbits_some o2
    have e4 := fdr_some o2
    have hq0 : ((q : Int) == 0) = false := by simpa using h0
    have K := Lib.hid (fun W => math_Ldexp fo ((q : Int) - 15) o3 W)
    clear o2 o3 hq h0 o1' hFR
    go_enter Try.func53, Try.ntmps53
    go_wp2
    refine wp_region_drawn (fun f args u => False) (by kernel_rfl) (by kernel_rfl) ?_
    repeat (refine wset_step (fun K hK nq => ?_); go_simp; refine hK _ ?_; clear hK K)
    refine wset_nil ?_
    rintro w' ⟨dq, rfl⟩
    go_wp2_with fail
    refine (K.out _).mono ?_
    rintro e w1 ⟨rfl, rfl⟩
    go_wp2
    go_ret
    exact ⟨rfl, _, rfl⟩
theorem impl_restValue (k rest : Nat) (hk : k < 2) (hr : rest < 127) (w : World) : Calls Try.prog 53 #[.int .i64 k, .int .i64 rest] w fun e w' => e = .returned (.float .f64 (rVal k rest)) ∧ Dr w w' := by
  match k, hk with
  | 0, _ => exact impl_restValue0 rest hr w
  | 1, _ => exact impl_restValue1 rest hr w
theorem impl_greatestRest (k : Nat) (hk : k < 2) (w : World) : Calls Try.prog 52 #[.int .i64 k] w fun e w' => e = .returned (.int .i64 (rTop k : Nat)) ∧ w = w' := by
  match k, hk with
  | 0, _ =>
    rw [show ((0 : Nat) : Int) = 0 from rfl, show rTop 0 = 123 from rfl]
    go_enter Try.func52, Try.ntmps52
    go_wp2
    go_ret
    exact ⟨rfl, rfl⟩
  | 1, _ =>
    rw [show ((1 : Nat) : Int) = 1 from rfl, show rTop 1 = 126 from rfl]
    go_enter Try.func52, Try.ntmps52
    go_wp2
    go_ret
    exact ⟨rfl, rfl⟩
theorem impl_isEight (k : Nat) (hk : k < 2) (w : World) : Calls Try.prog 50 #[.int .i64 k] w fun e w' => e = .returned (.bool true) ∧ w = w' := by
  match k, hk with
  | 0, _ =>
    rw [show ((0 : Nat) : Int) = 0 from rfl]
    go_enter Try.func50, Try.ntmps50
    go_wp2
    go_ret
    exact ⟨rfl, rfl⟩
  | 1, _ =>
    rw [show ((1 : Nat) : Int) = 1 from rfl]
    go_enter Try.func50, Try.ntmps50
    go_wp2
    go_ret
    exact ⟨rfl, rfl⟩
end Go.Proofs.Ytnhikdjljjemlaa
/- Plain laws of floats as rational numbers: what a datum is worth, and orders. No condition. -/
namespace Go.Proofs.Ytnhikdjljjemlaa
open Go Go.RowKit Ieee
set_option linter.unusedVariables false
set_option linter.unusedSimpArgs false
def sg (s : Bool) : Rat := if s = true then -1 else 1
def num (s : Bool) (m : Nat) (p : Int) : Rat := sg s * (m : Rat) * (2 : Rat) ^ p
/-- what a datum is worth -/
def rv : Datum → Rat
  | .number s m p => num s m p
  | _ => 0
theorem two_ne : (2 : Rat) ≠ 0 := by decide
theorem pw_pos (p : Int) : (0 : Rat) < (2 : Rat) ^ p := Rat.zpow_pos (by decide)
theorem pw_add (p q : Int) : (2 : Rat) ^ (p + q) = (2 : Rat) ^ p * (2 : Rat) ^ q := Rat.zpow_add two_ne p q
theorem pw_nat (n : Nat) : (2 : Rat) ^ (n : Int) = ((2 ^ n : Nat) : Rat) := by rw [Rat.zpow_natCast, Rat.natCast_pow]; rfl
theorem pw_zero : (2 : Rat) ^ (0 : Int) = 1 := by decide +kernel
theorem signed_rv (s : Bool) (m k : Nat) : ((signed s m k : Int) : Rat) = sg s * (m : Rat) * (2 : Rat) ^ (k : Int) := by
  rw [pw_nat]
  unfold signed sg
  rw [Nat.shiftLeft_eq]
  cases s
  · simp only [Bool.false_eq_true, if_false]
    rw [Rat.intCast_natCast, Rat.natCast_mul]
    grind
  · simp only [if_true]
    rw [Rat.intCast_neg, Rat.intCast_natCast, Rat.natCast_mul]
    grind
theorem num_base {s : Bool} {m : Nat} {p b : Int} (h : b ≤ p) : num s m p = ((signed s m (p - b).toNat : Int) : Rat) * (2 : Rat) ^ b := by
  rw [signed_rv, show (((p - b).toNat : Nat) : Int) = p - b by omega]
  unfold num
  have := pw_add (p - b) b
  rw [show p - b + b = p by omega] at this
  rw [this]
  grind
theorem order_num (s t : Bool) (m n : Nat) (p q : Int) :
    ((Datum.number s m p).order (.number t n q) = some .lt ↔ num s m p < num t n q) ∧ ((Datum.number s m p).order (.number t n q) = some .gt ↔ num t n q < num s m p) ∧ ((Datum.number s m p).order (.number t n q) = some .eq ↔ num s m p = num t n q) := by
  obtain ⟨b, hb⟩ : ∃ b, b = min p q := ⟨_, rfl⟩
  have e1 := num_base (s := s) (m := m) (show b ≤ p by omega)
  have e2 := num_base (s := t) (m := n) (show b ≤ q by omega)
  have hp := pw_pos b
  simp only [Datum.order, ← hb, Option.some.injEq]
  generalize signed s m (p - b).toNat = A at e1 ⊢
  generalize signed t n (q - b).toNat = B at e2 ⊢
  generalize (2 : Rat) ^ b = c at *
  rw [e1, e2]
  have k1 : (A : Rat) * c < B * c ↔ A < B := by
    rw [Rat.mul_lt_mul_right hp, Rat.intCast_lt_intCast]
  have k2 : (B : Rat) * c < A * c ↔ B < A := by
    rw [Rat.mul_lt_mul_right hp, Rat.intCast_lt_intCast]
  refine ⟨?_, ?_, ?_⟩
  · rw [k1, Int.compare_eq_lt]
  · rw [k2, Int.compare_eq_gt]
  · rw [Int.compare_eq_eq]
    constructor
    · intro h; rw [h]
    · intro h
      have h1 : ¬ A < B := by rw [← k1, h]; exact Rat.lt_irrefl
      have h2 : ¬ B < A := by rw [← k2, h]; exact Rat.lt_irrefl
      omega
end Go.Proofs.Ytnhikdjljjemlaa
/- Plain laws of floats as rational numbers: what rounding leaves. No condition. -/
namespace Go.Proofs.Ytnhikdjljjemlaa
open Go Go.RowKit Ieee
set_option linter.unusedVariables false
set_option linter.unusedSimpArgs false
/-- 'r' is the rung nearest to 'V' (in units of the least place), the even one in the middle -/
structure Mid (f : Format) (V : Rat) (r : Nat) : Prop where
  le : r ≤ f.infRung
  low : r = 0 ∨ ((nval f (r - 1) : Rat) + nval f r ≤ 2 * V ∧ (r % 2 = 1 → (nval f (r - 1) : Rat) + nval f r < 2 * V))
  high : r = f.infRung ∨ (2 * V ≤ (nval f r : Rat) + nval f (r + 1) ∧ (r % 2 = 1 → 2 * V < (nval f r : Rat) + nval f (r + 1)))
theorem nat_rat_le {a b : Nat} (h : a ≤ b) : (a : Rat) ≤ b := Rat.natCast_le_natCast.2 h
theorem nat_rat_lt {a b : Nat} (h : a < b) : (a : Rat) < b := Rat.natCast_lt_natCast.2 h
theorem nval_le {f : Format} {x y : Nat} (h : x ≤ y) : nval f x ≤ nval f y := by
  rcases Nat.lt_or_ge x y with h1 | h1
  · exact Nat.le_of_lt (nval_lt h1)
  · have : x = y := by omega
    rw [this]; exact Nat.le_refl _
theorem Mid.mono {f : Format} {V W : Rat} {r s : Nat} (h : Mid f V r) (k : Mid f W s) (hv : V ≤ W) : r ≤ s := by
  rcases Nat.lt_or_ge s r with hlt | hge
  · exfalso
    have hr0 : r ≠ 0 := by omega
    have hs : s ≠ f.infRung := by have := h.le; omega
    obtain ⟨l1, l2⟩ := h.low.resolve_left hr0
    obtain ⟨u1, u2⟩ := k.high.resolve_left hs
    have a1 : (nval f s : Rat) ≤ nval f (r - 1) := nat_rat_le (nval_le (by omega))
    have a2 : (nval f (s + 1) : Rat) ≤ nval f r := nat_rat_le (nval_le (by omega))
    rcases Nat.lt_or_ge (s + 1) r with h2 | h2
    · have a3 : (nval f (s + 1) : Rat) < nval f r := nat_rat_lt (nval_lt h2)
      grind
    · have e : r = s + 1 := by omega
      subst e
      rcases Nat.mod_two_eq_zero_or_one s with h3 | h3
      · have := l2 (by omega)
        simp only [Nat.add_sub_cancel] at this l1
        grind
      · have := u2 h3
        simp only [Nat.add_sub_cancel] at l1
        grind
  · exact hge
theorem Mid.unique {f : Format} {V : Rat} {r s : Nat} (h : Mid f V r) (k : Mid f V s) : r = s :=
  Nat.le_antisymm (h.mono k Rat.le_refl) (k.mono h Rat.le_refl)
/-- what a number is exactly -/
theorem Mid.exact {f : Format} {r : Nat} (hr : r ≤ f.infRung) : Mid f (nval f r : Rat) r := by
  refine ⟨hr, ?_, ?_⟩
  · rcases Nat.eq_zero_or_pos r with h | h
    · exact .inl h
    · right
      have : (nval f (r - 1) : Rat) < nval f r := nat_rat_lt (nval_lt (by omega))
      constructor
      · grind
      · intro _; grind
  · right
    have : (nval f r : Rat) < nval f (r + 1) := nat_rat_lt (nval_lt (by omega))
    constructor
    · grind
    · intro _; grind
theorem Mid.half_even {f : Format} {r : Nat} (hr : r < f.infRung) {V : Rat} (hV : 2 * V = (nval f r : Rat) + nval f (r + 1)) : Mid f V (if r % 2 = 0 then r else r + 1) := by
  by_cases h : r % 2 = 0
  · rw [if_pos h]
    refine ⟨by omega, ?_, .inr ⟨by grind, fun h1 => by omega⟩⟩
    rcases Nat.eq_zero_or_pos r with h2 | h2
    · exact .inl h2
    · right
      have : (nval f (r - 1) : Rat) ≤ nval f (r + 1) := nat_rat_le (nval_le (by omega))
      exact ⟨by grind, fun h1 => by omega⟩
  · rw [if_neg h]
    refine ⟨by omega, .inr ⟨?_, fun h1 => by omega⟩, .inr ⟨?_, fun h1 => by omega⟩⟩
    · simp only [Nat.add_sub_cancel]; grind
    · have : (nval f r : Rat) ≤ nval f (r + 1 + 1) := nat_rat_le (nval_le (by omega))
      grind
/-- an integer nearest to a number -/
theorem cut_even (neg : Bool) (N d : Nat) : (2 * (Toward.even.cut neg N d : Rat) - 1) * (2 : Rat) ^ d ≤ 2 * N ∧ 2 * (N : Rat) ≤ (2 * (Toward.even.cut neg N d : Rat) + 1) * (2 : Rat) ^ d ∧
    ((Toward.even.cut neg N d) % 2 = 1 → (2 * (Toward.even.cut neg N d : Rat) - 1) * (2 : Rat) ^ d < 2 * N ∧ 2 * (N : Rat) < (2 * (Toward.even.cut neg N d : Rat) + 1) * (2 : Rat) ^ d) := by
  have hp : ∀ n : Nat, ((2 ^ n : Nat) : Rat) = (2 : Rat) ^ n := fun n => by rw [Rat.natCast_pow]; rfl
  unfold Toward.cut
  simp only [Nat.shiftLeft_eq, Nat.one_mul]
  by_cases h : d ≤ N.log2 + 2
  · rw [Nat.min_eq_left h]
    obtain ⟨g, hg⟩ : ∃ g, g = 2 ^ d := ⟨_, rfl⟩
    have hgp : 0 < g := by rw [hg]; exact Nat.two_pow_pos _
    rw [← hp, ← hg]
    have hdiv := Nat.div_add_mod N g
    have hmod := Nat.mod_lt N hgp
    generalize N / g = q at *
    generalize N % g = t at *
    obtain ⟨M, hM⟩ : ∃ M, M = g * q := ⟨_, rfl⟩
    have hN : (N : Rat) = (g : Rat) * q + t := by rw [← hdiv, Rat.natCast_add, Rat.natCast_mul]
    have ht0 : (0 : Rat) ≤ t := Rat.natCast_nonneg
    have htg : (t : Rat) < g := nat_rat_lt hmod
    have hg0 : (0 : Rat) < g := by have := nat_rat_lt hgp; simpa using this
    rw [hN]
    by_cases h1 : g < 2 * t
    · have h1r : (g : Rat) < 2 * t := by have := nat_rat_lt h1; rw [Rat.natCast_mul] at this; simpa using this
      simp only [h1, decide_true, Bool.true_or, Bool.toNat_true]
      rw [Rat.natCast_add]
      refine ⟨by grind, by grind, fun _ => ⟨by grind, by grind⟩⟩
    · by_cases h2 : g = 2 * t
      · have h2r : (g : Rat) = 2 * t := by rw [h2, Rat.natCast_mul]; rfl
        by_cases h3 : q % 2 = 1
        · have e : (decide (g < 2 * t) || (g == 2 * t && q % 2 == 1)) = true := by simp [h1, ← h2, h3]
          rw [e]
          simp only [Bool.toNat_true]
          rw [Rat.natCast_add]
          refine ⟨by grind, by grind, fun h4 => by omega⟩
        · have e : (decide (g < 2 * t) || (g == 2 * t && q % 2 == 1)) = false := by simp [h1, h3]
          rw [e]
          simp only [Bool.toNat_false, Nat.add_zero]
          refine ⟨by grind, by grind, fun h4 => by omega⟩
      · have h4 : 2 * t < g := by omega
        have h4r : 2 * (t : Rat) < g := by have := nat_rat_lt h4; rw [Rat.natCast_mul] at this; simpa using this
        have e : (decide (g < 2 * t) || (g == 2 * t && q % 2 == 1)) = false := by simp [h1, h2]
        rw [e]
        simp only [Bool.toNat_false, Nat.add_zero]
        refine ⟨by grind, by grind, fun _ => ⟨by grind, by grind⟩⟩
  · rw [Nat.min_eq_right (by omega)]
    have hlt : N < 2 ^ (N.log2 + 1) := Nat.lt_log2_self
    have h2 : 2 ^ (N.log2 + 2) = 2 * 2 ^ (N.log2 + 1) := by rw [Nat.pow_succ]; omega
    have e1 : N / 2 ^ (N.log2 + 2) = 0 := Nat.div_eq_of_lt (by omega)
    have e2 : N % 2 ^ (N.log2 + 2) = N := Nat.mod_eq_of_lt (by omega)
    rw [e1, e2]
    have e3 : (decide (2 ^ (N.log2 + 2) < 2 * N) || (2 ^ (N.log2 + 2) == 2 * N && 0 % 2 == 1)) = false := by
      simp; omega
    rw [e3]
    simp only [Bool.toNat_false, Nat.add_zero]
    have h5 : 2 * N < 2 ^ d := by
      have : 2 ^ (N.log2 + 2) ≤ 2 ^ d := Nat.pow_le_pow_right (by decide) (by omega)
      omega
    have h5r : 2 * (N : Rat) < (2 : Rat) ^ d := by have := nat_rat_lt h5; rw [hp, Rat.natCast_mul] at this; simpa using this
    have h6 : (0 : Rat) ≤ N := Rat.natCast_nonneg
    have h7 : (0 : Rat) < (2 : Rat) ^ d := by rw [← hp]; have := nat_rat_lt (Nat.two_pow_pos d); simpa using this
    refine ⟨by grind, by grind, fun h8 => by omega⟩
theorem binade_pos (f : Format) : 0 < f.binade := Nat.two_pow_pos _
/-- the rungs of one binade -/
theorem nval_rung (f : Format) (e k : Nat) (h1 : e = 0 ∨ f.binade ≤ k) (h2 : k ≤ 2 * f.binade) : nval f (e * f.binade + k) = k * 2 ^ e := by
  have hB := binade_pos f
  unfold nval
  rcases Nat.lt_or_ge k f.binade with hk | hk
  · have he : e = 0 := by omega
    subst he
    rw [if_pos (by omega)]; simp
  · rw [if_neg (by have := Nat.zero_le (e * f.binade); omega)]
    rcases Nat.lt_or_ge k (2 * f.binade) with hk2 | hk2
    · have e1 : (e * f.binade + k) / f.binade = e + 1 := by
        rw [Nat.add_comm, Nat.add_mul_div_right _ _ hB]
        have : k / f.binade = 1 := by
          rw [Nat.div_eq_iff hB]; omega
        omega
      have e2 : (e * f.binade + k) % f.binade = k - f.binade := by
        rw [Nat.add_comm, Nat.add_mul_mod_self_right, Nat.mod_eq_sub_mod hk, Nat.mod_eq_of_lt (by omega)]
      rw [e1, e2]
      congr 1; omega
    · have hke : k = 2 * f.binade := by omega
      subst hke
      have e0 : e * f.binade + 2 * f.binade = (e + 2) * f.binade := by rw [Nat.add_mul]
      rw [e0, Nat.mul_div_cancel _ hB, Nat.mul_mod_left]
      simp only [Nat.add_zero]
      rw [show e + 2 - 1 = e + 1 by omega, Nat.pow_succ]
      rw [Nat.mul_comm (2 ^ e) 2, ← Nat.mul_assoc, Nat.mul_comm f.binade 2]
theorem binade_even (f : Format) (hF : 1 ≤ f.fractionBits) (e k : Nat) : (e * f.binade + k) % 2 = k % 2 := by
  have : f.binade % 2 = 0 := by
    unfold Format.binade
    obtain ⟨n, hn⟩ : ∃ n, f.fractionBits = n + 1 := ⟨f.fractionBits - 1, by omega⟩
    rw [hn, Nat.pow_succ]; omega
  rw [Nat.add_mod, Nat.mul_mod, this]; simp
/-- what the format writes is nearest -/
theorem near_mid (f : Format) (hF : 1 ≤ f.fractionBits) (neg : Bool) (m : Nat) (p : Int) : ∃ r, f.nearest neg m p = f.word neg r ∧ Mid f ((m : Rat) * (2 : Rat) ^ (p - f.leastPlace)) r := by
  have hB := binade_pos f
  by_cases hm : m = 0
  · subst hm
    refine ⟨0, by unfold Format.nearest; rw [if_pos rfl], Nat.zero_le _, .inl rfl, .inr ?_⟩
    have h1 : (0 : Rat) ≤ nval f 0 := Rat.natCast_nonneg
    have h2 : (nval f 0 : Rat) < nval f (0 + 1) := nat_rat_lt (nval_lt (by omega))
    have h3 : ((0 : Nat) : Rat) = 0 := rfl
    rw [h3, Rat.zero_mul]
    exact ⟨by grind, fun h => by omega⟩
  unfold Format.nearest
  rw [if_neg hm]
  obtain ⟨last, hlast⟩ : ∃ last, last = max (p + m.log2 - f.fractionBits) f.leastPlace := ⟨_, rfl⟩
  simp only [← hlast]
  obtain ⟨e, he⟩ : ∃ e : Nat, last - f.leastPlace = e := ⟨(last - f.leastPlace).toNat, by omega⟩
  rw [he]
  obtain ⟨k, hk⟩ : ∃ k, k = Toward.even.cut neg (m <<< (p - last).toNat) (last - p).toNat := ⟨_, rfl⟩
  rw [← hk]
  obtain ⟨c1, c2, c3⟩ := cut_even neg (m <<< (p - last).toNat) (last - p).toNat
  rw [← hk] at c1 c2 c3
  -- the number in units of its last place
  obtain ⟨W, hW⟩ : ∃ W : Rat, W = (m : Rat) * (2 : Rat) ^ (p - last) := ⟨_, rfl⟩
  have hpd : (0 : Rat) < (2 : Rat) ^ (last - p).toNat := Rat.pow_pos (by decide)
  have hWN : ((m <<< (p - last).toNat : Nat) : Rat) = W * (2 : Rat) ^ (last - p).toNat := by
    rw [hW, Nat.shiftLeft_eq, Rat.natCast_mul, ← pw_nat]
    have e1 : (2 : Rat) ^ (p - last) * (2 : Rat) ^ (last - p).toNat = (2 : Rat) ^ (((p - last).toNat : Nat) : Int) := by
      rw [← Rat.zpow_natCast (2 : Rat) (last - p).toNat, ← pw_add]; congr 1; omega
    rw [← e1]; grind
  rw [hWN] at c1 c2 c3
  have d1 : 2 * (k : Rat) - 1 ≤ 2 * W := by
    apply Rat.le_of_mul_le_mul_right _ hpd; grind
  have d2 : 2 * W ≤ 2 * (k : Rat) + 1 := by
    apply Rat.le_of_mul_le_mul_right _ hpd; grind
  have d3 : k % 2 = 1 → 2 * (k : Rat) - 1 < 2 * W ∧ 2 * W < 2 * (k : Rat) + 1 := by
    intro h
    obtain ⟨x1, x2⟩ := c3 h
    constructor
    · rw [← Rat.not_le]; intro h; have := Rat.mul_le_mul_of_nonneg_right h (Rat.le_of_lt hpd); grind
    · rw [← Rat.not_le]; intro h; have := Rat.mul_le_mul_of_nonneg_right h (Rat.le_of_lt hpd); grind
  clear c1 c2 c3 hWN hpd
  have hVW : (m : Rat) * (2 : Rat) ^ (p - f.leastPlace) = W * (2 : Rat) ^ e := by
    rw [hW, ← Rat.zpow_natCast (2 : Rat) e]
    have : (2 : Rat) ^ (p - f.leastPlace) = (2 : Rat) ^ (p - last) * (2 : Rat) ^ (e : Int) := by rw [← pw_add]; congr 1; omega
    rw [this]; grind
  rw [hVW]
  -- the size of it
  have hlog1 := Nat.log2_self_le hm
  have hlog2 : m < 2 ^ (m.log2 + 1) := Nat.lt_log2_self
  have hBF : (f.binade : Rat) = (2 : Rat) ^ (f.fractionBits : Int) := by rw [pw_nat]; rfl
  have hW2 : W < 2 * f.binade := by
    have h1 : (m : Rat) < (2 : Rat) ^ ((m.log2 + 1 : Nat) : Int) := by rw [pw_nat]; exact nat_rat_lt hlog2
    have h2 : W < (2 : Rat) ^ ((m.log2 + 1 : Nat) : Int) * (2 : Rat) ^ (p - last) := by
      rw [hW]; exact Rat.mul_lt_mul_of_pos_right h1 (pw_pos _)
    have h3 : (2 : Rat) ^ ((m.log2 + 1 : Nat) : Int) * (2 : Rat) ^ (p - last) ≤ 2 * f.binade := by
      rw [← pw_add, hBF]
      have e21 : (2 : Rat) ^ (1 : Int) = 2 := by decide +kernel
      have h4 : (2 : Rat) * (2 : Rat) ^ (f.fractionBits : Int) = (2 : Rat) ^ ((f.fractionBits : Int) + 1) := by rw [pw_add, e21]; grind
      rw [h4]
      have h5 : ((m.log2 + 1 : Nat) : Int) + (p - last) ≤ (f.fractionBits : Int) + 1 := by omega
      obtain ⟨n, hn⟩ : ∃ n : Nat, (f.fractionBits : Int) + 1 = ((m.log2 + 1 : Nat) : Int) + (p - last) + n := ⟨((f.fractionBits : Int) + 1 - (((m.log2 + 1 : Nat) : Int) + (p - last))).toNat, by omega⟩
      rw [hn, pw_add _ (n : Int)]
      have h6 : (1 : Rat) ≤ (2 : Rat) ^ (n : Int) := by rw [pw_nat]; have := nat_rat_le (Nat.one_le_two_pow (n := n)); simpa using this
      have h7 := pw_pos (((m.log2 + 1 : Nat) : Int) + (p - last))
      have := Rat.mul_le_mul_of_nonneg_left h6 (Rat.le_of_lt h7)
      grind
    grind
  have hW1 : e = 0 ∨ (f.binade : Rat) ≤ W := by
    rcases Nat.eq_zero_or_pos e with h0 | h0
    · exact .inl h0
    · right
      have hl : last = p + m.log2 - f.fractionBits := by omega
      have h1 : (2 : Rat) ^ ((m.log2 : Nat) : Int) ≤ (m : Rat) := by rw [pw_nat]; exact nat_rat_le hlog1
      have h2 : (2 : Rat) ^ ((m.log2 : Nat) : Int) * (2 : Rat) ^ (p - last) ≤ W := by
        rw [hW]; exact Rat.mul_le_mul_of_nonneg_right h1 (Rat.le_of_lt (pw_pos _))
      rw [← pw_add] at h2
      have h3 : ((m.log2 : Nat) : Int) + (p - last) = f.fractionBits := by omega
      rw [h3, ← hBF] at h2
      exact h2
  have hW0 : 0 ≤ W := by rw [hW]; exact Rat.mul_nonneg Rat.natCast_nonneg (Rat.le_of_lt (pw_pos _))
  have hk2 : k ≤ 2 * f.binade := by
    have h1 : (2 * k : Nat) < 4 * f.binade + 2 := by
      have : ((2 * k : Nat) : Rat) < ((4 * f.binade + 2 : Nat) : Rat) := by
        rw [Rat.natCast_mul, Rat.natCast_add, Rat.natCast_mul]
        have e2 : ((2 : Nat) : Rat) = 2 := rfl
        have e4 : ((4 : Nat) : Rat) = 4 := rfl
        rw [e2, e4]; grind
      exact Rat.natCast_lt_natCast.1 this
    omega
  have hk1 : e = 0 ∨ f.binade ≤ k := by
    rcases hW1 with h | h
    · exact .inl h
    · right
      have : (2 * f.binade : Nat) < 2 * k + 2 := by
        have : ((2 * f.binade : Nat) : Rat) < ((2 * k + 2 : Nat) : Rat) := by
          rw [Rat.natCast_mul, Rat.natCast_add, Rat.natCast_mul]
          have e2 : ((2 : Nat) : Rat) = 2 := rfl
          rw [e2]; grind
        exact Rat.natCast_lt_natCast.1 this
      omega
  have hE : (0 : Rat) < (2 : Rat) ^ e := Rat.pow_pos (by decide)
  have hEn : ∀ j : Nat, ((j * 2 ^ e : Nat) : Rat) = (j : Rat) * (2 : Rat) ^ e := fun j => by rw [Rat.natCast_mul, Rat.natCast_pow]; rfl
  obtain ⟨R, hR⟩ : ∃ R, R = e * f.binade + k := ⟨_, rfl⟩
  have hnR : (nval f R : Rat) = (k : Rat) * (2 : Rat) ^ e := by rw [hR, nval_rung f e k hk1 hk2, hEn]
  have hpar : R % 2 = k % 2 := by rw [hR]; exact binade_even f hF e k
  -- below
  have hlow : R = 0 ∨ ((nval f (R - 1) : Rat) + nval f R ≤ 2 * (W * (2 : Rat) ^ e) ∧ (R % 2 = 1 → (nval f (R - 1) : Rat) + nval f R < 2 * (W * (2 : Rat) ^ e))) := by
    rcases Nat.eq_zero_or_pos R with h0 | h0
    · exact .inl h0
    · right
      by_cases hkb : e = 0 ∨ f.binade + 1 ≤ k
      · have hk0 : 1 ≤ k := by
          rcases hkb with h | h
          · subst h; omega
          · omega
        have hprev : (nval f (R - 1) : Rat) = ((k : Rat) - 1) * (2 : Rat) ^ e := by
          have : R - 1 = e * f.binade + (k - 1) := by omega
          rw [this, nval_rung f e (k - 1) (by omega) (by omega), hEn]
          congr 1
          have : ((k - 1 + 1 : Nat) : Rat) = (k : Rat) := by congr 1; omega
          rw [Rat.natCast_add] at this
          have e1 : ((1 : Nat) : Rat) = 1 := rfl
          rw [e1] at this; grind
        rw [hprev, hnR]
        have g1 := Rat.mul_le_mul_of_nonneg_right d1 (Rat.le_of_lt hE)
        refine ⟨by grind, fun h => ?_⟩
        have g2 := Rat.mul_lt_mul_of_pos_right (d3 (by omega)).1 hE
        grind
      · have he1 : e ≠ 0 := fun h => hkb (.inl h)
        have hke : k = f.binade := by have := hk1.resolve_left he1; omega
        have hWb := hW1.resolve_left he1
        have hprev : (nval f (R - 1) : Rat) < nval f R := nat_rat_lt (nval_lt (by omega))
        have g1 := Rat.mul_le_mul_of_nonneg_right hWb (Rat.le_of_lt hE)
        rw [hnR] at hprev ⊢
        have hkr : (k : Rat) = f.binade := by rw [hke]
        rw [hkr] at hprev ⊢
        exact ⟨by grind, fun _ => by grind⟩
  -- above
  have hhigh : 2 * (W * (2 : Rat) ^ e) ≤ (nval f R : Rat) + nval f (R + 1) ∧ (R % 2 = 1 → 2 * (W * (2 : Rat) ^ e) < (nval f R : Rat) + nval f (R + 1)) := by
    by_cases hkb : k + 1 ≤ 2 * f.binade
    · have hnext : (nval f (R + 1) : Rat) = ((k : Rat) + 1) * (2 : Rat) ^ e := by
        have : R + 1 = e * f.binade + (k + 1) := by omega
        rw [this, nval_rung f e (k + 1) (by omega) hkb, hEn, Rat.natCast_add]; rfl
      rw [hnext, hnR]
      have g1 := Rat.mul_le_mul_of_nonneg_right d2 (Rat.le_of_lt hE)
      refine ⟨by grind, fun h => ?_⟩
      have g2 := Rat.mul_lt_mul_of_pos_right (d3 (by omega)).2 hE
      grind
    · have hke : k = 2 * f.binade := by omega
      have hnext : (nval f R : Rat) < nval f (R + 1) := nat_rat_lt (nval_lt (by omega))
      have g1 := Rat.mul_lt_mul_of_pos_right hW2 hE
      rw [hnR] at hnext ⊢
      have hkr : (k : Rat) = 2 * f.binade := by rw [hke, Rat.natCast_mul]; rfl
      rw [hkr] at hnext ⊢
      exact ⟨by grind, fun _ => by grind⟩
  rw [Int.toNat_natCast, ← hR]
  refine ⟨min R f.infRung, rfl, Nat.min_le_right _ _, ?_, ?_⟩
  · rcases Nat.lt_or_ge f.infRung R with h | h
    · rw [Nat.min_eq_right (by omega)]
      rcases Nat.eq_zero_or_pos f.infRung with h0 | h0
      · exact .inl h0
      · right
        have hev : f.infRung % 2 = 0 := by
          unfold Format.infRung
          have := binade_even f hF (2 ^ f.exponentBits - 1) 0
          simpa using this
        obtain ⟨l1, _⟩ := hlow.resolve_left (by omega)
        have a1 : (nval f (f.infRung - 1) : Rat) ≤ nval f (R - 1) := nat_rat_le (nval_le (by omega))
        have a2 : (nval f f.infRung : Rat) ≤ nval f R := nat_rat_le (nval_le (by omega))
        exact ⟨by grind, fun h => by omega⟩
    · rw [Nat.min_eq_left h]; exact hlow
  · rcases Nat.lt_or_ge R f.infRung with h | h
    · rw [Nat.min_eq_left (by omega)]; exact .inr hhigh
    · rw [Nat.min_eq_right h]; exact .inl rfl
end Go.Proofs.Ytnhikdjljjemlaa
/- Plain laws of floats as rational numbers: each operation leaves the nearest number. No condition. -/
namespace Go.Proofs.Ytnhikdjljjemlaa
open Go Go.RowKit Ieee
set_option linter.unusedVariables false
set_option linter.unusedSimpArgs false
theorem rat_tri (a b : Rat) : a < b ∨ a = b ∨ b < a := by grind
def rabs (q : Rat) : Rat := if q < 0 then -q else q
theorem rabs_nonneg (q : Rat) : 0 ≤ rabs q := by unfold rabs; split <;> grind
theorem rabs_pos {q : Rat} (h : 0 ≤ q) : rabs q = q := by unfold rabs; rw [if_neg (by grind)]
theorem rabs_neg {q : Rat} (h : q ≤ 0) : rabs q = -q := by unfold rabs; split <;> grind
theorem sg_abs (s : Bool) {v : Rat} (hv : 0 ≤ v) : rabs (sg s * v) = v := by
  unfold sg
  cases s
  · simp only [Bool.false_eq_true, if_false]; rw [Rat.one_mul, rabs_pos hv]
  · simp only [if_true]; rw [rabs_neg (by grind)]; grind
/-- the word of the number nearest to 'q' -/
def Near (f : Format) (q : Rat) (w : Nat) : Prop :=
  ∃ s r, w = f.word s r ∧ Mid f (rabs q * (2 : Rat) ^ (-f.leastPlace)) r ∧ (q < 0 → s = true) ∧ (0 < q → s = false)
/-- a finite word -/
def Fin (f : Format) (w : Nat) : Prop := ∃ s r, w = f.word s r ∧ r < f.infRung
/-- what a word is worth -/
def val (f : Format) (w : Nat) : Rat := rv (f.read w)
theorem read_num (f : Format) (s : Bool) {r : Nat} (hr : r < f.infRung) : ∃ m p, f.read (f.word s r) = .number s m p ∧ (m : Rat) * (2 : Rat) ^ p = (nval f r : Rat) * (2 : Rat) ^ f.leastPlace := by
  obtain ⟨m, p, h1, h2, h3⟩ := read_fin f s hr
  refine ⟨m, p, h1, ?_⟩
  rw [← h3, Nat.shiftLeft_eq, Rat.natCast_mul, ← pw_nat]
  have : (2 : Rat) ^ p = (2 : Rat) ^ (((p - f.leastPlace).toNat : Nat) : Int) * (2 : Rat) ^ f.leastPlace := by rw [← pw_add]; congr 1; omega
  rw [this]; grind
theorem val_word (f : Format) (s : Bool) {r : Nat} (hr : r < f.infRung) : val f (f.word s r) = sg s * ((nval f r : Rat) * (2 : Rat) ^ f.leastPlace) := by
  obtain ⟨m, p, h1, h2⟩ := read_num f s hr
  unfold val
  rw [h1]
  unfold rv num
  rw [← h2]; grind
theorem pw_cancel (p : Int) : (2 : Rat) ^ p * (2 : Rat) ^ (-p) = 1 := by
  rw [← pw_add, show p + -p = 0 by omega, pw_zero]
theorem units (f : Format) (v : Rat) : v * (2 : Rat) ^ f.leastPlace * (2 : Rat) ^ (-f.leastPlace) = v := by
  rw [Rat.mul_assoc, pw_cancel]; grind
theorem units' (f : Format) (v : Rat) : v * (2 : Rat) ^ (-f.leastPlace) * (2 : Rat) ^ f.leastPlace = v := by
  rw [Rat.mul_assoc, Rat.mul_comm ((2 : Rat) ^ (-f.leastPlace)), pw_cancel]; grind
theorem word_inj {f : Format} {s t : Bool} {r q : Nat} (hr : r < f.signWeight) (hq : q < f.signWeight) (h : f.word s r = f.word t q) : s = t ∧ r = q := by
  unfold Format.word at h
  cases s <;> cases t <;> simp at h ⊢ <;> omega
/-- a number of the format is what is nearest to itself -/
theorem Near.exact {f : Format} {w : Nat} (h : Fin f w) {q : Rat} (hq : q = val f w) (h0 : q ≠ 0) {w' : Nat} (hn : Near f q w') : w' = w := by
  obtain ⟨s, r, rfl, hr⟩ := h
  obtain ⟨t, r', rfl, hm, h1, h2⟩ := hn
  rw [val_word f s hr] at hq
  have hp := pw_pos f.leastPlace
  have hn0 : (0 : Rat) ≤ nval f r := Rat.natCast_nonneg
  have hv0 : (0 : Rat) ≤ (nval f r : Rat) * (2 : Rat) ^ f.leastPlace := Rat.mul_nonneg hn0 (Rat.le_of_lt hp)
  have ha : rabs q = (nval f r : Rat) * (2 : Rat) ^ f.leastPlace := by rw [hq]; exact sg_abs s hv0
  rw [ha, units] at hm
  have e := hm.unique (Mid.exact (Nat.le_of_lt hr))
  subst e
  have : t = s := by
    unfold sg at hq
    cases s
    · simp only [Bool.false_eq_true, if_false] at hq
      rw [Rat.one_mul] at hq
      exact h2 (by grind)
    · simp only [if_true] at hq
      exact h1 (by grind)
  rw [this]
/-- the same where zeros are not told apart -/
theorem Near.val_exact {f : Format} {w : Nat} (h : Fin f w) {q : Rat} (hq : q = val f w) {w' : Nat} (hn : Near f q w') : Fin f w' ∧ val f w' = q := by
  by_cases h0 : q = 0
  · obtain ⟨t, r', rfl, hm, h1, h2⟩ := hn
    obtain ⟨s, r, rfl, hr⟩ := h
    have : Mid f (rabs q * (2 : Rat) ^ (-f.leastPlace)) 0 := by
      rw [h0, rabs_pos Rat.le_refl, Rat.zero_mul]
      have := Mid.exact (f := f) (r := 0) (Nat.zero_le _)
      rw [nval_zero] at this; exact this
    have e := hm.unique this
    subst e
    have hi : 0 < f.infRung := by omega
    refine ⟨⟨t, 0, rfl, hi⟩, ?_⟩
    rw [val_word f t hi, nval_zero, h0]
    have e0 : ((0 : Nat) : Rat) = 0 := rfl
    rw [e0]; grind
  · have := hn.exact h hq h0
    subst this
    exact ⟨h, hq.symm⟩
theorem abs_val (f : Format) (s : Bool) {r : Nat} (hr : r < f.infRung) : rabs (val f (f.word s r)) * (2 : Rat) ^ (-f.leastPlace) = nval f r := by
  rw [val_word f s hr, sg_abs s (Rat.mul_nonneg Rat.natCast_nonneg (Rat.le_of_lt (pw_pos _))), units]
/-- nearest numbers stand as the numbers do -/
theorem Near.mono {f : Format} {q q' : Rat} {w w' : Nat} (h : Near f q w) (h' : Near f q' w') (hw : Fin f w) (hw' : Fin f w') (hI : f.infRung < f.signWeight) (hq : q ≤ q') : val f w ≤ val f w' := by
  obtain ⟨s, r, rfl, hm, h1, h2⟩ := h
  obtain ⟨t, r', rfl, hm', h1', h2'⟩ := h'
  obtain ⟨s0, r0, e0, hr⟩ := hw
  obtain ⟨t0, r0', e0', hr'⟩ := hw'
  obtain ⟨rfl, rfl⟩ := word_inj (by have := hm.le; omega) (by omega) e0
  obtain ⟨rfl, rfl⟩ := word_inj (by have := hm'.le; omega) (by omega) e0'
  rw [val_word f _ hr, val_word f _ hr']
  have hp := pw_pos f.leastPlace
  have hpn := pw_pos (-f.leastPlace)
  have n0 : (0 : Rat) ≤ (nval f r : Rat) * (2 : Rat) ^ f.leastPlace := Rat.mul_nonneg Rat.natCast_nonneg (Rat.le_of_lt hp)
  have n1 : (0 : Rat) ≤ (nval f r' : Rat) * (2 : Rat) ^ f.leastPlace := Rat.mul_nonneg Rat.natCast_nonneg (Rat.le_of_lt hp)
  have zero : ∀ {x : Rat} {k : Nat}, x = 0 → Mid f (rabs x * (2 : Rat) ^ (-f.leastPlace)) k → k = 0 := by
    intro x k hx hk
    rw [hx, rabs_pos Rat.le_refl, Rat.zero_mul] at hk
    have := Mid.exact (f := f) (r := 0) (Nat.zero_le _)
    rw [nval_zero] at this
    exact hk.unique this
  have z0 : (nval f 0 : Rat) = 0 := by rw [nval_zero]; rfl
  unfold sg
  rcases rat_tri q 0 with a | a | a
  · rw [h1 a]
    rcases rat_tri q' 0 with b | b | b
    · rw [h1' b]
      have hle : rabs q' * (2 : Rat) ^ (-f.leastPlace) ≤ rabs q * (2 : Rat) ^ (-f.leastPlace) := by
        apply Rat.mul_le_mul_of_nonneg_right _ (Rat.le_of_lt hpn)
        rw [rabs_neg (Rat.le_of_lt a), rabs_neg (Rat.le_of_lt b)]; grind
      have := nat_rat_le (nval_le (f := f) (hm'.mono hm hle))
      have := Rat.mul_le_mul_of_nonneg_right this (Rat.le_of_lt hp)
      simp only [if_true]; grind
    · have := zero b hm'
      subst this
      rw [z0]
      simp only [if_true]; grind
    · rw [h2' b]
      simp only [if_true, Bool.false_eq_true, if_false]; grind
  · have := zero a hm
    subst this
    rw [z0]
    rcases rat_tri q' 0 with b | b | b
    · grind
    · have := zero b hm'
      subst this
      rw [z0]; grind
    · rw [h2' b]
      simp only [Bool.false_eq_true, if_false]; grind
  · rw [h2 a, h2' (by grind)]
    have hle : rabs q * (2 : Rat) ^ (-f.leastPlace) ≤ rabs q' * (2 : Rat) ^ (-f.leastPlace) := by
      apply Rat.mul_le_mul_of_nonneg_right _ (Rat.le_of_lt hpn)
      rw [rabs_pos (Rat.le_of_lt a), rabs_pos (by grind)]; exact hq
    have := nat_rat_le (nval_le (f := f) (hm.mono hm' hle))
    have := Rat.mul_le_mul_of_nonneg_right this (Rat.le_of_lt hp)
    simp only [Bool.false_eq_true, if_false]; grind
/-- what is written for a number -/
theorem near_num (f : Format) (hF : 1 ≤ f.fractionBits) (s : Bool) (m : Nat) (p : Int) : Near f (num s m p) (f.nearest s m p) := by
  obtain ⟨r, h1, h2⟩ := near_mid f hF s m p
  have hp := pw_pos p
  have hm : (0 : Rat) ≤ m := Rat.natCast_nonneg
  have hv : (0 : Rat) ≤ (m : Rat) * (2 : Rat) ^ p := Rat.mul_nonneg hm (Rat.le_of_lt hp)
  refine ⟨s, r, h1, ?_, ?_, ?_⟩
  · have e : num s m p = sg s * ((m : Rat) * (2 : Rat) ^ p) := by unfold num; grind
    rw [e, sg_abs s hv]
    have : (2 : Rat) ^ (p - f.leastPlace) = (2 : Rat) ^ p * (2 : Rat) ^ (-f.leastPlace) := by rw [← pw_add]; congr 1
    rw [this] at h2
    rw [Rat.mul_assoc]; exact h2
  · intro h
    unfold num sg at h
    cases s
    · simp only [Bool.false_eq_true, if_false] at h
      grind
    · rfl
  · intro h
    unfold num sg at h
    cases s
    · rfl
    · simp only [if_true] at h
      grind
end Go.Proofs.Ytnhikdjljjemlaa
/- Plain laws of floats as rational numbers: quotients. No condition. -/
namespace Go.Proofs.Ytnhikdjljjemlaa
open Go Go.RowKit Ieee
set_option linter.unusedVariables false
set_option linter.unusedSimpArgs false
theorem nval_dvd (f : Format) {k r : Nat} (h : (k + 1) * f.binade ≤ r) : ∃ b, nval f r = b * 2 ^ k := by
  have hB := binade_pos f
  have hr : f.binade ≤ r := by
    have : f.binade ≤ (k + 1) * f.binade := Nat.le_mul_of_pos_left _ (by omega)
    omega
  unfold nval
  rw [if_neg (by omega)]
  have h1 : k + 1 ≤ r / f.binade := (Nat.le_div_iff_mul_le hB).2 h
  obtain ⟨d, hd⟩ : ∃ d, r / f.binade - 1 = d + k := ⟨r / f.binade - 1 - k, by omega⟩
  rw [hd, Nat.pow_add]
  exact ⟨(f.binade + r % f.binade) * 2 ^ d, by rw [Nat.mul_assoc]⟩
theorem nval_head (f : Format) (k : Nat) : nval f ((k + 1) * f.binade) = f.binade * 2 ^ k := by
  have := nval_rung f k f.binade (.inr (Nat.le_refl _)) (by omega)
  rw [← this]; congr 1; rw [Nat.add_mul]; omega
/-- between a number and one that a bit stands for no threshold lies -/
theorem sticky_mid (f : Format) (hF : 1 ≤ f.fractionBits) (dq : Nat) (hd : 2 ^ (f.fractionBits + 1) ≤ dq) (P : Int) {Q : Rat} {r : Nat}
    (hm : Mid f (((2 * dq + 1 : Nat) : Rat) * (2 : Rat) ^ P) r) (q1 : ((2 * dq : Nat) : Rat) * (2 : Rat) ^ P < Q) (q2 : Q < ((2 * dq + 2 : Nat) : Rat) * (2 : Rat) ^ P) : Mid f Q r := by
  have hB := binade_pos f
  have hc := pw_pos P
  have e4 : (2 : Rat) ^ (P + 2) = 4 * (2 : Rat) ^ P := by
    have : (2 : Rat) ^ (2 : Int) = 4 := by decide +kernel
    rw [pw_add, this]; grind
  rw [Rat.natCast_add, Rat.natCast_mul] at hm q2
  rw [Rat.natCast_mul] at q1
  have c2 : ((2 : Nat) : Rat) = 2 := rfl
  have c1 : ((1 : Nat) : Rat) = 1 := rfl
  rw [c2] at hm q1 q2
  rw [c1] at hm
  -- a multiple of four units
  have low : ∀ b : Nat, (b : Rat) * (2 : Rat) ^ (P + 2) ≤ 2 * ((2 * (dq : Rat) + 1) * (2 : Rat) ^ P) → (b : Rat) * (2 : Rat) ^ (P + 2) < 2 * Q := by
    intro b hb
    rw [e4] at hb ⊢
    have h1 : 4 * (b : Rat) ≤ 4 * (dq : Rat) + 2 := by apply Rat.le_of_mul_le_mul_right _ hc; grind
    have h2 : b ≤ dq := by
      have : ((4 * b : Nat) : Rat) < ((4 * dq + 3 : Nat) : Rat) := by
        rw [Rat.natCast_mul, Rat.natCast_add, Rat.natCast_mul]
        have c4 : ((4 : Nat) : Rat) = 4 := rfl
        have c3 : ((3 : Nat) : Rat) = 3 := rfl
        rw [c4, c3]; grind
      have := Rat.natCast_lt_natCast.1 this
      omega
    have h3 := Rat.mul_le_mul_of_nonneg_right (nat_rat_le h2) (Rat.le_of_lt hc)
    grind
  have high : ∀ b : Nat, 2 * ((2 * (dq : Rat) + 1) * (2 : Rat) ^ P) ≤ (b : Rat) * (2 : Rat) ^ (P + 2) → 2 * Q < (b : Rat) * (2 : Rat) ^ (P + 2) := by
    intro b hb
    rw [e4] at hb ⊢
    have h1 : 4 * (dq : Rat) + 2 ≤ 4 * (b : Rat) := by apply Rat.le_of_mul_le_mul_right _ hc; grind
    have h2 : dq + 1 ≤ b := by
      have : ((4 * dq + 1 : Nat) : Rat) < ((4 * b : Nat) : Rat) := by
        rw [Rat.natCast_mul, Rat.natCast_add, Rat.natCast_mul]
        have c4 : ((4 : Nat) : Rat) = 4 := rfl
        rw [c4, c1]; grind
      have := Rat.natCast_lt_natCast.1 this
      omega
    have h3 := Rat.mul_le_mul_of_nonneg_right (nat_rat_le h2) (Rat.le_of_lt hc)
    rw [Rat.natCast_add, c1] at h3
    grind
  by_cases hk : P + 2 ≤ 0
  · -- fine units: every threshold is such a multiple
    obtain ⟨k, hkk⟩ : ∃ k : Nat, P + 2 = -(k : Int) := ⟨(-(P + 2)).toNat, by omega⟩
    have mult : ∀ N : Nat, (N : Rat) = ((N * 2 ^ k : Nat) : Rat) * (2 : Rat) ^ (P + 2) := by
      intro N
      rw [hkk, Rat.natCast_mul, ← pw_nat, Rat.mul_assoc, pw_cancel]; grind
    refine ⟨hm.le, ?_, ?_⟩
    · rcases hm.low with h | ⟨h1, h2⟩
      · exact .inl h
      · right
        have := low ((nval f (r - 1) + nval f r) * 2 ^ k) (by rw [← mult, Rat.natCast_add]; exact h1)
        rw [← mult, Rat.natCast_add] at this
        exact ⟨Rat.le_of_lt this, fun _ => this⟩
    · rcases hm.high with h | ⟨h1, h2⟩
      · exact .inl h
      · right
        have := high ((nval f r + nval f (r + 1)) * 2 ^ k) (by rw [← mult, Rat.natCast_add]; exact h1)
        rw [← mult, Rat.natCast_add] at this
        exact ⟨Rat.le_of_lt this, fun _ => this⟩
  · obtain ⟨k, hkk⟩ : ∃ k : Nat, P + 2 = (k : Int) := ⟨(P + 2).toNat, by omega⟩
    rw [hkk] at e4 low high
    -- the number is great
    have hbig : ((f.binade * 2 ^ k : Nat) : Rat) ≤ (2 * (dq : Rat) + 1) * (2 : Rat) ^ P := by
      have h1 : (f.binade * 2 : Nat) ≤ dq := by
        have : 2 ^ (f.fractionBits + 1) = f.binade * 2 := by rw [Nat.pow_succ]; rfl
        omega
      have h2 := Rat.mul_le_mul_of_nonneg_right (nat_rat_le h1) (Rat.le_of_lt hc)
      rw [Rat.natCast_mul, ← pw_nat, e4]
      rw [Rat.natCast_mul, c2] at h2
      grind
    have hdq : ((f.binade * 2 ^ k : Nat) : Rat) * 2 < 2 * Q := by
      have h1 : (f.binade * 2 : Nat) ≤ dq := by
        have : 2 ^ (f.fractionBits + 1) = f.binade * 2 := by rw [Nat.pow_succ]; rfl
        omega
      have h2 := Rat.mul_le_mul_of_nonneg_right (nat_rat_le h1) (Rat.le_of_lt hc)
      rw [Rat.natCast_mul, ← pw_nat, e4]
      rw [Rat.natCast_mul, c2] at h2
      grind
    have hrk : (k + 1) * f.binade ≤ f.infRung → (k + 1) * f.binade ≤ r := by
      intro hle
      exact (Mid.exact hle).mono hm (by rw [nval_head]; exact hbig)
    refine ⟨hm.le, ?_, ?_⟩
    · rcases hm.low with h | ⟨h1, h2⟩
      · exact .inl h
      · right
        have key : (nval f (r - 1) : Rat) + nval f r < 2 * Q := by
          rcases Nat.lt_or_ge ((k + 1) * f.binade) r with h3 | h3
          · obtain ⟨b1, e1⟩ := nval_dvd f (k := k) (r := r - 1) (by omega)
            obtain ⟨b2, e2⟩ := nval_dvd f (k := k) (r := r) (by omega)
            have e : (nval f (r - 1) : Rat) + nval f r = ((b1 + b2 : Nat) : Rat) * (2 : Rat) ^ (k : Int) := by
              rw [e1, e2, Rat.natCast_mul, Rat.natCast_mul, ← pw_nat, Rat.natCast_add]; grind
            rw [e]; apply low; rw [← e]; exact h1
          · have a1 : (nval f (r - 1) : Rat) ≤ ((f.binade * 2 ^ k : Nat) : Rat) := by rw [← nval_head]; exact nat_rat_le (nval_le (by omega))
            have a2 : (nval f r : Rat) ≤ ((f.binade * 2 ^ k : Nat) : Rat) := by rw [← nval_head]; exact nat_rat_le (nval_le h3)
            grind
        exact ⟨Rat.le_of_lt key, fun _ => key⟩
    · rcases hm.high with h | ⟨h1, h2⟩
      · exact .inl h
      · rcases Nat.lt_or_ge f.infRung ((k + 1) * f.binade) with h3 | h3
        · left
          refine Nat.le_antisymm hm.le ((Mid.exact (Nat.le_refl _)).mono hm ?_)
          have : (nval f f.infRung : Rat) ≤ ((f.binade * 2 ^ k : Nat) : Rat) := by rw [← nval_head]; exact nat_rat_le (nval_le (by omega))
          grind
        · right
          have hr := hrk h3
          obtain ⟨b1, e1⟩ := nval_dvd f (k := k) (r := r) hr
          obtain ⟨b2, e2⟩ := nval_dvd f (k := k) (r := r + 1) (by omega)
          have e : (nval f r : Rat) + nval f (r + 1) = ((b1 + b2 : Nat) : Rat) * (2 : Rat) ^ (k : Int) := by
            rw [e1, e2, Rat.natCast_mul, Rat.natCast_mul, ← pw_nat, Rat.natCast_add]; grind
          have key : 2 * Q < (nval f r : Rat) + nval f (r + 1) := by
            rw [e]; apply high; rw [← e]; exact h1
          exact ⟨Rat.le_of_lt key, fun _ => key⟩
theorem sg_xor (s t : Bool) : sg (s ^^ t) = sg s * sg t := by cases s <;> cases t <;> decide +kernel
theorem sg_sq (s : Bool) : sg s * sg s = 1 := by cases s <;> decide +kernel
/-- a quotient -/
theorem quo_near (f : Format) (hF : 1 ≤ f.fractionBits) (s t : Bool) (m n : Nat) (i j : Int) (hn : n ≠ 0) :
    ∃ d, (Datum.number s m i).quotient (f.fractionBits + 2) (.number t n j) = some d ∧ Near f (num s m i / num t n j) (f.write d) := by
  unfold Datum.quotient
  simp only [if_neg hn]
  refine ⟨_, rfl, ?_⟩
  simp only [Format.write]
  obtain ⟨more, hmore⟩ : ∃ more, more = f.fractionBits + 2 + n.log2 - m.log2 := ⟨_, rfl⟩
  rw [← hmore, Nat.shiftLeft_eq]
  obtain ⟨dv, hdv⟩ : ∃ dv, dv = m * 2 ^ more := ⟨_, rfl⟩
  rw [← hdv]
  have hn0 : 0 < n := Nat.pos_of_ne_zero hn
  have hnr : (0 : Rat) < n := by have := nat_rat_lt hn0; simpa using this
  obtain ⟨P, hP⟩ : ∃ P : Int, P = i - j - more - 1 := ⟨_, rfl⟩
  rw [← hP]
  -- the quotient's value
  obtain ⟨A, hA⟩ : ∃ A : Rat, A = 2 * ((dv : Rat) / n) * (2 : Rat) ^ P := ⟨_, rfl⟩
  have hA0 : 0 ≤ A := by
    rw [hA]
    refine Rat.mul_nonneg (Rat.mul_nonneg (by decide) ?_) (Rat.le_of_lt (pw_pos _))
    rw [Rat.div_def]
    exact Rat.mul_nonneg Rat.natCast_nonneg (Rat.le_of_lt (Rat.inv_pos.2 hnr))
  have hval : num s m i / num t n j = sg (s ^^ t) * A := by
    have h1 : num t n j ≠ 0 := by
      have := pw_pos j
      unfold num sg
      cases t
      · simp only [Bool.false_eq_true, if_false]; have := Rat.mul_pos hnr this; grind
      · simp only [if_true]; have := Rat.mul_pos hnr this; grind
    have h2 : num s m i = sg (s ^^ t) * A * num t n j := by
      rw [hA, hdv, sg_xor, Rat.natCast_mul, ← pw_nat]
      unfold num
      have e1 : (2 : Rat) ^ i = 2 * (2 : Rat) ^ (more : Int) * (2 : Rat) ^ P * (2 : Rat) ^ j := by
        have e21 : (2 : Rat) ^ (1 : Int) = 2 := by decide +kernel
        have e22 : (2 : Rat) ^ i = (2 : Rat) ^ (1 : Int) * (2 : Rat) ^ (more : Int) * (2 : Rat) ^ P * (2 : Rat) ^ j := by rw [← pw_add, ← pw_add, ← pw_add]; congr 1; omega
        rw [e21] at e22; exact e22
      have e2 : ((m : Rat) * (2 : Rat) ^ (more : Int)) / n * n = (m : Rat) * (2 : Rat) ^ (more : Int) := Rat.div_mul_cancel (by grind)
      have e3 := sg_sq t
      rw [e1]
      generalize ((m : Rat) * (2 : Rat) ^ (more : Int)) / n = z at *
      generalize (2 : Rat) ^ (more : Int) = a at *
      grind
    rw [h2, Rat.mul_div_cancel h1]
  rw [hval]
  have hsgn : ∀ {w : Nat} {r : Nat}, w = f.word (s ^^ t) r → Mid f (A * (2 : Rat) ^ (-f.leastPlace)) r → Near f (sg (s ^^ t) * A) w := by
    intro w r h1 h2
    refine ⟨s ^^ t, r, h1, by rw [sg_abs _ hA0]; exact h2, ?_, ?_⟩
    · intro h
      unfold sg at h
      cases hs : (s ^^ t)
      · rw [hs] at h; simp only [Bool.false_eq_true, if_false] at h; grind
      · rfl
    · intro h
      unfold sg at h
      cases hs : (s ^^ t)
      · rfl
      · rw [hs] at h; simp only [if_true] at h; grind
  obtain ⟨r, h1, h2⟩ := near_mid f hF (s ^^ t) (2 * (dv / n) + (dv % n != 0).toNat) P
  refine hsgn h1 ?_
  have eP : (2 : Rat) ^ (P - f.leastPlace) = (2 : Rat) ^ P * (2 : Rat) ^ (-f.leastPlace) := by rw [← pw_add]; congr 1
  have hdm := Nat.div_add_mod dv n
  have hml := Nat.mod_lt dv hn0
  have hdvr : (dv : Rat) / n * n = dv := Rat.div_mul_cancel (by grind)
  by_cases hrem : dv % n = 0
  · have e0 : (dv % n != 0).toNat = 0 := by rw [hrem]; rfl
    rw [e0, Nat.add_zero] at h2
    have e1 : (dv : Rat) / n = ((dv / n : Nat) : Rat) := by
      have : ((n * (dv / n) : Nat) : Rat) = dv := by congr 1; omega
      rw [Rat.natCast_mul] at this
      rw [← this, Rat.mul_comm, Rat.mul_div_cancel (by grind)]
    have e2 : A * (2 : Rat) ^ (-f.leastPlace) = ((2 * (dv / n) : Nat) : Rat) * (2 : Rat) ^ (P - f.leastPlace) := by
      rw [hA, e1, eP, Rat.natCast_mul]; have c2 : ((2 : Nat) : Rat) = 2 := rfl
      rw [c2]; grind
    rw [e2]; exact h2
  · have e0 : (dv % n != 0).toNat = 1 := by simp [hrem]
    rw [e0] at h2
    have hm0 : m ≠ 0 := by intro h; subst h; rw [hdv] at hrem; simp at hrem
    refine sticky_mid f hF (dv / n) ?_ (P - f.leastPlace) h2 ?_ ?_
    · rw [Nat.le_div_iff_mul_le hn0]
      have a1 : n < 2 ^ (n.log2 + 1) := Nat.lt_log2_self
      have a2 : 2 ^ m.log2 ≤ m := Nat.log2_self_le hm0
      have a3 : 2 ^ (f.fractionBits + 1) * n ≤ 2 ^ (f.fractionBits + 1) * 2 ^ (n.log2 + 1) := Nat.mul_le_mul_left _ (Nat.le_of_lt a1)
      rw [← Nat.pow_add] at a3
      have a4 : 2 ^ (m.log2 + more) ≤ dv := by rw [hdv, Nat.pow_add]; exact Nat.mul_le_mul_right _ a2
      have a5 : 2 ^ (f.fractionBits + 1 + (n.log2 + 1)) ≤ 2 ^ (m.log2 + more) := Nat.pow_le_pow_right (by decide) (by omega)
      omega
    · rw [hA, eP, Rat.natCast_mul]
      have c2 : ((2 : Nat) : Rat) = 2 := rfl
      rw [c2]
      have b1 : ((dv / n : Nat) : Rat) < (dv : Rat) / n := by
        rw [← Rat.not_le]; intro h
        have := Rat.mul_le_mul_of_nonneg_right h (Rat.le_of_lt hnr)
        rw [hdvr] at this
        have b2 : ((n * (dv / n) + 1 : Nat) : Rat) ≤ dv := nat_rat_le (by omega)
        rw [Rat.natCast_add, Rat.natCast_mul] at b2
        have c1 : ((1 : Nat) : Rat) = 1 := rfl
        rw [c1] at b2; grind
      have hc := Rat.mul_pos (pw_pos P) (pw_pos (-f.leastPlace))
      have := Rat.mul_lt_mul_of_pos_right b1 hc
      grind
    · rw [hA, eP, Rat.natCast_add, Rat.natCast_mul]
      have c2 : ((2 : Nat) : Rat) = 2 := rfl
      rw [c2]
      have b1 : (dv : Rat) / n < ((dv / n : Nat) : Rat) + 1 := by
        rw [← Rat.not_le]; intro h
        have := Rat.mul_le_mul_of_nonneg_right h (Rat.le_of_lt hnr)
        rw [hdvr] at this
        have b2 : (dv : Rat) < ((n * (dv / n) + n : Nat) : Rat) := nat_rat_lt (by omega)
        rw [Rat.natCast_add, Rat.natCast_mul] at b2
        grind
      have hc := Rat.mul_pos (pw_pos P) (pw_pos (-f.leastPlace))
      have := Rat.mul_lt_mul_of_pos_right b1 hc
      grind
end Go.Proofs.Ytnhikdjljjemlaa
/- Plain laws of floats, continued: how great a written number is; square roots. No condition. -/
namespace Go.Proofs.Ytnhikdjljjemlaa
open Go Go.RowKit Ieee
set_option linter.unusedVariables false
set_option linter.unusedSimpArgs false
theorem cut_le (neg : Bool) (n d : Nat) : Toward.even.cut neg n d ≤ n / (1 <<< min d (n.log2 + 2)) + 1 := by
  unfold Toward.cut
  exact Nat.add_le_add_left (Bool.toNat_le _) _
/-- the rung of a written number is not above a bound by its exponent -/
theorem nearest_bound (f : Format) (neg : Bool) {m : Nat} {p E : Int} (hE : p + m.log2 ≤ E) (hE2 : f.leastPlace ≤ E - f.fractionBits) :
    ∃ r, f.nearest neg m p = f.word neg r ∧ r ≤ (E - f.fractionBits - f.leastPlace).toNat * f.binade + 2 * f.binade ∧ r ≤ f.infRung := by
  have hB : f.binade = 2 ^ f.fractionBits := rfl
  by_cases hm : m = 0
  · subst hm
    unfold Format.nearest
    rw [if_pos rfl]
    exact ⟨0, rfl, Nat.zero_le _, Nat.zero_le _⟩
  obtain ⟨last, hlast⟩ : ∃ l, l = max (p + m.log2 - (f.fractionBits : Nat)) f.leastPlace := ⟨_, rfl⟩
  have h1 : last ≤ E - f.fractionBits := by omega
  have h2 : f.leastPlace ≤ last := by omega
  have h3 : p + m.log2 - (f.fractionBits : Nat) ≤ last := by omega
  unfold Format.nearest
  rw [if_neg hm]
  simp only [← hlast]
  refine ⟨_, rfl, Nat.le_trans (Nat.min_le_left _ _) ?_, Nat.min_le_right _ _⟩
  have hk : Toward.even.cut neg (m <<< (p - last).toNat) (last - p).toNat ≤ 2 * f.binade := by
    by_cases h : last ≤ p
    · have e : (last - p).toNat = 0 := by omega
      rw [e, cut_zero, Nat.shiftLeft_eq]
      have h4 : m.log2 + (p - last).toNat ≤ f.fractionBits := by omega
      have h5 := Nat.lt_log2_self (n := m)
      have h6 : m * 2 ^ (p - last).toNat < 2 ^ (m.log2 + 1) * 2 ^ (p - last).toNat := Nat.mul_lt_mul_of_pos_right h5 (Nat.two_pow_pos _)
      rw [← Nat.pow_add] at h6
      have h7 : 2 ^ (m.log2 + 1 + (p - last).toNat) ≤ 2 ^ (f.fractionBits + 1) := Nat.pow_le_pow_right (by decide) (by omega)
      rw [Nat.pow_succ] at h7
      omega
    · have e : (p - last).toNat = 0 := by omega
      rw [e, Nat.shiftLeft_zero]
      refine Nat.le_trans (cut_le _ _ _) ?_
      have h5 := Nat.lt_log2_self (n := m)
      by_cases h8 : (last - p).toNat ≤ m.log2 + 2
      · rw [Nat.min_eq_left h8, Nat.shiftLeft_eq, Nat.one_mul]
        have h9 : m < 2 ^ (f.fractionBits + 1) * 2 ^ (last - p).toNat := by
          rw [← Nat.pow_add]
          exact Nat.lt_of_lt_of_le h5 (Nat.pow_le_pow_right (by decide) (by omega))
        have h10 := Nat.div_lt_of_lt_mul (Nat.mul_comm _ _ ▸ h9)
        rw [Nat.pow_succ] at h10
        omega
      · rw [Nat.min_eq_right (by omega), Nat.shiftLeft_eq, Nat.one_mul]
        have h9 : m / 2 ^ (m.log2 + 2) = 0 := Nat.div_eq_of_lt (Nat.lt_of_lt_of_le h5 (Nat.pow_le_pow_right (by decide) (by omega)))
        rw [h9]
        have := Nat.two_pow_pos f.fractionBits
        omega
  have h4 : (last - f.leastPlace).toNat ≤ (E - f.fractionBits - f.leastPlace).toNat := by omega
  have := Nat.mul_le_mul_right f.binade h4
  omega
theorem s_bin : single.binade = 2 ^ 23 := by decide +kernel
theorem s_fb : single.fractionBits = 23 := rfl
theorem d_fb : double.fractionBits = 52 := rfl
/-- a wide number under 2 to the power of 127 is not too great for 32 bits -/
theorem narrow_small {b : Nat} {s : Bool} {m : Nat} {p : Int} (hd : FloatKind.f64.decode b = .number s m p) (h : p + m.log2 ≤ 126) : cvWide .f64 b .f32 = false := by
  unfold cvWide
  rw [if_neg (by decide), hd]
  show (single.read (single.nearest s m p)).isInfinity = false
  obtain ⟨r, e, hr, _⟩ := nearest_bound single s h (by rw [s_lp, s_fb]; decide)
  rw [e]
  apply not_inf_of_lt
  rw [s_lp, s_fb, s_bin] at hr
  rw [s_ir]
  have : (126 - (23 : Nat) - -149 : Int).toNat = 252 := by decide
  rw [this] at hr
  omega
/-- the exponent of a word, from its rung -/
theorem exp_of_rung (f : Format) {s : Bool} {r m : Nat} {p : Int} {E : Nat} (hr : r < f.infRung) (hd : f.read (f.word s r) = .number s m p) (hm : m ≠ 0) (hv : nval f r < 2 ^ (E + 1)) : p + m.log2 ≤ E + f.leastPlace := by
  obtain ⟨m', p', e1, e2, e3⟩ := read_fin f s hr
  rw [hd] at e1
  obtain ⟨_, rfl, rfl⟩ := Datum.number.inj e1
  rw [Nat.shiftLeft_eq] at e3
  have h1 : (nval f r).log2 < E + 1 := (Nat.log2_lt (by rw [← e3]; exact Nat.mul_ne_zero hm (by have := Nat.two_pow_pos (p - f.leastPlace).toNat; omega))).2 hv
  rw [← e3, log2_mul_pow hm] at h1
  omega
theorem rootFrom_lt (n : Nat) : ∀ todo root, Datum.rootFrom n todo root < root + 2 ^ todo
  | 0, root => by unfold Datum.rootFrom; simp
  | todo + 1, root => by
    unfold Datum.rootFrom
    have hs : root + 1 <<< todo = root + 2 ^ todo := by rw [Nat.shiftLeft_eq, Nat.one_mul]
    simp only [hs]
    split
    · have := rootFrom_lt n todo (root + 2 ^ todo)
      rw [Nat.pow_succ]; omega
    · have := rootFrom_lt n todo root
      rw [Nat.pow_succ]; have := Nat.two_pow_pos todo; omega

def sqbits (x : Nat) (w : World) : Nat := (double.sqrt x).getD ((Question.nanBits .f64 x x).cut (w.tape w.drawn (.nanBits .f64 x x)))
def sqdr (x : Nat) : Nat := if (double.sqrt x).isSome then 0 else 1
def fsq (x : Nat) : Nat := (double.sqrt x).getD (nanOf .f64)
theorem run_sqrt {P : Program} (w : World) (x : Nat) : (Extern.MathSqrt.sqrt #[.float .f64 x]).run P w = .ok (.float .f64 (sqbits x w)) (w.drewN (sqdr x)) := by
  unfold Extern.MathSqrt.sqrt sqbits sqdr
  show ((match double.sqrt x with
    | some r => (pure (.float .f64 r) : Sem Value)
    | none => do pure (.float .f64 (← choose (.nanBits .f64 x x)))).run P w) = _
  cases h : double.sqrt x with
  | some r => rfl
  | none => simp [choose, Sem.run, Question.forced, World.drewN]
theorem root_not {n : Nat} {a d : Datum} (h : a.root n = some d) : a.isNaN = false ∧ d.isNaN = false := by
  unfold Datum.root at h
  cases a with
  | nan s t => cases h
  | infinity s => cases s <;> simp at h; subst h; exact ⟨rfl, rfl⟩
  | number s m i =>
    refine ⟨rfl, ?_⟩
    simp only at h
    split at h
    · cases h; rfl
    · split at h
      · cases h
      · cases h; rfl
theorem sqrt_nan {x : Nat} (h : isN .f64 x = true) : double.sqrt x = none := by
  unfold Format.sqrt
  cases hr : (double.read x).root (double.fractionBits + 2) with
  | none => rfl
  | some d => have := (root_not hr).1; unfold isN at h; rw [show FloatKind.f64.format.read x = double.read x from rfl, this] at h; cases h
theorem sqrt_cn (x : Nat) : double.sqrt (cn .f64 x) = double.sqrt x := by
  cases h : isN .f64 x
  · rw [cn_not h]
  · rw [sqrt_nan h, sqrt_nan (by rw [isN_cn, h])]
theorem sqrt_not {x r : Nat} (h : double.sqrt x = some r) : isN .f64 r = false := by
  unfold Format.sqrt at h
  cases hr : (double.read x).root (double.fractionBits + 2) with
  | none => rw [hr] at h; cases h
  | some d =>
    rw [hr] at h
    have e : double.write d = r := by simpa using h
    rw [← e]
    exact write_not double (root_not hr).2
theorem cn_sqbits (x : Nat) (w : World) : cn .f64 (sqbits x w) = fsq (cn .f64 x) := by
  unfold sqbits fsq
  rw [sqrt_cn]
  cases h : double.sqrt x with
  | some r => exact cn_not (sqrt_not h)
  | none => exact cn_nan (drawn_nan .f64 x x _)
theorem d_ir2 : double.infRung = 2047 * 2 ^ 52 := by decide +kernel
theorem s_ir2 : single.infRung = 255 * 2 ^ 23 := by decide +kernel
theorem nval_top (f : Format) (k : Nat) (h : 1 ≤ k) : nval f (k * f.binade) = f.binade * 2 ^ (k - 1) := by
  have hB : 0 < f.binade := Nat.two_pow_pos _
  unfold nval
  have h1 : f.binade ≤ k * f.binade := Nat.le_mul_of_pos_left _ h
  rw [if_neg (by omega), Nat.mul_mod_left, Nat.mul_div_cancel _ hB, Nat.add_zero]
theorem nval_mono {f : Format} {x y : Nat} (h : x ≤ y) : nval f x ≤ nval f y := by
  rcases Nat.lt_or_eq_of_le h with h | h
  · exact Nat.le_of_lt (nval_lt h)
  · rw [h]; exact Nat.le_refl _
set_option exponentiation.threshold 2000 in
/-- a wide word that is not above 2 to the power of 67 is not too great for 32 bits -/
theorem narrow_rung (s : Bool) {q : Nat} (h : q ≤ 1090 * 2 ^ 52) : cvWide .f64 (double.word s q) .f32 = false := by
  have hq : q < double.infRung := by rw [d_ir2]; omega
  obtain ⟨m, p, e1, e2, e3⟩ := read_fin double s hq
  by_cases hm : m = 0
  · subst hm
    unfold cvWide
    rw [if_neg (by decide), show FloatKind.f64.decode (double.word s q) = _ from e1]
    show (single.read (single.nearest s 0 p)).isInfinity = false
    unfold Format.nearest
    rw [if_pos rfl]
    exact not_inf_of_lt _ _ (by rw [s_ir]; omega)
  · refine narrow_small (p := p) (m := m) (s := s) e1 ?_
    have hv : nval double q < 2 ^ (1141 + 1) := by
      have h1 : nval double q ≤ nval double (1090 * double.binade) := nval_mono (by rw [d_bin]; exact h)
      rw [nval_top double 1090 (by decide), d_bin, ← Nat.pow_add] at h1
      exact Nat.lt_of_le_of_lt h1 (Nat.pow_lt_pow_right (by decide) (by decide))
    have := exp_of_rung double hq e1 hm hv
    rw [d_lp] at this
    omega
set_option exponentiation.threshold 2000 in
/-- the square root of a wide 32-bit number is not too great for 32 bits -/
theorem root_small {x : Nat} (hx : x < 4294967296) (w w2 : World) : cvWide .f64 (sqbits (cvbits .f32 x .f64 w) w2) .f32 = false := by
  cases hr : double.sqrt (cvbits .f32 x .f64 w) with
  | none =>
    unfold sqbits
    rw [hr]
    exact wide_nan (drawn_nan .f64 (cvbits .f32 x .f64 w) (cvbits .f32 x .f64 w) _)
  | some t =>
    have ht : sqbits (cvbits .f32 x .f64 w) w2 = t := by unfold sqbits; rw [hr]; rfl
    rw [ht]
    have hN : isN .f32 x = false := by
      cases h : isN .f32 x
      · rfl
      · rw [sqrt_nan (isN_wide x w h)] at hr; cases hr
    obtain ⟨s, r, rfl, hrs⟩ := word_of single (x := x) (by rw [s_sw]; omega)
    rcases Nat.lt_trichotomy r single.infRung with h | h | h
    · obtain ⟨q, hq, hw, hv⟩ := wide_fin s h
      rw [hw w] at hr
      obtain ⟨m, i, e1, e2, e3⟩ := read_fin double s hq
      unfold Format.sqrt at hr
      rw [e1] at hr
      unfold Datum.root at hr
      simp only at hr
      by_cases hm : m = 0
      · subst hm
        rw [if_pos rfl] at hr
        have e : double.nearest s 0 i = t := by simpa [Format.write] using hr
        rw [← e]
        unfold Format.nearest
        rw [if_pos rfl]
        exact narrow_rung s (Nat.zero_le _)
      · rw [if_neg hm] at hr
        cases s
        · simp only [Bool.false_eq_true, if_false, Option.map_some, Option.some.injEq] at hr
          rw [← hr]
          have hvs : nval single r < 2 ^ 277 := by
            have h1 : nval single r < nval single (255 * single.binade) := nval_lt (by rw [s_bin, ← s_ir2]; exact h)
            rw [nval_top single 255 (by decide), s_bin, ← Nat.pow_add] at h1
            exact h1
          have hvd : nval double q < 2 ^ (1201 + 1) := by
            rw [hv]
            have := Nat.mul_lt_mul_of_pos_right hvs (Nat.two_pow_pos 925)
            rwa [← Nat.pow_add] at this
          have hb := exp_of_rung double hq e1 hm hvd
          rw [d_lp] at hb
          obtain ⟨mo, hmo⟩ : ∃ mo, mo = 2 * (double.fractionBits + 2) - m.log2 + ((i - ((2 * (double.fractionBits + 2) - m.log2 : Nat) : Int)) % 2).toNat := ⟨_, rfl⟩
          rw [← hmo]
          have hn : (m <<< mo).log2 = m.log2 + mo := by rw [Nat.shiftLeft_eq]; exact log2_mul_pow hm
          obtain ⟨W, hW⟩ : ∃ W, W = Datum.rootFrom (m <<< mo) ((m <<< mo).log2 / 2 + 1) 0 := ⟨_, rfl⟩
          have hWl := rootFrom_lt (m <<< mo) ((m <<< mo).log2 / 2 + 1) 0
          rw [← hW] at hWl ⊢
          rw [hn] at hWl
          obtain ⟨c, hc⟩ : ∃ c, c = (W * W != m <<< mo).toNat := ⟨_, rfl⟩
          have hc1 : c ≤ 1 := by rw [hc]; exact Bool.toNat_le _
          rw [← hc]
          have hM : (2 * W + c).log2 ≤ (m.log2 + mo) / 2 + 1 := by
            by_cases h0 : 2 * W + c = 0
            · rw [h0]; simp
            · have : (2 * W + c).log2 < (m.log2 + mo) / 2 + 1 + 1 := (Nat.log2_lt h0).2 (by rw [Nat.pow_succ]; omega)
              omega
          obtain ⟨r2, er, hr2, _⟩ := nearest_bound double false (m := 2 * W + c) (p := (i - (mo : Int)) / 2 - 1) (E := 66) (by omega) (by rw [d_lp, d_fb]; decide)
          rw [show double.write (.number false (2 * W + c) ((i - (mo : Int)) / 2 - 1)) = _ from er]
          refine narrow_rung false ?_
          rw [d_lp, d_fb, d_bin] at hr2
          have : (66 - (52 : Nat) - -1074 : Int).toNat = 1088 := by decide
          rw [this] at hr2
          omega
        · simp at hr
    · subst h
      have e1 : cvbits .f32 (single.word s single.infRung) .f64 w = double.word s double.infRung := by
        unfold cvbits
        rw [if_neg (by decide), show FloatKind.f32.decode (single.word s single.infRung) = _ from read_inf single single_binade s]
        rfl
      rw [e1] at hr
      unfold Format.sqrt at hr
      rw [read_inf double double_binade s] at hr
      cases s
      · have e : double.word false double.infRung = t := by simpa [Datum.root, Format.write] using hr
        rw [← e]
        unfold cvWide
        rw [if_neg (by decide), show FloatKind.f64.decode (double.word false double.infRung) = _ from read_inf double double_binade false]
      · simp [Datum.root] at hr
    · have := nan_word single single_binade s h hrs
      have h2 : isN .f32 (single.word s r) = true := this
      rw [hN] at h2; cases h2
def rootE (c : Nat) : Nat := fcv .f64 (fsq (fcv .f32 c .f64)) .f32
theorem cn_root {x : Nat} (hx : x < 4294967296) (w w2 w3 : World) : cn .f32 (cvbits .f64 (sqbits (cvbits .f32 x .f64 w) w2) .f32 w3) = rootE (cn .f32 x) ∧ cvbits .f64 (sqbits (cvbits .f32 x .f64 w) w2) .f32 w3 < 4294967296 := by
  have h := root_small hx w w2
  refine ⟨?_, cv_lt32 w3 h⟩
  rw [cn_cvbits w3 h, cn_sqbits, cn_wide]
  rfl
end Go.Proofs.Ytnhikdjljjemlaa
/- Plain laws of floats as rational numbers: the operations on words; errors. No condition. -/
namespace Go.Proofs.Ytnhikdjljjemlaa
open Go Go.RowKit Ieee
set_option linter.unusedVariables false
set_option linter.unusedSimpArgs false
theorem Fin.read {f : Format} {w : Nat} (h : Fin f w) : ∃ s m p, f.read w = .number s m p ∧ val f w = num s m p := by
  obtain ⟨s, r, rfl, hr⟩ := h
  obtain ⟨m, p, h1, _⟩ := read_num f s hr
  exact ⟨s, m, p, h1, by unfold val; rw [h1]; rfl⟩
theorem one_frac (k : FloatKind) : 1 ≤ k.format.fractionBits := by cases k <;> decide
theorem inf_lt (k : FloatKind) : k.format.infRung < k.format.signWeight := by cases k <;> decide +kernel
theorem Near.write {k : FloatKind} {s : Bool} {m : Nat} {p : Int} {q : Rat} (h : num s m p = q) : Near k.format q (k.format.write (.number s m p)) := by
  rw [← h]; exact near_num k.format (one_frac k) s m p
theorem num_neg (s : Bool) (m : Nat) (p : Int) : num (!s) m p = -num s m p := by
  unfold num sg; cases s <;> simp <;> grind
theorem sum_num (s t : Bool) (m n : Nat) (i j : Int) : ∃ u M P, (Datum.number s m i).sum (.number t n j) = some (.number u M P) ∧ num u M P = num s m i + num t n j := by
  refine ⟨_, _, _, rfl, ?_⟩
  obtain ⟨b, hb⟩ : ∃ b, b = min i j := ⟨_, rfl⟩
  rw [← hb]
  have e1 := num_base (s := s) (m := m) (show b ≤ i by omega)
  have e2 := num_base (s := t) (m := n) (show b ≤ j by omega)
  rw [e1, e2]
  generalize signed s m (i - b).toNat = A
  generalize signed t n (j - b).toNat = B
  have hs : ((A : Rat)) * (2 : Rat) ^ b + (B : Rat) * (2 : Rat) ^ b = ((A + B : Int) : Rat) * (2 : Rat) ^ b := by rw [Rat.intCast_add]; grind
  rw [hs]
  generalize A + B = T
  unfold num sg
  by_cases h0 : T = 0
  · subst h0
    simp
  · rw [if_neg h0]
    have hT : (((if (decide (T < 0)) = true then (-1 : Rat) else 1)) * (T.natAbs : Rat)) = (T : Rat) := by
      by_cases h1 : T < 0
      · have : T = -(T.natAbs : Int) := by omega
        conv => rhs; rw [this]
        rw [Rat.intCast_neg, Rat.intCast_natCast]
        simp [h1]; grind
      · have : T = (T.natAbs : Int) := by omega
        conv => rhs; rw [this]
        rw [Rat.intCast_natCast]
        simp [h1]
    rw [hT]
theorem add_near {k : FloatKind} {x y : Nat} (hx : Fin k.format x) (hy : Fin k.format y) : ∃ r, floatBits .add k x y = some r ∧ Near k.format (val k.format x + val k.format y) r := by
  obtain ⟨s, m, p, h1, h2⟩ := hx.read
  obtain ⟨t, n, q, h3, h4⟩ := hy.read
  obtain ⟨u, M, P, h5, h6⟩ := sum_num s t m n p q
  refine ⟨k.format.write (.number u M P), ?_, Near.write (by rw [h6, h2, h4])⟩
  show ((k.format.read x).sum (k.format.read y)).map k.format.write = _
  rw [h1, h3, h5]; rfl
theorem sub_near {k : FloatKind} {x y : Nat} (hx : Fin k.format x) (hy : Fin k.format y) : ∃ r, floatBits .sub k x y = some r ∧ Near k.format (val k.format x - val k.format y) r := by
  obtain ⟨s, m, p, h1, h2⟩ := hx.read
  obtain ⟨t, n, q, h3, h4⟩ := hy.read
  obtain ⟨u, M, P, h5, h6⟩ := sum_num s (!t) m n p q
  refine ⟨k.format.write (.number u M P), ?_, Near.write (by rw [h6, h2, h4, num_neg]; grind)⟩
  show ((k.format.read x).sum (k.format.read y).opposite).map k.format.write = _
  rw [h1, h3]
  show ((Datum.number s m p).sum (.number (!t) n q)).map _ = _
  rw [h5]; rfl
theorem mul_near {k : FloatKind} {x y : Nat} (hx : Fin k.format x) (hy : Fin k.format y) : ∃ r, floatBits .mul k x y = some r ∧ Near k.format (val k.format x * val k.format y) r := by
  obtain ⟨s, m, p, h1, h2⟩ := hx.read
  obtain ⟨t, n, q, h3, h4⟩ := hy.read
  refine ⟨k.format.write (.number (s ^^ t) (m * n) (p + q)), ?_, Near.write ?_⟩
  · show ((k.format.read x).product (k.format.read y)).map k.format.write = _
    rw [h1, h3]; rfl
  · rw [h2, h4]
    unfold num
    rw [sg_xor, Rat.natCast_mul, pw_add]; grind
theorem num_ne {t : Bool} {n : Nat} {q : Int} (h : num t n q ≠ 0) : n ≠ 0 := by
  intro e; subst e; apply h; unfold num
  have : ((0 : Nat) : Rat) = 0 := rfl
  rw [this]; grind
theorem quo_nearW {k : FloatKind} {x y : Nat} (hx : Fin k.format x) (hy : Fin k.format y) (h0 : val k.format y ≠ 0) : ∃ r, floatBits .quo k x y = some r ∧ Near k.format (val k.format x / val k.format y) r := by
  obtain ⟨s, m, p, h1, h2⟩ := hx.read
  obtain ⟨t, n, q, h3, h4⟩ := hy.read
  rw [h4] at h0
  obtain ⟨d, h5, h6⟩ := quo_near k.format (one_frac k) s t m n p q (num_ne h0)
  refine ⟨k.format.write d, ?_, by rw [h2, h4]; exact h6⟩
  show ((k.format.read x).quotient (k.format.fractionBits + 2) (k.format.read y)).map k.format.write = _
  rw [h1, h3, h5]; rfl
theorem int_near (k : FloatKind) (n : Int) : Near k.format (n : Rat) (floatOfInt k n) := by
  have : num (decide (n < 0)) n.natAbs 0 = (n : Rat) := by
    unfold num sg
    rw [pw_zero, Rat.mul_one]
    by_cases h1 : n < 0
    · have e : n = -(n.natAbs : Int) := by omega
      conv => rhs; rw [e]
      rw [Rat.intCast_neg, Rat.intCast_natCast]
      simp [h1]; grind
    · have e : n = (n.natAbs : Int) := by omega
      conv => rhs; rw [e]
      rw [Rat.intCast_natCast]
      simp [h1]
  exact Near.write (k := k) this
theorem Near.fin {f : Format} {q : Rat} {w R : Nat} (h : Near f q w) (hR : R < f.infRung) (hq : rabs q * (2 : Rat) ^ (-f.leastPlace) ≤ nval f R) : Fin f w := by
  obtain ⟨s, r, rfl, hm, _⟩ := h
  exact ⟨s, r, rfl, by have := hm.mono (Mid.exact (Nat.le_of_lt hR)) hq; omega⟩
theorem narrow_near {x : Nat} (hx : Fin double x) : Near single (val double x) (fcv .f64 x .f32) := by
  obtain ⟨s, m, p, h1, h2⟩ := hx.read
  rw [h2]
  unfold fcv
  rw [if_neg (by decide), show FloatKind.f64.decode x = .number s m p from h1]
  exact near_num single (by decide) s m p
set_option exponentiation.threshold 2000 in
theorem wide_val {x : Nat} (hx : Fin single x) : Fin double (fcv .f32 x .f64) ∧ val double (fcv .f32 x .f64) = val single x := by
  obtain ⟨s, r, rfl, hr⟩ := hx
  obtain ⟨q, h1, h2, h3⟩ := wide_fin s hr
  have hn : isN .f32 (single.word s r) = false := read_word_le single s (by omega)
  have e := cn_wide (single.word s r) (default : World)
  rw [cn_not hn, h2, cn_not (show isN .f64 (double.word s q) = false from read_word_le double s (by omega))] at e
  rw [← e]
  refine ⟨⟨s, q, rfl, h1⟩, ?_⟩
  rw [val_word double s h1, val_word single s hr, h3, s_lp, d_lp, Rat.natCast_mul, ← pw_nat]
  have : (2 : Rat) ^ (-149 : Int) = (2 : Rat) ^ ((925 : Nat) : Int) * (2 : Rat) ^ (-1074 : Int) := by rw [← pw_add]; congr 1
  rw [this]; grind
theorem Fin.not {k : FloatKind} {x : Nat} (h : Fin k.format x) : isN k x = false := by
  obtain ⟨s, r, rfl, hr⟩ := h; exact read_word_le k.format s (Nat.le_of_lt hr)
theorem order_val {k : FloatKind} {x y : Nat} (hx : Fin k.format x) (hy : Fin k.format y) :
    (k.format.order x y = some .lt ↔ val k.format x < val k.format y) ∧ (k.format.order x y = some .gt ↔ val k.format y < val k.format x) ∧ (k.format.order x y = some .eq ↔ val k.format x = val k.format y) := by
  obtain ⟨s, m, p, h1, h2⟩ := hx.read
  obtain ⟨t, n, q, h3, h4⟩ := hy.read
  rw [h2, h4]
  unfold Format.order
  rw [h1, h3]
  exact order_num s t m n p q
/-- the gap behind a rung -/
theorem nval_gap (f : Format) (r : Nat) : nval f (r + 1) = nval f r + 1 ∨ ∃ g, nval f (r + 1) = nval f r + g ∧ f.binade * g ≤ nval f r := by
  have hB := binade_pos f
  rcases Nat.lt_or_ge r f.binade with h | h
  · left
    have e1 : nval f r = r := by unfold nval; rw [if_pos h]
    have e2 : nval f (r + 1) = r + 1 := by
      have := nval_rung f 0 (r + 1) (.inl rfl) (by omega)
      simpa using this
    rw [e1, e2]
  · right
    obtain ⟨e, he⟩ : ∃ e, r / f.binade = e + 1 := ⟨r / f.binade - 1, by have := (Nat.le_div_iff_mul_le hB).2 (show 1 * f.binade ≤ r by omega); omega⟩
    have hd := Nat.div_add_mod r f.binade
    have hm := Nat.mod_lt r hB
    have er : r = e * f.binade + (f.binade + r % f.binade) := by
      rw [he] at hd
      rw [Nat.mul_add, Nat.mul_one, Nat.mul_comm] at hd
      omega
    refine ⟨2 ^ e, ?_, ?_⟩
    · rw [er]
      rw [show e * f.binade + (f.binade + r % f.binade) + 1 = e * f.binade + (f.binade + r % f.binade + 1) by omega]
      rw [nval_rung f e _ (.inr (by omega)) (by omega), nval_rung f e _ (.inr (by omega)) (by omega), Nat.add_mul (f.binade + r % f.binade) 1]
      omega
    · rw [er, nval_rung f e _ (.inr (by omega)) (by omega)]
      exact Nat.mul_le_mul_right _ (by omega)
theorem Mid.err {f : Format} {V : Rat} {r : Nat} (h : Mid f V r) (hr : r < f.infRung) (hV : 0 ≤ V) : 2 * (f.binade : Rat) * ((nval f r : Rat) - V) ≤ V + f.binade ∧ 2 * (f.binade : Rat) * (V - nval f r) ≤ V + f.binade := by
  have hB : (0 : Rat) < f.binade := by have := nat_rat_lt (binade_pos f); simpa using this
  have gapR : ∀ q, ((nval f (q + 1) : Rat) - nval f q) * f.binade ≤ (nval f q : Rat) + f.binade := by
    intro q
    have h0 : (0 : Rat) ≤ nval f q := Rat.natCast_nonneg
    rcases nval_gap f q with h1 | ⟨g, h1, h2⟩
    · rw [h1, Rat.natCast_add]
      have : ((1 : Nat) : Rat) = 1 := rfl
      rw [this]; grind
    · rw [h1, Rat.natCast_add]
      have := nat_rat_le h2
      rw [Rat.natCast_mul] at this
      grind
  constructor
  · rcases h.low with h0 | ⟨h1, _⟩
    · subst h0
      rw [nval_zero]
      have : ((0 : Nat) : Rat) = 0 := rfl
      rw [this]
      have := Rat.mul_nonneg (Rat.le_of_lt hB) hV
      grind
    · have hr0 : 1 ≤ r ∨ r = 0 := by omega
      rcases hr0 with h2 | h2
      · have g := gapR (r - 1)
        rw [Nat.sub_add_cancel h2] at g
        have m := nat_rat_le (nval_le (f := f) (show r - 1 ≤ r by omega))
        have a : (nval f (r - 1) : Rat) ≤ V := by grind
        have b := Rat.mul_le_mul_of_nonneg_left h1 (Rat.le_of_lt hB)
        grind
      · subst h2
        rw [nval_zero]
        have : ((0 : Nat) : Rat) = 0 := rfl
        rw [this]
        have := Rat.mul_nonneg (Rat.le_of_lt hB) hV
        grind
  · obtain ⟨h1, _⟩ := h.high.resolve_left (by omega)
    have g := gapR r
    have b := Rat.mul_le_mul_of_nonneg_left h1 (Rat.le_of_lt hB)
    rcases rat_tri V (nval f r) with h2 | h2 | h2
    · have c : (f.binade : Rat) * (V - nval f r) ≤ 0 := by
        have := Rat.mul_le_mul_of_nonneg_left (Rat.le_of_lt h2) (Rat.le_of_lt hB)
        grind
      grind
    · rw [← h2]; grind
    · grind
end Go.Proofs.Ytnhikdjljjemlaa
