/- What absolute values, the greatest of two, a not-a-number are. No condition. -/
import Derived.Test.YtaocilimggpdjaaLst
import Derived.Test.YtaocilimggpdjaaCode
import Derived.Test.YtaocilimggpdjaaFl6
namespace Go.Proofs.Ytaocilimggpdjaa
open Go Go.RowKit
set_option linter.unusedVariables false
set_option linter.unusedSimpArgs false
theorem run_f64from (x : Int) (w : World) : (callFunc 150 #[.int .u64 x]).run Try.prog w = .ok (.value (.float .f64 x.toNat)) w := by
  rw [run_callFunc_extern (show Try.prog.funcs[150]? = some Try.f150 by kernel_rfl) (by kernel_rfl) (by kernel_rfl) (by kernel_rfl) (e := Extern.MathFloatBits.float64frombits) (by kernel_rfl)]
  rfl
theorem run_f32from (x : Int) (w : World) : (callFunc 148 #[.int .u32 x]).run Try.prog w = .ok (.value (.float .f32 x.toNat)) w := by
  rw [run_callFunc_extern (show Try.prog.funcs[148]? = some Try.f148 by kernel_rfl) (by kernel_rfl) (by kernel_rfl) (by kernel_rfl) (e := Extern.MathFloatBits.float32frombits) (by kernel_rfl)]
  rfl
theorem math_Abs (b : Nat) (hb : b < 18446744073709551616) (w : World) : Calls Try.prog 105 #[.float .f64 b] w fun e w' => e = .returned (.float .f64 (b % 9223372036854775808)) ∧ w = w' := by
  have hd := run_f64bits
  have hd2 := run_f64from
  go_enter Try.func105, Try.ntmps105
  go_wp2
  go_ret
  exact ⟨by rw [and_63 b hb]; rfl, rfl⟩
/-- an absolute value by way of the wide kind -/
theorem impl_size (x : Nat) (hx : x < 4294967296) (w : World) : Calls Try.prog 122 #[.float .f32 x] w fun e w' => ∃ r, e = .returned (.float .f32 r) ∧ Hid (cn .f32 r = absW (cn .f32 x) ∧ r < 4294967296) ∧ Dr w w' := by
  have hl := fun w => cv64_lt x w
  have ha := fun w w' => abs_round hx w w'
  have HA := Lib.hid ha; clear ha
  go_enter Try.func122, Try.ntmps122
  go_wp2_with (go_at_call 105; refine (math_Abs _ (hl _) _).mono ?_; rintro e w' ⟨rfl, rfl⟩)
  go_ret
  exact ⟨_, rfl, Lib.hid ⟨(HA.out _ _).2, cv_lt32 _ (HA.out _ w).1⟩, _, rfl⟩
theorem spec_l01From (n : Nat) (hn : n < 4294967296) (w : World) : Calls Try.prog 102 #[.int .i64 n] w fun e w' => e = .returned (.float .f32 n) ∧ w = w' := by
  have hd := run_f32from
  go_enter Try.func102, Try.ntmps102
  go_wp2
  go_ret
  exact ⟨rfl, rfl⟩
theorem math_NaN (w : World) : Calls Try.prog 145 #[] w fun e w' => e = .returned (.float .f64 9221120237041090561) ∧ w = w' := by
  have hd2 := run_f64from
  go_enter Try.func145, Try.ntmps145
  go_wp2
  go_ret
  exact ⟨rfl, rfl⟩
theorem impl_noNumber (w : World) : Calls Try.prog 98 #[] w fun e w' => ∃ r, e = .returned (.float .f32 r) ∧ Hid (cn .f32 r = nanOf .f32 ∧ r < 4294967296) ∧ Dr w w' := by
  go_enter Try.func98, Try.ntmps98
  go_wp2_with (go_at_call 145; refine (math_NaN _).mono ?_; rintro e w' ⟨rfl, rfl⟩)
  go_ret
  have hn : isN .f64 9221120237041090561 = true := by decide +kernel
  exact ⟨_, rfl, Lib.hid ⟨by rw [cn_cvbits _ (wide_nan hn), cn_nan hn]; decide +kernel, cv_lt32 _ (wide_nan hn)⟩, _, rfl⟩
end Go.Proofs.Ytaocilimggpdjaa
