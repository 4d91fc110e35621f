/- What absolute values, the greatest of two, a not-a-number are. No condition. -/
import Derived.Test.YtlalocjfjnghmaaLst
import Derived.Test.YtlalocjfjnghmaaCode
import Derived.Test.YtlalocjfjnghmaaFl6
namespace Go.Proofs.Ytlalocjfjnghmaa
open Go Go.RowKit
set_option linter.unusedVariables false
set_option linter.unusedSimpArgs false
theorem run_f64from (x : Int) (w : World) : (callFunc 128 #[.int .u64 x]).run Try.prog w = .ok (.value (.float .f64 x.toNat)) w := by
  rw [run_callFunc_extern (show Try.prog.funcs[128]? = some Try.f128 by kernel_rfl) (by kernel_rfl) (by kernel_rfl) (by kernel_rfl) (e := Extern.MathFloatBits.float64frombits) (by kernel_rfl)]
  rfl
theorem run_f32from (x : Int) (w : World) : (callFunc 126 #[.int .u32 x]).run Try.prog w = .ok (.value (.float .f32 x.toNat)) w := by
  rw [run_callFunc_extern (show Try.prog.funcs[126]? = some Try.f126 by kernel_rfl) (by kernel_rfl) (by kernel_rfl) (by kernel_rfl) (e := Extern.MathFloatBits.float32frombits) (by kernel_rfl)]
  rfl
theorem math_Abs (b : Nat) (hb : b < 18446744073709551616) (w : World) : Calls Try.prog 99 #[.float .f64 b] w fun e w' => e = .returned (.float .f64 (b % 9223372036854775808)) ∧ w = w' := by
  have hd := run_f64bits
  have hd2 := run_f64from
  go_enter Try.func99, Try.ntmps99
  go_wp2
  go_ret
  exact ⟨by rw [and_63 b hb]; rfl, rfl⟩
theorem spec_l01From (n : Nat) (hn : n < 4294967296) (w : World) : Calls Try.prog 96 #[.int .i64 n] w fun e w' => e = .returned (.float .f32 n) ∧ w = w' := by
  have hd := run_f32from
  go_enter Try.func96, Try.ntmps96
  go_wp2
  go_ret
  exact ⟨rfl, rfl⟩
theorem math_NaN (w : World) : Calls Try.prog 123 #[] w fun e w' => e = .returned (.float .f64 9221120237041090561) ∧ w = w' := by
  have hd2 := run_f64from
  go_enter Try.func123, Try.ntmps123
  go_wp2
  go_ret
  exact ⟨rfl, rfl⟩
theorem impl_noNumber (w : World) : Calls Try.prog 92 #[] w fun e w' => ∃ r, e = .returned (.float .f32 r) ∧ Hid (cn .f32 r = nanOf .f32 ∧ r < 4294967296) ∧ Dr w w' := by
  go_enter Try.func92, Try.ntmps92
  go_wp2_with (go_at_call 123; refine (math_NaN _).mono ?_; rintro e w' ⟨rfl, rfl⟩)
  go_ret
  have hn : isN .f64 9221120237041090561 = true := by decide +kernel
  exact ⟨_, rfl, Lib.hid ⟨by rw [cn_cvbits _ (wide_nan hn), cn_nan hn]; decide +kernel, cv_lt32 _ (wide_nan hn)⟩, _, rfl⟩
end Go.Proofs.Ytlalocjfjnghmaa
