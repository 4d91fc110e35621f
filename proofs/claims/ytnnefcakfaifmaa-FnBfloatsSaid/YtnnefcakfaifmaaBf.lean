/- What the nearest bfloat is. No condition. -/
import Derived.Test.YtnnefcakfaifmaaAbs
import Derived.Test.YtnnefcakfaifmaaFl8
namespace Go.Proofs.Ytnnefcakfaifmaa
open Go Go.RowKit
set_option linter.unusedVariables false
set_option linter.unusedSimpArgs false
theorem impl_BfloatOf (x : Nat) (hx : x < 4294967296) (w : World) : Calls Try.prog 33 #[.float .f32 x] w fun e w' => ∃ r, e = .returned (.float .f32 r) ∧ Hid (cn .f32 r = bfE (cn .f32 x) ∧ r < 4294967296) ∧ Dr w w' := by
  have hd := run_f32bits
  have hd2 := run_f32from
  cases h : isN .f32 x
  · have ho : FloatKind.f32.format.order x x = some .eq := by rw [order_self, h]; rfl
    have HN := Lib.hid h; clear h
    go_enter Try.func33, Try.ntmps33
    go_wp2
    go_ret
    have hN := HN.out
    have hle := not_nan_bd hx hN
    refine ⟨_, rfl, Lib.hid ?_, Dr.refl _⟩
    rw [bf_u32 hle]
    exact ⟨by unfold bfE; rw [isN_cn, hN, if_neg (by decide), cn_not hN], (bfW_lt hle).1⟩
  · have ho : FloatKind.f32.format.order x x = none := by rw [order_self, h]; rfl
    have HN := Lib.hid h; clear h
    go_enter Try.func33, Try.ntmps33
    go_wp2_with fail
    refine (impl_noNumber _).mono ?_
    rintro e w3 ⟨y, rfl, hy, q2, rfl⟩
    go_wp2
    go_ret
    exact ⟨_, rfl, Lib.hid ⟨by rw [hy.out.1]; unfold bfE; rw [isN_cn, if_pos HN.out], hy.out.2⟩, _, rfl⟩
end Go.Proofs.Ytnnefcakfaifmaa
