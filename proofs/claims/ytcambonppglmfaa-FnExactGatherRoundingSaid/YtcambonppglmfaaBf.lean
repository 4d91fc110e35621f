/- What the nearest bfloat is. No condition. -/
import Derived.Test.YtcambonppglmfaaAbs
import Derived.Test.YtcambonppglmfaaFl8
namespace Go.Proofs.Ytcambonppglmfaa
open Go Go.RowKit
set_option linter.unusedVariables false
set_option linter.unusedSimpArgs false
theorem impl_BfloatOf (x : Nat) (hx : x < 4294967296) (w : World) : Calls Try.prog 67 #[.float .f32 x] w fun e w' => ∃ r, e = .returned (.float .f32 r) ∧ Hid (cn .f32 r = bfE (cn .f32 x) ∧ r < 4294967296) ∧ Dr w w' := by
  have hd := run_f32bits
  have hd2 := run_f32from
  cases h : isN .f32 x
  · have ho : FloatKind.f32.format.order x x = some .eq := by rw [order_self, h]; rfl
    have HN := Lib.hid h; clear h
    go_enter Try.func67, Try.ntmps67
    go_wp2
    go_ret
    have hN := HN.out
    have hle := not_nan_bd hx hN
    refine ⟨_, rfl, Lib.hid ?_, Dr.refl _⟩
    rw [bf_u32 hle]
    exact ⟨by unfold bfE; rw [isN_cn, hN, if_neg (by decide), cn_not hN], (bfW_lt hle).1⟩
  · have ho : FloatKind.f32.format.order x x = none := by rw [order_self, h]; rfl
    have HN := Lib.hid h; clear h
    go_enter Try.func67, Try.ntmps67
    go_wp2_with fail
    refine (impl_noNumber _).mono ?_
    rintro e w3 ⟨y, rfl, hy, q2, rfl⟩
    go_wp2
    go_ret
    exact ⟨_, rfl, Lib.hid ⟨by rw [hy.out.1]; unfold bfE; rw [isN_cn, if_pos HN.out], hy.out.2⟩, _, rfl⟩
theorem spec_l01Bfloat (x : Nat) (hx : x < 4294967296) (w : World) : Calls Try.prog 65 #[.float .f32 x] w fun e w' => ∃ r, e = .returned (.float .f32 r) ∧ Hid (cn .f32 r = bfE (cn .f32 x) ∧ r < 4294967296) ∧ Dr w w' := by
  cases hf : finB x
  · go_enter Try.func65, Try.ntmps65
    go_wp2_with (go_at_call 103; refine (spec_l01Finite _ _).mono ?_; rintro e w' ⟨rfl, ⟨q, rfl⟩⟩)
    go_ret
    refine ⟨_, rfl, Lib.hid ⟨?_, hx⟩, _, rfl⟩
    unfold bfE
    rw [isN_cn]
    cases hN : isN .f32 x
    · rw [if_neg (by decide), cn_not hN, bfW_inf (not_fin hx hf hN), cn_not hN]
    · rw [if_pos rfl, cn_nan hN]
  · have hN := finB_not hf
    have hb := spec_l01Bits x hx
    rw [cn_not hN] at hb
    have HB := Lib.hid hb; clear hb
    have hle := not_nan_bd hx hN
    have h2 := bfW_lt hle
    have HN := Lib.hid hN; clear hN
    go_enter Try.func65, Try.ntmps65
    go_wp2_with fail
    refine (spec_l01Finite _ _).mono ?_
    rintro e w' ⟨rfl, ⟨q, rfl⟩⟩
    go_wp2_with fail
    refine (HB.out _).mono ?_
    rintro e w' ⟨rfl, rfl⟩
    go_wp2_with fail
    rw [bf_i64 hle]
    refine (spec_l01From _ h2.1 _).mono ?_
    rintro e w' ⟨rfl, rfl⟩
    go_wp2
    go_ret
    exact ⟨_, rfl, Lib.hid ⟨by unfold bfE; rw [isN_cn, HN.out, if_neg (by decide), cn_not HN.out], h2.1⟩, _, rfl⟩
end Go.Proofs.Ytcambonppglmfaa
