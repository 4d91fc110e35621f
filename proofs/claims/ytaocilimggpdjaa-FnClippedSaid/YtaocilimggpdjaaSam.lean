/- What comparing numbers of floats computes. No condition. -/
import Derived.Test.YtaocilimggpdjaaFl2
import Derived.Test.YtaocilimggpdjaaSmall
namespace Go.Proofs.Ytaocilimggpdjaa
open Go Go.RowKit
set_option linter.unusedVariables false
/-- the world behind some draws -/
def Dr (w w' : World) : Prop := ∃ n, w' = w.drewN n
theorem Dr.refl (w : World) : Dr w w := ⟨0, rfl⟩
theorem Dr.below {w w' : World} (h : Dr w w') : Below w.heap.size w w' := by obtain ⟨n, rfl⟩ := h; exact below_drewN (Below.refl _ _) n
theorem sameFloat_any (a b : Nat) (h : cn .f64 a = cn .f64 b) (w : World) : Calls Try.prog 28 #[.float .f64 a, .float .f64 b] w fun e w' => e = .returned (.bool true) ∧ Dr w w' := by
  by_cases ha : isN .f64 a = true
  · have hb : isN .f64 b = true := by rw [← isN_of_cn h]; exact ha
    have h1 : FloatKind.f64.format.order a a = none := order_none (.inl ha)
    have h2 : FloatKind.f64.format.order b b = none := order_none (.inl hb)
    clear h ha hb
    go_enter Try.func28, Try.ntmps28
    go_wp2
    go_ret
    exact ⟨rfl, Dr.refl _⟩
  · have ha' : isN .f64 a = false := by simpa using ha
    obtain rfl := eq_of_cn h ha'
    obtain ⟨r, hr⟩ := one_over ha'
    have h1 : FloatKind.f64.format.order a a = some .eq := by rw [order_self, if_neg ha]
    have h2 := fun w => fbits_some hr w
    have h3 := fdr_some hr
    clear h ha ha' hr
    go_enter Try.func28, Try.ntmps28
    go_wp2
    all_goals (go_ret; first | exact ⟨rfl, Dr.refl _⟩ | exact ⟨rfl, _, rfl⟩)
end Go.Proofs.Ytaocilimggpdjaa
