/- What comparing numbers of floats computes. No condition. -/
import Derived.Test.YtnnefcakfaifmaaFl2
import Derived.Test.YtnnefcakfaifmaaSmall
namespace Go.Proofs.Ytnnefcakfaifmaa
open Go Go.RowKit
set_option linter.unusedVariables false
/-- the world behind some draws -/
def Dr (w w' : World) : Prop := ∃ n, w' = w.drewN n
theorem Dr.refl (w : World) : Dr w w := ⟨0, rfl⟩
theorem Dr.below {w w' : World} (h : Dr w w') : Below w.heap.size w w' := by obtain ⟨n, rfl⟩ := h; exact below_drewN (Below.refl _ _) n
end Go.Proofs.Ytnnefcakfaifmaa
