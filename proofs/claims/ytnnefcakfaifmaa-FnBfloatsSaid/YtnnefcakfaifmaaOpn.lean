/- How the arguments of the laws are opened, by their types. No condition. -/
import Derived.Test.YtnnefcakfaifmaaRows
import Derived.Test.YtnnefcakfaifmaaMem
namespace Go.Proofs.Ytnnefcakfaifmaa
open Go Go.RowKit Go.ChangeShapes Go.WideShapes
theorem own_knob : ownKnob Try.prog.godebug = none := by kernel_rfl
theorem laid_out : laidOutB Try.prog = true := by kernel_rfl
section
variable {H : Type} {enc : TypeId × Value → H} {w : World} {base : Nat} {spare : Nat → Bool} {held : Bool}
end
end Go.Proofs.Ytnnefcakfaifmaa
