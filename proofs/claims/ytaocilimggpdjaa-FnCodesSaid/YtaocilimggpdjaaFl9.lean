/- Plain laws of floats, continued: numbers made whole, and clamped. No condition. -/
import Derived.Test.YtaocilimggpdjaaFl8
import GoSem.Extern.MathFloor
namespace Go.Proofs.Ytaocilimggpdjaa
open Go Go.RowKit Ieee
set_option linter.unusedVariables false
set_option linter.unusedSimpArgs false
theorem order_someK {k : FloatKind} {x y : Nat} (hx : isN k x = false) (hy : isN k y = false) : ∃ c, k.format.order x y = some c := by
  unfold isN at hx hy
  show ∃ c, (k.format.read x).order (k.format.read y) = some c
  cases h1 : k.format.read x with
  | nan s t => rw [h1] at hx; cases hx
  | infinity s =>
    cases h2 : k.format.read y with
    | nan s t => rw [h2] at hy; cases hy
    | infinity t => exact ⟨_, rfl⟩
    | number t m p => exact ⟨_, rfl⟩
  | number s m p =>
    cases h2 : k.format.read y with
    | nan s t => rw [h2] at hy; cases hy
    | infinity t => exact ⟨_, rfl⟩
    | number t m p => exact ⟨_, rfl⟩
/-- a number made whole, as a word -/
def whole (way : Toward) (x : Nat) : Nat := double.write ((double.read x).integral way)
theorem whole_arm (name : String) (way : Toward) (x : Nat) : ∃ arm : Bool → Nat → Sem Value, Extern.MathFloor.toIntegral name way #[.float .f64 x] =
    Extern.MathFloor.toIntegral.match_1 (fun _ => Sem Value) (FloatKind.f64.decode x) arm (fun d => pure (.float .f64 (FloatKind.f64.encode (d.integral way)))) := ⟨_, rfl⟩
theorem run_whole {P : Program} (name : String) (way : Toward) (w : World) (x : Nat) (hx : isN .f64 x = false) : (Extern.MathFloor.toIntegral name way #[.float .f64 x]).run P w = .ok (.float .f64 (whole way x)) w := by
  obtain ⟨arm, e⟩ := whole_arm name way x
  rw [e]
  unfold isN at hx
  unfold whole
  cases h : double.read x with
  | nan s t => rw [show FloatKind.f64.format.read x = _ from h] at hx; cases hx
  | infinity s => rw [show FloatKind.f64.decode x = _ from h]; rfl
  | number s m p => rw [show FloatKind.f64.decode x = _ from h]; rfl
theorem whole_not (way : Toward) {x : Nat} (hx : isN .f64 x = false) : isN .f64 (whole way x) = false := by
  unfold whole
  apply write_not double
  unfold isN at hx
  cases h : double.read x with
  | nan s t => rw [show FloatKind.f64.format.read x = _ from h] at hx; cases hx
  | infinity s => rfl
  | number s m p => rfl
end Go.Proofs.Ytaocilimggpdjaa
