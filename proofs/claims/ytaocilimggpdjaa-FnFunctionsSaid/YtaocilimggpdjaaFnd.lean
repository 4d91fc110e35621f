/- The functions at the numbers that the law draws: what is looked up. No condition. -/
import Derived.Test.YtaocilimggpdjaaLo2
import Derived.Test.YtaocilimggpdjaaDrw
namespace Go.Proofs.Ytaocilimggpdjaa
open Go Go.RowKit Ieee
set_option linter.unusedVariables false
set_option linter.unusedSimpArgs false
def ng (x : Nat) : Nat := Op.negFloat .f32 x
def logF (x : Nat) : Nat := fcv .f64 (logW (fcv .f32 x .f64)) .f32
def tanhP (x : Nat) : Nat := expW (fop .mul .f64 T64 (fcv .f32 x .f64))
def tanhQ (x : Nat) : Nat := fop .quo .f64 (fop .sub .f64 (tanhP x) O64) (fop .add .f64 (tanhP x) O64)
def tanhF (x : Nat) : Nat := fcv .f64 (tanhQ x) .f32
def gapW (a b : Nat) : Nat := if FloatKind.f64.format.order a b = some .lt then fop .sub .f64 b a else fop .sub .f64 a b
def c9 : Nat := 1091567616
def cm9 : Nat := 3239051264
def big9 (x : Nat) : Bool := FloatKind.f32.format.order x c9 == some .gt || FloatKind.f32.format.order x cm9 == some .lt
def adjW (x : Nat) : Nat := if big9 x = true then fop .quo .f32 x 1082130432 else x
/-- an order that is there, and not one -/
def notO (k : FloatKind) (a b : Nat) (o : Ordering) : Bool := match k.format.order a b with
  | some q => q != o
  | none => false
structure FRow where
  x : Nat
  E : Nat
  F : Nat
  P : Nat
  Q : Nat
  L : Nat
def nrw (x : Nat) : Nat := fcv .f64 x .f32
def wid (x : Nat) : Nat := fcv .f32 x .f64
def tanhR (p : Nat) : Nat := fop .quo .f64 (fop .sub .f64 p O64) (fop .add .f64 p O64)
def absX (x : Nat) : Nat := if FloatKind.f32.format.order x 0 = some .lt then ng x else x
/-- a row is right -/
def rowB (p : FRow) : Bool :=
  expW (wid p.x) == p.E && expW (wid (ng p.x)) == p.F && expW (fop .mul .f64 T64 (wid p.x)) == p.P && expW (fop .mul .f64 T64 (wid (ng p.x))) == p.Q && logW (wid (nrw p.E)) == p.L
def expOkB (x E : Nat) : Bool := notO .f32 x c200 .gt && notO .f32 x cm200 .lt && !(cvWide .f64 E .f32) && !(isN .f32 (nrw E))
def tanhOkB (x P : Nat) : Bool := notO .f32 x 1101004800 .gt && notO .f32 x 3248488448 .lt && !(cvWide .f64 (tanhR P) .f32) && !(isN .f32 (nrw (tanhR P)))
def okB (p : FRow) : Bool :=
  expOkB p.x p.E && expOkB (ng p.x) p.F && tanhOkB p.x p.P && tanhOkB (ng p.x) p.Q && decide (0 < nrw p.E) && decide (nrw p.E < 2139095040) && decide (874 * B64 ≤ wid (nrw p.E)) && decide (wid (nrw p.E) < 1152 * B64) && !(cvWide .f64 p.L .f32) &&
  !(isN .f32 p.x) && !(isN .f32 (nrw p.L)) && !(isN .f32 (rootE (fop .mul .f32 p.x p.x))) && !(isN .f32 (fop .mul .f32 p.x p.x)) &&
  notO .f64 (gapW (fop .mul .f64 (wid (nrw p.E)) (wid (nrw p.F))) O64) 4517329193108106637 .gt &&
  notO .f64 (gapW (wid (nrw p.L)) (wid p.x)) 4532020583610935537 .gt &&
  notO .f64 (gapW (wid (nrw (tanhR p.P))) (Op.negFloat .f64 (wid (nrw (tanhR p.Q))))) 4517329193108106637 .gt &&
  !(isN .f64 (Op.negFloat .f64 (wid (nrw (tanhR p.Q))))) && notO .f32 p.x c9 .gt && notO .f32 p.x cm9 .lt && decide (p.x < 4294967296) && notO .f32 (nrw (tanhR p.P)) 1065353216 .gt && notO .f32 (nrw (tanhR p.P)) 3212836864 .lt && notO .f64 (gapW (wid (rootE (fop .mul .f32 p.x p.x))) (wid (absX p.x))) 4532020583610935537 .gt
end Go.Proofs.Ytaocilimggpdjaa
