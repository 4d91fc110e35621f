/- What the nearest bfloat is. No condition. -/
import Derived.Test.YtaocilimggpdjaaAbs
import Derived.Test.YtaocilimggpdjaaFl8
namespace Go.Proofs.Ytaocilimggpdjaa
open Go Go.RowKit
set_option linter.unusedVariables false
set_option linter.unusedSimpArgs false
end Go.Proofs.Ytaocilimggpdjaa
