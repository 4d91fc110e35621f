/- What the nearest bfloat is. No condition. -/
import Derived.Test.YtlalocjfjnghmaaAbs
import Derived.Test.YtlalocjfjnghmaaFl8
namespace Go.Proofs.Ytlalocjfjnghmaa
open Go Go.RowKit
set_option linter.unusedVariables false
set_option linter.unusedSimpArgs false
end Go.Proofs.Ytlalocjfjnghmaa
