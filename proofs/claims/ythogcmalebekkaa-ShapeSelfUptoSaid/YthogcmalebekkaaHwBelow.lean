import Derived.Below
import Derived.Test.YthogcmalebekkaaHwF2
set_option linter.unusedVariables false
namespace Go.Hw
open Go Go.RowKit
end Go.Hw

