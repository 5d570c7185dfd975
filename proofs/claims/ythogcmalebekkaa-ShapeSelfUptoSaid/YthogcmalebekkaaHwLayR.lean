import Derived.Shelf.Strings.Repeat
import Derived.Test.YthogcmalebekkaaHwR1
import Derived.Test.YthogcmalebekkaaHwBelow
set_option linter.unusedVariables false
set_option linter.unusedSimpArgs false
namespace Go.Hw.VR
open Go Go.Proofs
end Go.Hw.VR

