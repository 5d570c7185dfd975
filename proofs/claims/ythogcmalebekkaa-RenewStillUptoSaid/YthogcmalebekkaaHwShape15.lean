import Derived.Test.YthogcmalebekkaaHwShape14
set_option linter.unusedVariables false
set_option linter.unusedSimpArgs false
namespace Go.Hw.VR
open Go Go.Proofs

end Go.Hw.VR

