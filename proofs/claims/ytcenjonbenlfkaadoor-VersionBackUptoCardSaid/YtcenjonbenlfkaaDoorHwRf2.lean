import Derived.Test.YtcenjonbenlfkaaDoorHwRf
import Derived.Test.YtcenjonbenlfkaaDoorHwF2
set_option linter.unusedVariables false
set_option linter.unusedSimpArgs false
namespace Go.Hw
open Go
variable {P : Program} {N m : Nat} {e : Env} {h h' : Heap} {QQ : Ex → Env → Heap → Prop}

end Go.Hw

