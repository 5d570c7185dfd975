import Derived.Test.YthogcmalebekkaaHwSame3
set_option linter.unusedVariables false
set_option linter.unusedSimpArgs false
namespace Go.Hw.VR
open Go Go.Proofs

def B2 : List Bool := [false, true]
def kb (b : Bool) : Int := if b then 2 else 1
def outB (b z b' z' : Bool) (a c : Ty) : Option Bool := outE (datas (kb b) z) (datas (kb b') z') a c 5 []
theorem chk_self : (B2.all fun b => B2.all fun z => t9.all fun a => outB b z b z a a == some true) = true := by decide +kernel
theorem chk_sym : (B2.all fun b => B2.all fun z => B2.all fun b' => B2.all fun z' => t9.all fun a => t9.all fun c => (outB b z b' z' a c).isSome && outB b z b' z' a c == outB b' z' b z c a) = true := by decide +kernel
end Go.Hw.VR

