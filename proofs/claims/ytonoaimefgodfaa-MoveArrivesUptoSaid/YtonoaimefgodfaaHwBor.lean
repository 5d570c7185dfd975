import Derived.Test.YtonoaimefgodfaaHwF2
set_option linter.unusedVariables false
set_option linter.unusedSimpArgs false
namespace Go.Hw
open Go
variable {P : Program}

inductive Scal : HV → Prop
  | bool (b : Bool) : Scal (.bool b)
  | int (k : IntKind) (n : Int) : Scal (.int k n)
  | str (s : List UInt8) : Scal (.str s)
  | tuple (cs : List HV) (h : ∀ x ∈ cs, Scal x) : Scal (.tuple cs)
inductive BorCs (h : Heap) : List HV → List HV → Prop
  | nil : BorCs h [] []
  | same (x : HV) {cs ds : List HV} (k : BorCs h cs ds) : BorCs h (x :: cs) (x :: ds)
  | arr {i n sz : Nat} {hs : List HV} (hc : h[i]? = some (.cells (flat hs))) (hn : hs.length = n) (hw : ∀ x ∈ hs, x.cells.length = sz) {cs ds : List HV} (k : BorCs h cs ds) : BorCs h (.arr i 0 n sz :: cs) (.list hs .none :: ds)
inductive BorL (h : Heap) : List HV → List HV → Prop
  | nil : BorL h [] []
  | same (x : HV) {xs ys : List HV} (k : BorL h xs ys) : BorL h (x :: xs) (x :: ys)
  | ptr {id : Nat} {cs ds : List HV} (hc : h[id]? = some (.cells cs)) (hb : BorCs h cs ds) {xs ys : List HV} (k : BorL h xs ys) : BorL h (.ptr id 0 :: xs) (.rptr ds :: ys)
  | arr {i n sz : Nat} {hs : List HV} (hc : h[i]? = some (.cells (flat hs))) (hn : hs.length = n) (hw : ∀ x ∈ hs, x.cells.length = sz) {xs ys : List HV} (k : BorL h xs ys) : BorL h (.arr i 0 n sz :: xs) (.list hs .none :: ys)
section
variable {N m : Nat} {S D : CallP} {b : Nat} {r : List Op} {e e' : Env} {h h' : Heap} {Q : Env → Heap → Prop} {d : Nat}
end

end Go.Hw

