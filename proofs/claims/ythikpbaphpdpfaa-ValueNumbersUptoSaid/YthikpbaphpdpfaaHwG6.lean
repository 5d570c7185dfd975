/- Typed steps for structs whose encoding is known by an equation. -/
import Derived.Test.YthikpbaphpdpfaaHwAcc
set_option linter.unusedVariables false
set_option linter.unusedSimpArgs false
namespace Go.Hw
open Go
variable {P : Program} {N m : Nat} {S D : CallP} {b : Nat} {r : List Op} {e e' : Env} {h h' : Heap} {Q : Env → Heap → Prop} {QQ : Ex → Env → Heap → Prop} {d : Nat} {x y z : X}

theorem g_iaddrE {A : Type} {l : List A} {f : A → HV} {sz : Nat} {tok : Tok} {n : Int} {i : IntKind} {K : A → Prop} (hf : Enc f sz) (g : A → List HV) (hc : ∀ a, (f a).cells = g a) (hx : x.ev e = some (.list (l.map f) tok)) (hy : y.ev e = some (.int i n)) (hw : (0 ≤ n ∧ n < l.length) ∧ ∀ a, l[n.toNat]? = some a → K a) (k : ∀ a, K a → HO S b r ((d, .rptr (g a)) :: e) h Q) : HO S b (⟨some d, .op (.iaddr sz x y), none⟩ :: r) e h Q :=
  g_iaddr hf hx hy hw fun a ha => by rw [hc a]; exact k a ha
/-- Lists are full ones of encoded things. -/
theorem mk_nil {A : Type} {f : A → HV} : ([] : List HV) = ([] : List A).map f := rfl
theorem mk_cons {A : Type} {f : A → HV} {v : HV} {vs : List HV} {a : A} {l : List A} (h1 : v = f a) (h2 : vs = l.map f) : v :: vs = (a :: l).map f := by rw [h1, h2]; rfl
end Go.Hw
