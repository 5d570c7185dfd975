/- The values, the small code and the weakest precondition of the program logic Hw: definitions alone. -/
import Derived.Below
import Derived.KernelRfl
namespace Go.Hw
open Go

/-- What is known of a pure slice's room: nothing; its capacity is its length; it ends where the token k says. -/
inductive Tok where
  | none | full | own (k off sz : Nat)
  deriving DecidableEq, Repr, Inhabited

inductive HV where
  | bool (b : Bool)
  | int (k : IntKind) (n : Int)
  | str (s : List UInt8)
  | list (hs : List HV) (tok : Tok)
  | nilslice
  | arr (id off len sz : Nat)
  | rptr (cs : List HV)
  | ptr (id off : Nat)
  | nilptr
  | map (id : Nat)
  | nilmap
  | func (f : FuncId) (caps : List HV)
  | nilfunc
  | nilif
  | iface (t : Nat) (x : HV)
  | agg (cs : List HV)
  | tuple (vs : List HV)
  | any
  deriving Repr, Inhabited

def HV.cells : HV → List HV
  | .agg cs => cs
  | v => [v]

/-- The value of one cell. -/
def HV.leaf : HV → Bool
  | .agg _ | .tuple _ => false
  | _ => true

/-- Without the token of its own. -/
def HV.strip : HV → HV
  | .list hs _ => .list hs .none
  | v => v
def HV.strip1 : HV → HV
  | .list hs _ => .list hs .none
  | .agg cs => .agg (cs.map HV.strip)
  | .tuple vs => .tuple (vs.map HV.strip)
  | v => v

inductive HObj where
  | cells (cs : List HV)
  | map (es : List (Nat × HV × HV)) (clock : Nat)
  | iter (m : Option Nat) (since : Nat) (seen : List Nat) (last : Nat)
  | siter (s : List UInt8) (pos : Nat)
  | tok (n : Nat)
  | dead
  | res
  deriving Repr, Inhabited

abbrev Heap := List HObj
abbrev Env := List (Nat × HV)

def Env.get : Env → Nat → Option HV
  | [], _ => Option.none
  | (k, v) :: r, t => if k = t then some v else Env.get r t

/-- An operand. -/
inductive X where
  | t (n : Nat)
  | c (v : HV)
  deriving Repr, Inhabited

def X.ev (e : Env) : X → Option HV
  | .t n => e.get n
  | .c v => some v

inductive Cv where
  | int (k : IntKind)
  | same
  | toBytes
  | ofBytes
  deriving Repr, Inhabited, DecidableEq

/-- The kind of one cell of a struct that is compared. -/
inductive Sc where
  | b | i | s
  deriving Repr, Inhabited, DecidableEq
inductive EqK where
  | int | bool | str | ptr | map | func | slice | agg (ks : List Sc)
  deriving Repr, Inhabited, DecidableEq

inductive O where
  | mv (x : X)
  | pick (c a b : X)
  | alloc (r : Option Nat) (zero : List HV)
  | box (r : Option Nat) (n : Nat) (x : X)
  | build (zero : List HV) (parts : List (Nat × Nat × X))
  | mklist (sz : Nat) (xs : List X)
  | load (n : Option Nat) (x : X)
  | store (n : Nat) (a x : X)
  | nilck (x : X)
  | bin (op : BinOp) (x y : X)
  | eqv (neg : Bool) (k : EqK) (x y : X)
  | un (op : UnOp) (x : X)
  | conv (c : Cv) (x : X)
  | mkfunc (f : FuncId) (caps : List X)
  | mkmap (r : Option Nat)
  | mkslice (r : Option Nat) (sz bytes : Nat) (zero : List HV) (len cap : X)
  | slice (sz : Nat) (x : X) (lo hi mx : Option X)
  | sslice (x : X) (lo hi : Option X)
  | slicearr (n sz : Nat) (x : X) (lo hi : Option X)
  | faddr (off size : Nat) (x : X)
  | field (off : Nat) (n : Option Nat) (x : X)
  | iaddr (sz : Nat) (x i : X)
  | iaddrarr (n sz : Nat) (x i : X)
  | index (x i : X)
  | indexarr (n sz : Nat) (agg : Bool) (x i : X)
  | lookup (kd : EqK) (zero : HV) (ok : Bool) (x i : X)
  | mapset (kd : EqK) (m k v : X)
  | mapentry (kd : EqK) (zero : HV) (m k : X)
  | entryset (m s v : X)
  | mapdel (kd : EqK) (m k : X)
  | range (str : Bool) (x : X)
  | next (str : Bool) (x : X)
  | entry (x : X)
  | extract (x : X) (i : Nat)
  | len (str : Bool) (x : X)
  | maplen (x : X)
  | lenc (n : Nat)
  | append (sz bytes : Nat) (s x : X)
  | appendarr (sz bytes : Nat) (s x : X)
  | copy (sz : Nat) (d s : X)
  | min (xs : List X)
  | max (xs : List X)
  | mkif (t : Nat) (x : X)
  | isnil (neg : Bool) (x : X)
  | bad
  deriving Repr, Inhabited

inductive OC where
  | op (o : O)
  | call (f : FuncId) (args : List X)
  | callv (f : X) (args : List X)
  deriving Repr, Inhabited

structure Op where
  dst : Option Nat
  o : OC
  guard : Option (Nat × Bool)
  deriving Repr, Inhabited

inductive C where
  | skip
  | reg (ops : List Op) (keep : List Nat)
  | dreg (ops : List Op) (tail : List Op) (nres : Nat) (keep : List Nat)
  | dord (acts : List FuncId) (alts : List (List Op)) (nres : Nat) (keep : List Nat)
  | seq (a b : C)
  | cond (c : X) (a b : C)
  | block (id : Nat) (c : C)
  | loop (c : C)
  | exit (id : Nat)
  | ret
  | bad (why : Nat)
  deriving Repr, Inhabited

end Go.Hw
