import Derived.Below
import Derived.KernelRfl
import Derived.Laws.AppendOwn
import Derived.Laws.NewBlocks
import Derived.Laws.Slices
import Derived.Laws.Strings
import Derived.Laws.StructEq
import Derived.Laws.BytesArg
import Derived.Laws.CopyRow
namespace Go.Hw
open Go

inductive Tok where
  | none | full | own (k off sz : Nat)
  deriving DecidableEq, Repr, Inhabited

inductive HV where
  | bool (b : Bool)
  | int (k : IntKind) (n : Int)
  | str (s : List UInt8)
  | list (hs : List HV) (tok : Tok)
  | nilslice
  | arr (id off len sz : Nat)
  | rptr (cs : List HV)
  | ptr (id off : Nat)
  | nilptr
  | map (id : Nat)
  | nilmap
  | func (f : FuncId) (caps : List HV)
  | nilfunc
  | nilif
  | iface (t : Nat) (x : HV)
  | agg (cs : List HV)
  | tuple (vs : List HV)
  | any
  deriving Repr, Inhabited

def HV.cells : HV → List HV
  | .agg cs => cs
  | v => [v]

def HV.leaf : HV → Bool
  | .agg _ | .tuple _ => false
  | _ => true

def HV.strip : HV → HV
  | .list hs _ => .list hs .none
  | v => v
def HV.strip1 : HV → HV
  | .list hs _ => .list hs .none
  | .agg cs => .agg (cs.map HV.strip)
  | .tuple vs => .tuple (vs.map HV.strip)
  | v => v

inductive HObj where
  | cells (cs : List HV)
  | map (es : List (Nat × HV × HV)) (clock : Nat)
  | iter (m : Option Nat) (since : Nat) (seen : List Nat) (last : Nat)
  | siter (s : List UInt8) (pos : Nat)
  | bld (T : TypeId) (row : Option Nat) (n cap : Nat)
  | brow (U : TypeId) (cap : Nat) (l : List UInt8)
  | tok (n : Nat)
  | dead
  | res
  deriving Repr, Inhabited

abbrev Heap := List HObj
abbrev Env := List (Nat × HV)

def Env.get : Env → Nat → Option HV
  | [], _ => Option.none
  | (k, v) :: r, t => if k = t then some v else Env.get r t

inductive X where
  | t (n : Nat)
  | c (v : HV)
  deriving Repr, Inhabited

def X.ev (e : Env) : X → Option HV
  | .t n => e.get n
  | .c v => some v

inductive Cv where
  | int (k : IntKind)
  | same
  | toBytes
  | ofBytes
  | mark
  deriving Repr, Inhabited, DecidableEq

inductive Sc where
  | b | i | s
  deriving Repr, Inhabited, DecidableEq
inductive EqK where
  | int | bool | str | ptr | map | func | slice | agg (ks : List Sc)
  deriving Repr, Inhabited, DecidableEq

inductive O where
  | mv (x : X)
  | pick (c a b : X)
  | alloc (r : Option Nat) (zero : List HV)
  | bldnew (T : TypeId)
  | box (r : Option Nat) (n : Nat) (x : X)
  | build (zero : List HV) (parts : List (Nat × Nat × X))
  | mklist (sz : Nat) (xs : List X)
  | mkarr (r : Option Nat) (sz : Nat) (xs : List X)
  | load (n : Option Nat) (x : X)
  | store (n : Nat) (a x : X)
  | nilck (x : X)
  | bin (op : BinOp) (x y : X)
  | eqv (neg : Bool) (k : EqK) (x y : X)
  | un (op : UnOp) (x : X)
  | conv (c : Cv) (x : X)
  | mkfunc (f : FuncId) (caps : List X)
  | mkmap (r : Option Nat)
  | mkslice (r : Option Nat) (sz bytes : Nat) (zero : List HV) (len cap : X)
  | slice (sz : Nat) (x : X) (lo hi mx : Option X)
  | sslice (x : X) (lo hi : Option X)
  | slicearr (n sz : Nat) (x : X) (lo hi : Option X)
  | faddr (off size : Nat) (x : X)
  | field (off : Nat) (n : Option Nat) (x : X)
  | iaddr (sz : Nat) (x i : X)
  | iaddrarr (n sz : Nat) (x i : X)
  | index (x i : X)
  | indexarr (n sz : Nat) (agg : Bool) (x i : X)
  | lookup (kd : EqK) (zero : HV) (ok : Bool) (x i : X)
  | mapset (kd : EqK) (m k v : X)
  | mapentry (kd : EqK) (zero : HV) (m k : X)
  | entryset (m s v : X)
  | mapdel (kd : EqK) (m k : X)
  | range (str : Bool) (x : X)
  | next (str : Bool) (x : X)
  | entry (x : X)
  | extract (x : X) (i : Nat)
  | len (str : Bool) (x : X)
  | maplen (x : X)
  | lenc (n : Nat)
  | append (sz bytes : Nat) (s x : X)
  | appendarr (sz bytes : Nat) (s x : X)
  | copy (sz : Nat) (d s : X)
  | clear (sz : Nat) (zero : List HV) (x : X)
  | min (xs : List X)
  | max (xs : List X)
  | mkif (t : Nat) (x : X)
  | isnil (neg : Bool) (x : X)
  | bad
  deriving Repr, Inhabited

inductive OC where
  | op (o : O)
  | call (f : FuncId) (args : List X)
  | callv (f : X) (args : List X)
  deriving Repr, Inhabited

structure Op where
  dst : Option Nat
  o : OC
  guard : Option (Nat × Bool)
  deriving Repr, Inhabited

inductive C where
  | skip
  | reg (ops : List Op) (keep : List Nat)
  | dreg (ops : List Op) (tail : List Op) (nres : Nat) (keep : List Nat)
  | dord (acts : List FuncId) (alts : List (List Op)) (nres : Nat) (keep : List Nat)
  | seq (a b : C)
  | cond (c : X) (a b : C)
  | block (id : Nat) (c : C)
  | loop (c : C)
  | rfun (f : X) (ps : List Nat) (a b : C)
  | exit (id : Nat)
  | ret
  | bad (why : Nat)
  deriving Repr, Inhabited

end Go.Hw

set_option linter.unusedVariables false
namespace Go.Hw
open Go

def leafConst : Value → Option HV
  | .bool b => some (.bool b)
  | .int k n => some (.int k n)
  | .string s => some (.str s.data.toList)
  | .slice none 0 0 => some (.list [] .full)
  | .pointer none => some .nilptr
  | .map none => some .nilmap
  | .nilFunc => some .nilfunc
  | .nilIface => some .nilif
  | _ => none
def hconst : Value → Option HV
  | .agg cs => (cs.toList.mapM leafConst).map .agg
  | v => leafConst v

def cX : Operand → Option X
  | .tmp t => some (.t t)
  | .const v => (hconst v).map .c
  | .func f => some (.c (.func f []))
  | .global _ => none

def tsize (P : Program) (t : TypeId) : Option Nat := (P.info? t).map (·.size)
def tbytes (P : Program) (t : TypeId) : Option Nat := (P.info? t).map (·.bytes)
def tagg (P : Program) (t : TypeId) : Option (Option Nat) :=
  match P.underlying t with
  | some (.struct _) | some (.array _ _) => (tsize P t).map some
  | some _ => some none
  | none => none
def tzero (P : Program) (t : TypeId) : Option HV := do
  let i ← P.info? t
  hconst (← i.zero)
def scOf (P : Program) (t : TypeId) : Option Sc :=
  match P.underlying t with
  | some .bool => some .b
  | some (.int _) => some .i
  | some .string => some .s
  | _ => none
def eqKind (P : Program) (t : TypeId) : Option EqK :=
  match P.underlying t with
  | some .bool => some .bool
  | some (.int _) => some .int
  | some .string => some .str
  | some (.pointer _) => some .ptr
  | some (.map _ _) => some .map
  | some (.func _ _ _) => some .func
  | some (.slice _) => some .slice
  | some (.struct fs) => if fs.toList.zipIdx.all (fun (f, i) => tsize P f.type == some 1 && f.offset == i && f.name != "_") && !P.stoodInHeld t && !P.eqGuardType P.depth t then (fs.toList.mapM fun f => scOf P f.type).map .agg else none
  | some (.array n e) => if !P.eqGuardType P.depth t && tsize P e == some 1 then (scOf P e).map fun k => .agg (List.replicate n k) else none
  | _ => none

def cXe (x : Operand) : Option X :=
  match x with
  | .const (.slice none 0 0) => some (.c .nilslice)
  | x => cX x

def cXn (nils : Bool) (x : Operand) : Option X := if nils then cXe x else cX x

def isIface : TypeDesc → Bool
  | .interface _ => true
  | _ => false
def cOpt : Option Operand → Option (Option X)
  | none => some none
  | some x => (cX x).map some

def cBuiltin (P : Program) (muts : Bool) (b : Builtin) (args : List X) (ts : Array TypeId) : Option O := do
  let t0 ← ts[0]?
  match b, args with
  | .len, [x] =>
    match P.underlying t0 with
    | some .string => some (.len true x)
    | some (.slice _) => some (.len false x)
    | some (.map _ _) => some (.maplen x)
    | some (.array n _) => some (.lenc n)
    | some (.pointer a) => match P.underlying a with
      | some (.array n _) => some (.lenc n)
      | _ => none
    | _ => none
  | .append, [s, x] => do
    let t1 ← ts[1]?
    match P.underlying t0 with
    | some (.slice e) => do
      let sz ← tsize P e
      let by_ ← tbytes P e
      let z ← tzero P e
      match P.underlying t1 with
      | some (.slice _) | some .string => if sz == 0 || by_ == 0 || z.cells.length != sz then none else if muts then some (.appendarr sz by_ s x) else some (.append sz by_ s x)
      | _ => none
    | _ => none
  | .copy, [d, s] => do
    match P.underlying t0 with
    | some (.slice e) => some (.copy (← tsize P e) d s)
    | _ => none
  | .delete, [m, k] =>
    match P.underlying t0 with
    | some (.map kt _) => (eqKind P kt).map fun kd => .mapdel kd m k
    | _ => none
  | .clear, [x] => do
    match P.underlying t0 with
    | some (.slice e) => some (.clear (← tsize P e) ((← tzero P e).cells.map HV.strip1) x)
    | _ => none
  | .min, xs => some (.min xs)
  | .max, xs => some (.max xs)
  | _, _ => none

def cBin (P : Program) (op : BinOp) (t : TypeId) (x y : Operand) : Option O :=
  match op with
  | .eql => match P.underlying t, y with
    | some (.interface _), .const .nilIface => (cX x).map (.isnil false)
    | _, _ => do some (.eqv false (← eqKind P t) (← cXe x) (← cXe y))
  | .neq => match P.underlying t, y with
    | some (.interface _), .const .nilIface => (cX x).map (.isnil true)
    | _, _ => do some (.eqv true (← eqKind P t) (← cXe x) (← cXe y))
  | op => do some (.bin op (← cX x) (← cX y))
def cConv (P : Program) (src dst : TypeId) (x : Operand) : Option O := do
  let x ← cX x
  match P.underlying src, P.underlying dst with
  | some (.int _), some (.int k) => some (.conv (.int k) x)
  | some .string, some .string => some (.conv .same x)
  | some .string, some (.slice e) => if P.underlying e matches some (.int .u8) then some (.conv .toBytes x) else none
  | some (.slice e), some .string => if P.underlying e matches some (.int .u8) then some (.conv .ofBytes x) else none
  | some (.slice _), some (.slice e) => if P.underlying e matches some (.int .u8) then (if src = dst then some (.conv .mark x) else none) else none
  | _, _ => none
def cMkFunc (fn : Fn) (first caps : Array Operand) : Option O :=
  match fn with
  | .func f => do if first.size == 0 then some (.mkfunc f (← caps.toList.mapM cX)) else none
  | _ => none
def cCall (P : Program) (muts : Bool) (c : Call) : Option OC :=
  match c.callee with
  | .builtin b => (do cBuiltin P muts b (← c.args.toList.mapM cX) c.argTypes : Option O).map .op
  | .value (.func f) => do some (.call f (← c.args.toList.mapM (cXn muts)))
  | .value f => do some (.callv (← cX f) (← c.args.toList.mapM cX))
  | .invoke _ _ => none

def isBld : HV → Bool
  | .agg [.nilptr, .list [] .full] => true
  | _ => false
def mkz (muts : Bool) (z : List HV) : List HV := if muts then z else z.map HV.strip1
def cOp (P : Program) (r : Option Nat) (muts : Bool) (o : Oper) : Option OC :=
  let p (x : Option O) : Option OC := x.map .op
  match o.op with
  | .move x | .assign x => p ((cX x).map .mv)
  | .pick c a b => p do some (.pick (← cX c) (← cX a) (← cX b))
  | .alloc e => p do if muts && isBld ((tzero P e).getD .any) then some (.bldnew e) else some (.alloc r (← tzero P e).cells)
  | .box e x => p do some (.box r (← tsize P e) (← cX x))
  | .build t parts => p do
    let z ← tzero P t
    match P.underlying t with
    | some (.struct fs) =>
      let _ ← fs.toList.mapM fun f => tsize P f.type
      let ps ← parts.toList.mapM fun (i, x) => do
        let f ← fs[i]?
        some (f.offset, ← tsize P f.type, ← cX x)
      some (.build z.cells ps)
    | some (.array _ e) =>
      let n ← tsize P e
      let ps ← parts.toList.mapM fun (i, x) => do some (i * n, n, ← cX x)
      some (.build z.cells ps)
    | _ => none
  | .buildSlice t len parts => p do
    match P.underlying t with
    | some (.slice e) =>
      let n ← tsize P e
      let z ← tzero P e
      let xs ← (parts.toList.map (·.2)).mapM cX
      if n != 0 && z.cells.length == n && parts.toList.map (·.1) == List.range len && len * n ≤ 2 ^ 24 then some (if muts then .mkarr r n xs else .mklist n xs) else none
    | _ => none
  | .load t a => p do some (.load (← tagg P t) (← cX a))
  | .store t a x => p do some (.store (← tsize P t) (← cX a) (← cX x))
  | .nilCheck x => p do some (.nilck (← cX x))
  | .binOp op t x y _ => p (cBin P op t x y)
  | .unOp op t x => p do some (.un op (← cX x))
  | .convert src dst x => p (cConv P src dst x)
  | .makeFunc fn first caps => p (cMkFunc fn first caps)
  | .makeMap _ hint => p (match hint with
    | none => some (.mkmap r)
    | some _ => none)
  | .makeSlice t l c => p do
    match P.underlying t with
    | some (.slice e) =>
      let sz ← tsize P e
      if sz == 0 then none else some (.mkslice r sz (← tbytes P e) (mkz muts (← tzero P e).cells) (← cX l) (← cX c))
    | _ => none
  | .slice t x lo hi mx => p do
    match P.underlying t with
    | some (.array n e) => match mx with
      | none => some (.slicearr n (← tsize P e) (← cX x) (← cOpt lo) (← cOpt hi))
      | some _ => none
    | some .string => match mx with
      | none => some (.sslice (← cX x) (← cOpt lo) (← cOpt hi))
      | some _ => none
    | some (.slice e) => some (.slice (← tsize P e) (← cX x) (← cOpt lo) (← cOpt hi) (← cOpt mx))
    | _ => none
  | .fieldAddr t x i => p do
    match P.underlying t with
    | some (.struct fs) => do
      let f ← fs[i]?
      let n ← tsize P f.type
      if n == 0 then none else some (.faddr f.offset n (← cX x))
    | _ => none
  | .field t x i => p do
    match P.underlying t with
    | some (.struct fs) => do
      let f ← fs[i]?
      some (.field f.offset (← tagg P f.type) (← cX x))
    | _ => none
  | .indexAddr t x i => p do
    match P.underlying t with
    | some (.slice e) => some (.iaddr (← tsize P e) (← cX x) (← cX i))
    | some (.array n e) => if n ≤ 1 then none else some (.iaddrarr n (← tsize P e) (← cX x) (← cX i))
    | _ => none
  | .index t x i => p do
    match P.underlying t with
    | some .string => some (.index (← cX x) (← cX i))
    | some (.array n e) => some (.indexarr n (← tsize P e) (← tagg P e).isSome (← cX x) (← cX i))
    | _ => none
  | .lookup t x i ok => p do
    match P.underlying t with
    | some (.map k e) => some (.lookup (← eqKind P k) (← tzero P e) ok (← cX x) (← cX i))
    | _ => none
  | .mapUpdate t m k x | .insert t m k x => p do
    match P.underlying t with
    | some (.map kt e) => some (.mapset (← eqKind P kt) (← cX m) (← cX k) (← cX x))
    | _ => none
  | .mapEntry t m k => p do
    match P.underlying t with
    | some (.map kt e) => some (.mapentry (← eqKind P kt) (← tzero P e) (← cX m) (← cX k))
    | _ => none
  | .entryStore t m s x => p do some (.entryset (← cX m) (← cX s) (← cX x))
  | .extract x i => p do some (.extract (← cX x) i)
  | .call c => cCall P muts c
  | .range t x => p do
    match P.underlying t with
    | some .string => some (.range true (← cX x))
    | some (.map _ _) => some (.range false (← cX x))
    | _ => none
  | .next x s => p do some (.next s (← cX x))
  | .entry x => p do some (.entry (← cX x))
  | .makeInterface t x => p do
    let d ← P.underlying t
    if isIface d then none else some (.mkif t (← cX x))
  | _ => none

def cGuard (ops : Array Oper) : Option (Nat × Bool) → Option (Option (Nat × Bool))
  | none => some none
  | some (j, b) => do
    let o ← ops[j]?
    let d ← o.dst
    some (some (d, b))

structure Ann where
  muts : List (Nat × Nat)
  acts : List FuncId
  keeps : List (Nat × List Nat)
  ords : List (Nat × List (Nat × Nat) × List (List Nat)) := []
  deriving Repr, Inhabited

def cOps (P : Program) (ann : Ann) (N : Nat) (id : Nat) (ops : Array Oper) (draw : Bool) : List Oper → Nat → Nat → Option (List Op × Nat)
  | [], _, r => some ([], r)
  | o :: rest, i, r => do
    let makes := draw && (match o.op with
      | .alloc e => !(ann.muts.contains (id, i) && isBld ((tzero P e).getD .any))
      | .box _ _ | .makeMap _ _ | .makeSlice .. => true
      | .buildSlice .. => ann.muts.contains (id, i)
      | _ => false)
    let oc := (cOp P (if makes then some r else none) (ann.muts.contains (id, i)) o).getD (.op .bad)
    let g ← cGuard ops o.guard
    let (l, r') ← cOps P ann N id ops draw rest (i + 1) (if makes then r + 1 else r)
    if !(o.dst.all (· < N)) then none else some ({ dst := o.dst, o := oc, guard := g } :: l, r')

inductive Ef where
  | pure | read | rdmap | alloc | tok | pcall | act
  deriving DecidableEq, Repr

def efO : O → Ef
  | .alloc .. | .box .. | .mkmap .. | .mkslice .. | .mkarr .. => .alloc
  | .load .. | .slicearr .. | .conv .ofBytes _ => .read
  | .lookup .. | .maplen .. => .rdmap
  | .append .. => .tok
  | .store .. | .mapset .. | .mapentry .. | .entryset .. | .mapdel .. | .copy .. | .clear .. | .bldnew .. | .appendarr .. | .range .. | .next .. | .entry .. | .bad => .act
  | .conv .toBytes _ => .tok
  | .conv .mark _ => .act
  | _ => .pure
def efOC : OC → Ef
  | .op o => efO o
  | .call .. | .callv .. => .pcall

def swaps : Ef → Ef → Bool
  | .pure, _ | _, .pure => true
  | .act, _ | _, .act => false
  | .tok, .tok => false
  | .alloc, .read | .alloc, .rdmap => false
  | _, _ => true

def usesX : X → List Nat
  | .t n => [n]
  | .c _ => []
def usesO : O → List Nat
  | .mv x | .box _ _ x | .load _ x | .nilck x | .un _ x | .conv _ x | .faddr _ _ x | .field _ _ x | .extract x _ | .len _ x | .maplen x | .range _ x | .next _ x | .entry x | .mkif _ x | .isnil _ x | .clear _ _ x => usesX x
  | .pick a b c | .mapset _ a b c | .entryset a b c => usesX a ++ usesX b ++ usesX c
  | .alloc .. | .bldnew .. | .mkmap .. | .lenc .. | .bad => []
  | .build _ ps => ps.flatMap fun p => usesX p.2.2
  | .mklist _ xs | .mkarr _ _ xs | .mkfunc _ xs | .min xs | .max xs => xs.flatMap usesX
  | .store _ a x | .bin _ a x | .eqv _ _ a x | .iaddr _ a x | .iaddrarr _ _ a x | .index a x | .indexarr _ _ _ a x | .lookup _ _ _ a x | .mapentry _ _ a x | .mapdel _ a x | .append _ _ a x | .appendarr _ _ a x | .copy _ a x => usesX a ++ usesX x
  | .mkslice _ _ _ _ l c => usesX l ++ usesX c
  | .slice _ x lo hi mx => usesX x ++ (lo.map usesX).getD [] ++ (hi.map usesX).getD [] ++ (mx.map usesX).getD []
  | .sslice x lo hi | .slicearr _ _ x lo hi => usesX x ++ (lo.map usesX).getD [] ++ (hi.map usesX).getD []
def usesOC : OC → List Nat
  | .op o => usesO o
  | .call _ xs => xs.flatMap usesX
  | .callv f xs => usesX f ++ xs.flatMap usesX
def usesOp (o : Op) : List Nat := (match o.guard with | some (t, _) => [t] | none => []) ++ usesOC o.o
def indep (x y : Op) : Bool :=
  (match x.dst with | some d => !(usesOp y).contains d && y.dst != some d | none => true) &&
  (match y.dst with | some d => !(usesOp x).contains d | none => true)
def isAct (acts : List FuncId) : OC → Bool
  | .call f _ => acts.contains f
  | .callv _ _ => !acts.isEmpty
  | .op (.eqv _ .slice _ _) => true
  | .op (.next false _) => true
  | _ => false
def quiets (acts : List FuncId) : List Op → Nat
  | [] => 0
  | o :: r => if isAct acts o.o then 0 else quiets acts r + 1
def placedB : OC → Bool
  | .op (.alloc r _) | .op (.box r _ _) | .op (.mkmap r) | .op (.mkslice r ..) | .op (.mkarr r _ _) => r.isSome
  | _ => true
def drawOk (ops : Array Oper) (l : List Op) (q : Nat) : Bool :=
  let b := Region.before ops
  l.all (fun o => placedB o.o) && decide (l.length = ops.size) && (List.range l.length).all (fun j => (ops.getD j default).after.all fun ed => !Region.binds .any ed || decide (ed.on < j)) &&
  (List.range l.length).all fun j => (List.range j).all fun i =>
    (b.getD j 0).testBit i ||
    (decide (j < q) && (match l[i]?, l[j]? with
     | some x, some y => swaps (efOC x.o) (efOC y.o) && indep x y
     | _, _ => false))

def pureQ : Op → Bool
  | ⟨_, .op o, _⟩ => efO o == .pure && (match o with | .eqv _ .slice _ _ => false | _ => true)
  | _ => false
def swap3 (acts : List FuncId) (x y : Op) : Bool :=
  indep x y && (pureQ x || (!isAct acts x.o && !isAct acts y.o && placedB x.o && placedB y.o && swaps (efOC x.o) (efOC y.o)))
def opOf (l : List Op) (i : Nat) : Op := l.getD i default
def pairs3 (ok : Nat → Nat → Bool) : List Nat → Bool
  | [] => true
  | x :: r => r.all (ok x) && pairs3 ok r
def cover3 (b : Array Nat) (ps : List (List Nat)) : List (Nat × Nat) → List (Nat × Nat) → Bool
  | [], dec => dec.any (fun p => dec.any fun q => (p.2 == q.1 || (b.getD q.1 0).testBit p.2) && (q.2 == p.1 || (b.getD p.1 0).testBit q.2)) || ps.any fun p => dec.all fun u => [u.1, u.2].isSublist p
  | (x, y) :: r, dec => cover3 b ps r ((x, y) :: dec) && cover3 b ps r ((y, x) :: dec)
def drawOk3 (ops : Array Oper) (acts : List FuncId) (l : List Op) (us : List (Nat × Nat)) (ps : List (List Nat)) : Bool :=
  let b := Region.before ops
  decide (l.length = ops.size) && ((List.range l.length).all fun j => (ops.getD j default).after.all fun ed => !Region.binds .any ed || decide (ed.on < j)) &&
  (ps.all fun p => decide (p.length = ops.size) && decide p.Nodup && p.all (fun i => decide (i < ops.size)) &&
    pairs3 (fun x y => (b.getD y 0).testBit x || swap3 acts (opOf l x) (opOf l y) || us.contains (x, y) || us.contains (y, x) ||
      us.any (fun u => (u.1 == x && [x, u.2].isSublist p && (b.getD y 0).testBit u.2) || (u.2 == x && [x, u.1].isSublist p && (b.getD y 0).testBit u.1)) ||
      us.any (fun u => (u.1 == y && [u.2, y].isSublist p && (b.getD u.2 0).testBit x) || (u.2 == y && [u.1, y].isSublist p && (b.getD u.1 0).testBit x))) p) &&
  us.all (fun u => decide (u.1 < ops.size) && decide (u.2 < ops.size) && u.1 != u.2) && cover3 b ps us []

def comp (P : Program) (ann : Ann) (N : Nat) : Code → Option C
  | .skip => some .skip
  | .region id ops draw => do
    let keep := ((ann.keeps.find? (·.1 == id)).map (·.2)).getD []
    let (l, r) ← cOps P ann N id ops draw ops.toList 0 0
    if draw then match ann.ords.find? (·.1 == id) with
     | some (_, us, ps) => if drawOk3 ops ann.acts l us ps then some (.dord ann.acts (ps.map fun p => p.map (opOf l)) r keep) else none
     | none =>
      let q := quiets ann.acts l
      if drawOk ops l q then
        some (.dreg (l.take q) (l.drop q) r keep)
      else none
    else some (.reg l keep)
  | .seq a b => do some (.seq (← comp P ann N a) (← comp P ann N b))
  | .cond c a b => do some (.cond (← cX c) (← comp P ann N a) (← comp P ann N b))
  | .block id c => do some (.block id (← comp P ann N c))
  | .loop c => do some (.loop (← comp P ann N c))
  | .exit id => some (.exit id)
  | .ret => some .ret
  | .rangeFunc g ps a c => do some (.rfun (← cX g) ps.toList (← comp P ann N a) (← comp P ann N c))
  | .scope _ => some (.bad 2)
  | .label _ => some (.bad 3)
  | .goto _ => some (.bad 4)
  | .refuse _ => some (.bad 5)


def Xr : Operand → List Nat
  | .tmp t => [t]
  | _ => []
def ins (t : Nat) : List Nat → List Nat
  | [] => [t]
  | u :: r => if t = u then u :: r else if t < u then t :: u :: r else u :: ins t r
def uni (a b : List Nat) : List Nat := a.foldl (fun acc t => ins t acc) b
def liveOps : List Oper → List Nat → List Nat
  | [], out => out
  | o :: r, out =>
    let l := liveOps r out
    let l := match o.dst with
      | some d => l.filter (· != d)
      | _ => l
    uni (o.op.operands.toList.flatMap Xr) l
def live : Code → List Nat → List (Nat × List Nat) → List Nat → List Nat × List (Nat × List Nat)
  | .skip, out, _, _ => (out, [])
  | .region id ops _, out, _, _ => (liveOps ops.toList out, [(id, out)])
  | .seq a b, out, bl, rt =>
    let (x, k) := live b out bl rt
    let (y, l) := live a x bl rt
    (y, l ++ k)
  | .cond c a b, out, bl, rt =>
    let (x, k) := live a out bl rt
    let (y, l) := live b out bl rt
    (uni (Xr c) (uni x y), k ++ l)
  | .block id c, out, bl, rt => live c out ((id, out) :: bl) rt
  | .loop c, out, bl, rt =>
    -- three times through
    let (x, _) := live c [] bl rt
    let (y, _) := live c x bl rt
    let (z, k) := live c (uni x y) bl rt
    (uni z y, k)
  | .exit id, _, bl, _ => (((bl.find? (·.1 == id)).map (·.2)).getD [], [])
  | .ret, _, _, rt => (rt, [])
  | .rangeFunc g ps a c, out, bl, rt =>
    let (x, k) := live c [] bl rt
    let (y, l) := live a x bl rt
    (uni (Xr g) (uni (y.filter fun t => !ps.contains t) out), l ++ k)
  | _, out, _, _ => (out, [])
def _root_.Go.Func.code (f : Func) : Code := f.body.getD .skip
end Go.Hw

set_option linter.unusedVariables false
namespace Go.Hw
open Go


abbrev bytesLess := Op.bytesLess

def ibin (op : BinOp) (k : IntKind) (a b : Int) : Option HV :=
  match op with
  | .add => some (.int k (k.wrap (a + b)))
  | .sub => some (.int k (k.wrap (a - b)))
  | .mul => some (.int k (k.wrap (a * b)))
  | .quo => some (.int k (k.wrap (a.tdiv b)))
  | .rem => some (.int k (a.tmod b))
  | .and => some (.int k (k.wrap (BitVec.ofInt k.bits a &&& BitVec.ofInt k.bits b).toNat))
  | .or => some (.int k (k.wrap (BitVec.ofInt k.bits a ||| BitVec.ofInt k.bits b).toNat))
  | .xor => some (.int k (k.wrap (BitVec.ofInt k.bits a ^^^ BitVec.ofInt k.bits b).toNat))
  | .andNot => some (.int k (k.wrap (BitVec.ofInt k.bits a &&& ~~~ BitVec.ofInt k.bits b).toNat))
  | .shl => some (.int k (k.wrap (a * 2 ^ (min b.toNat k.bits))))
  | .shr => some (.int k (a.fdiv (2 ^ (min b.toNat k.bits))))
  | .eql => some (.bool (a == b))
  | .neq => some (.bool (a != b))
  | .lss => some (.bool (a < b))
  | .leq => some (.bool (a ≤ b))
  | .gtr => some (.bool (a > b))
  | .geq => some (.bool (a ≥ b))
def ibinOk (op : BinOp) (b : Int) : Prop :=
  match op with
  | .quo | .rem => b ≠ 0
  | .shl | .shr => 0 ≤ b
  | _ => True
def sbin (op : BinOp) (a b : List UInt8) : Option HV :=
  match op with
  | .add => some (.str (a ++ b))
  | .eql => some (.bool (a == b))
  | .neq => some (.bool (a != b))
  | .lss => some (.bool (bytesLess a b))
  | .leq => some (.bool (bytesLess a b || a == b))
  | .gtr => some (.bool (!(bytesLess a b || a == b)))
  | .geq => some (.bool (!bytesLess a b))
  | _ => none
def sbinOk (op : BinOp) (a b : List UInt8) : Prop :=
  match op with
  | .add => a.length + b.length ≤ 9223372036854775807
  | _ => True
def iun (op : UnOp) (k : IntKind) (n : Int) : Option HV :=
  match op with
  | .neg => some (.int k (k.wrap (-n)))
  | .xor => some (.int k (k.wrap (BitVec.ofInt k.bits (if k.signed then -1 else k.max) ^^^ BitVec.ofInt k.bits n).toNat))
  | _ => none

def eqsOk : EqK → HV → HV → Prop
  | .bool, .bool _, .bool _ | .str, .str _, .str _ => True
  | .int, .int j _, .int k _ => j = k
  | .ptr, .nilptr, .nilptr | .ptr, .ptr _ _, .nilptr | .ptr, .nilptr, .ptr _ _ | .ptr, .rptr _, .nilptr | .ptr, .nilptr, .rptr _ => True
  | .map, .nilmap, .nilmap | .map, .map _, .nilmap | .map, .nilmap, .map _ => True
  | .func, .nilfunc, .nilfunc | .func, .func _ _, .nilfunc | .func, .nilfunc, .func _ _ => True
  | .slice, .list _ _, .nilslice | .slice, .nilslice, .list _ _ | .slice, .arr _ _ _ _, .nilslice | .slice, .nilslice, .arr _ _ _ _ => True
  | _, _, _ => False
def HV.eqs : HV → HV → Bool → Prop
  | .bool a, .bool b, t => t = (a == b)
  | .int _ a, .int _ b, t => t = (a == b)
  | .str a, .str b, t => t = (a == b)
  | .nilptr, .nilptr, t | .nilmap, .nilmap, t | .nilfunc, .nilfunc, t | .nilslice, .nilslice, t => t = true
  | .arr _ _ n _, .nilslice, t | .nilslice, .arr _ _ n _, t => n ≠ 0 → t = false
  | .list hs _, .nilslice, t | .nilslice, .list hs _, t => hs ≠ [] → t = false
  | _, _, t => t = false
def Sc.eq : Sc → HV → HV → Option Bool
  | .b, .bool x, .bool y => some (x == y)
  | .i, .int j x, .int k y => if j = k then some (x == y) else none
  | .s, .str x, .str y => some (x == y)
  | _, _, _ => none
def eqCells : List Sc → List HV → List HV → Option Bool
  | [], [], [] => some true
  | k :: ks, a :: x, b :: y => match Sc.eq k a b, eqCells ks x y with
    | some p, some q => some (p && q)
    | _, _ => none
  | _, _, _ => none
def keq (kd : EqK) (a b : HV) : Option Bool :=
  match kd, a, b with
  | .bool, a, b => Sc.eq .b a b
  | .int, a, b => Sc.eq .i a b
  | .str, a, b => Sc.eq .s a b
  | .agg ks, .agg x, .agg y => eqCells ks x y
  | _, _, _ => none

def isTuple : HV → Bool
  | .tuple _ => true
  | _ => false


def Heap.cells (h : Heap) (id : Nat) : Option (List HV) :=
  match h[id]? with
  | some (.cells cs) => some cs
  | _ => none
def Heap.mapAt (h : Heap) (id : Nat) : Option (List (Nat × HV × HV) × Nat) :=
  match h[id]? with
  | some (.map es c) => some (es, c)
  | _ => none
def Heap.tokAt (h : Heap) (k : Nat) : Option Nat :=
  match h[k]? with
  | some (.tok n) => some n
  | _ => none
def putAt (cs : List HV) (off : Nat) (vs : List HV) : List HV := cs.take off ++ vs ++ cs.drop (off + vs.length)
def mfind (kd : EqK) (key : HV) : List (Nat × HV × HV) → Option (Option Nat)
  | [] => some none
  | (_, k, _) :: r => match keq kd key k with
    | some true => some (some 0)
    | some false => (mfind kd key r).map (·.map (· + 1))
    | none => none
def evAt (es : List (Nat × HV × HV)) (i : Nat) : Option HV := (es[i]?).map (·.2.2)

def hnew (base : Nat) (r : Option Nat) (h : Heap) (o : HObj) (k : Nat → Heap → Prop) : Prop :=
  match r with
  | none => k h.length (h ++ [o])
  | some j => h[base + j]? = some .res ∧ k (base + j) (h.set (base + j) o)

def one? : List HV → Option HV
  | [v] => some v
  | _ => none
def atCells (n : Option Nat) (cs : List HV) : Option HV :=
  match n with
  | none => cs.head?
  | some m => if m ≤ cs.length then some (.agg (cs.take m)) else none

def fillCells (cs : List HV) : List (Nat × Nat × HV) → Option (List HV)
  | [] => some cs
  | (off, n, v) :: r => if v.cells.length = n ∧ off + n ≤ cs.length ∧ isTuple v = false then fillCells (putAt cs off v.cells) r else none

def evs (e : Env) : List X → Option (List HV)
  | [] => some []
  | x :: r => match x.ev e, evs e r with
    | some v, some vs => some (v :: vs)
    | _, _ => none
def evParts (e : Env) : List (Nat × Nat × X) → Option (List (Nat × Nat × HV))
  | [] => some []
  | (a, b, x) :: r => match x.ev e, evParts e r with
    | some v, some vs => some ((a, b, v) :: vs)
    | _, _ => none

def bnd (e : Env) (d : Int) : Option X → Option Int
  | none => some d
  | some x => match x.ev e with
    | some (.int _ n) => some n
    | _ => none

def minInt (a b : Int) : Int := if b < a then b else a
def maxInt (a b : Int) : Int := if b > a then b else a
def numOf : HV → Int
  | .int _ n => n
  | _ => 0
def foldInt (g : Int → Int → Int) (a : Int) (r : List HV) : Int := r.foldl (fun m v => g m (numOf v)) a

def bytesOf (s : List UInt8) : List HV := s.map fun c => .int .u8 c.toNat
def strOf (hs : List HV) : List UInt8 := hs.map fun | .int _ n => UInt8.ofNat n.toNat | _ => 0
def isBytes (hs : List HV) : Prop := ∀ h ∈ hs, ∃ n, h = .int .u8 n

def happend (sz by_ : Nat) (h : Heap) (hs : List HV) (tok : Tok) (ys : List HV) (k : HV → Heap → Prop) : Prop :=
  ((hs.length + ys.length) * by_ ≤ 140737488355328 ∧ ∀ y ∈ ys, y.cells.length = sz) ∧
  match tok with
  | .none => ys = [] ∧ k (.list hs .none) h
  | .full => (∀ x ∈ hs, x.cells.length = sz) ∧ k (.list (hs ++ ys) (.own h.length 1 sz)) (h ++ [.tok (1 + (hs.length + ys.length))])
  | .own id off sz' => sz' = sz ∧ Heap.tokAt h id = some (off + hs.length) ∧ k (.list (hs ++ ys) (.own id off sz)) (h.set id (.tok (off + (hs.length + ys.length))))

def srcLen : HV → Nat
  | .list ys _ => ys.length
  | .str s => s.length
  | .arr _ _ n _ => n
  | _ => 0
def srcCells (h : Heap) : HV → List HV
  | .list ys _ => (ys.map HV.strip1).flatMap HV.cells
  | .str s => bytesOf s
  | .arr id off n z => (((Heap.cells h id).getD []).drop off).take (n * z)
  | _ => []
def srcOk (sz : Nat) (h : Heap) : HV → Prop
  | .list ys _ => ∀ y ∈ ys, y.cells.length = sz ∧ isTuple y = false
  | .str _ => sz = 1
  | .arr id off n z => z = sz ∧ ∃ cs, Heap.cells h id = some cs ∧ off + n * sz ≤ cs.length
  | _ => False

def cutTok (toEnd : Bool) (p : Nat) : Tok → Tok
  | .full => if toEnd then .full else .none
  | .own i o z => if toEnd then .own i (o + p) z else .none
  | .none => .none


def hstep (base : Nat) (o : O) (e : Env) (h : Heap) (k : HV → Heap → Prop) : Prop :=
  match o with
  | .mv x => match x.ev e with
    | some v => k v h
    | _ => False
  | .pick c a b => match c.ev e, a.ev e, b.ev e with
    | some (.bool t), some x, some y => (t = true → k x h) ∧ (t = false → k y h)
    | _, _, _ => False
  | .alloc r z => hnew base r h (.cells z) fun i h' => k (.ptr i 0) h'
  | .bldnew T => k (.ptr h.length 0) (h ++ [.bld T none 0 0])
  | .box r n x => match x.ev e with
    | some v => (v.cells.length = n ∧ isTuple v = false) ∧ hnew base r h (.cells v.cells) fun i h' => k (.ptr i 0) h'
    | _ => False
  | .build z ps => match evParts e ps with
    | some l => match fillCells z l with
      | some cs => k (.agg cs) h
      | _ => False
    | _ => False
  | .mklist sz xs => match evs e xs with
    | some vs => (∀ v ∈ vs, v.cells.length = sz ∧ isTuple v = false) ∧ k (.list (vs.map HV.strip1) .full) h
    | _ => False
  | .mkarr r sz xs => match evs e xs with
    | some vs => (∀ v ∈ vs, v.cells.length = sz ∧ isTuple v = false) ∧ hnew base r h (.cells ((vs.map HV.strip1).flatMap HV.cells)) fun i h' => k (.arr i 0 vs.length sz) h'
    | _ => False
  | .load n x => match x.ev e with
    | some (.rptr cs) => match atCells n cs with
      | some v => k v h
      | _ => False
    | some (.ptr id off) => match Heap.cells h id with
      | some cs => match atCells n (cs.drop off) with
        | some v => k v h
        | _ => False
      | _ => False
    | _ => False
  | .store n a x => match a.ev e, x.ev e with
    | some (.ptr id off), some v => match Heap.cells h id with
      | some cs => (v.cells.length = n ∧ off + n ≤ cs.length ∧ isTuple v = false) ∧ k (.tuple []) (h.set id (.cells (putAt cs off v.cells)))
      | _ => False
    | _, _ => False
  | .nilck x => match x.ev e with
    | some (.ptr i o) => k (.ptr i o) h
    | some (.rptr cs) => k (.rptr cs) h
    | some (.func f cs) => k (.func f cs) h
    | _ => False
  | .bin op x y => match x.ev e, y.ev e with
    | some (.int i a), some (.int j b) => (i = j ∨ op = .shl ∨ op = .shr) ∧ ibinOk op b ∧ (match ibin op i a b with
      | some v => k v h
      | _ => False)
    | some (.str a), some (.str b) => sbinOk op a b ∧ (match sbin op a b with
      | some v => k v h
      | _ => False)
    | _, _ => False
  | .eqv neg kd x y => match x.ev e, y.ev e with
    | some a, some b => match kd with
      | .agg n => match a, b with
        | .agg cs, .agg ds => match eqCells n cs ds with
          | some t => k (.bool (if neg then !t else t)) h
          | _ => False
        | _, _ => False
      | kd => eqsOk kd a b ∧ ∀ t, HV.eqs a b t → k (.bool (if neg then !t else t)) h
    | _, _ => False
  | .un op x => match x.ev e with
    | some (.int i a) => match iun op i a with
      | some v => k v h
      | _ => False
    | some (.bool t) => op = .not ∧ k (.bool (!t)) h
    | _ => False
  | .conv c x => match c, x.ev e with
    | .int i, some (.int _ a) => k (.int i (i.wrap a)) h
    | .same, some (.str s) => k (.str s) h
    | .toBytes, some (.str s) => k (.list (bytesOf s) (.own h.length 1 1)) (h ++ [.tok (1 + s.length)])
    | .ofBytes, some (.list hs _) => isBytes hs ∧ k (.str (strOf hs)) h
    | .ofBytes, some (.arr id off n sz) => match Heap.cells h id with
      | some cs => (sz = 1 ∧ off + n ≤ cs.length ∧ isBytes ((cs.drop off).take n)) ∧ k (.str (strOf ((cs.drop off).take n))) h
      | _ => False
    | .mark, some (.arr id off n sz) => match Heap.cells h id with
      | some _ => 0 < n ∧ k (.arr id off n sz) h
      | _ => False
    | _, _ => False
  | .mkfunc f xs => match evs e xs with
    | some vs => k (.func f (vs.map HV.strip1)) h
    | _ => False
  | .mkmap r => hnew base r h (.map [] 0) fun i h' => k (.map i) h'
  | .mkslice r sz by_ z l c => match l.ev e, c.ev e with
    | some (.int .i64 n), some (.int .i64 m) => (n = m ∧ 0 ≤ n ∧ n ≤ 9223372036854775807 ∧ n * by_ ≤ 281474976710656 ∧ z.length = sz) ∧
      hnew base r h (.cells (List.replicate n.toNat z).flatten) fun i h' => k (.arr i 0 n.toNat sz) h'
    | _, _ => False
  | .sslice x lo hi => match x.ev e with
    | some (.str s) => match bnd e 0 lo, bnd e s.length hi with
      | some a, some b => (0 ≤ a ∧ a ≤ b ∧ b ≤ s.length) ∧ k (.str ((s.take b.toNat).drop a.toNat)) h
      | _, _ => False
    | _ => False
  | .slice sz x lo hi mx => match x.ev e with
    | some (.list hs tok) => match mx with
      | none => match bnd e 0 lo, bnd e hs.length hi with
        | some a, some b => (0 ≤ a ∧ a ≤ b ∧ b ≤ hs.length ∧ ∀ y ∈ hs, y.cells.length = sz) ∧
          k (.list ((hs.take b.toNat).drop a.toNat) (cutTok hi.isNone a.toNat tok)) h
        | _, _ => False
      | some m => match bnd e 0 lo, hi.bind fun y => bnd e 0 (some y), bnd e 0 (some m) with
        | some a, some b, some c => (0 ≤ a ∧ a ≤ b ∧ b = c ∧ c ≤ hs.length ∧ ∀ y ∈ hs, y.cells.length = sz) ∧ k (.list ((hs.take b.toNat).drop a.toNat) .full) h
        | _, _, _ => False
    | some (.arr id off n z) => match mx with
      | none => match bnd e 0 lo, bnd e n hi with
        | some a, some b => (z = sz ∧ 0 ≤ a ∧ a ≤ b ∧ b ≤ n) ∧ k (.arr id (off + a.toNat * sz) (b - a).toNat sz) h
        | _, _ => False
      | some _ => False
    | _ => False
  | .slicearr n sz x lo hi => match x.ev e with
    | some (.ptr id off) => match bnd e 0 lo, bnd e n hi, Heap.cells h id with
      | some a, some b, some cs => (0 ≤ a ∧ a ≤ b ∧ b ≤ n ∧ off + n * sz ≤ cs.length) ∧ k (.arr id (off + a.toNat * sz) (b - a).toNat sz) h
      | _, _, _ => False
    | _ => False
  | .faddr f n x => match x.ev e with
    | some (.ptr id off) => k (.ptr id (off + f)) h
    | some (.rptr cs) => f < cs.length ∧ k (.rptr (cs.drop f)) h
    | _ => False
  | .field f n x => match x.ev e with
    | some (.agg cs) => match atCells n (cs.drop f) with
      | some v => k v h
      | _ => False
    | _ => False
  | .iaddr sz x i => match x.ev e, i.ev e with
    | some (.list hs _), some (.int _ n) => (0 ≤ n ∧ n < hs.length) ∧ (match hs[n.toNat]? with
      | some v => v.cells.length = sz ∧ k (.rptr v.cells) h
      | _ => False)
    | some (.arr id off m z), some (.int _ n) => (0 ≤ n ∧ n < m ∧ z = sz) ∧ k (.ptr id (off + n.toNat * sz)) h
    | _, _ => False
  | .iaddrarr m sz x i => match x.ev e, i.ev e with
    | some (.ptr id off), some (.int _ n) => (0 ≤ n ∧ n < m) ∧ k (.ptr id (off + n.toNat * sz)) h
    | some (.rptr cs), some (.int _ n) => (0 ≤ n ∧ n < m ∧ n.toNat * sz < cs.length) ∧ k (.rptr (cs.drop (n.toNat * sz))) h
    | _, _ => False
  | .index x i => match x.ev e, i.ev e with
    | some (.str s), some (.int _ n) => (0 ≤ n ∧ n < s.length) ∧ k (.int .u8 (s.getD n.toNat 0).toNat) h
    | _, _ => False
  | .indexarr m sz ag x i => match x.ev e, i.ev e with
    | some (.agg cs), some (.int _ n) => (0 ≤ n ∧ n < m) ∧ (match atCells (if ag then some sz else none) (cs.drop (n.toNat * sz)) with
      | some v => k v h
      | _ => False)
    | _, _ => False
  | .lookup kd z ok x i => match x.ev e, i.ev e with
    | some (.map id), some key => match Heap.mapAt h id with
      | some (es, _) => keq kd key key = some true ∧ (match mfind kd key es with
        | some (some j) => match evAt es j with
          | some v => k (if ok then .tuple [v, .bool true] else v) h
          | none => False
        | some none => k (if ok then .tuple [z, .bool false] else z) h
        | none => False)
      | _ => False
    | some .nilmap, some key => keq kd key key = some true ∧ k (if ok then .tuple [z, .bool false] else z) h
    | _, _ => False
  | .mapset kd m key v => match m.ev e, key.ev e, v.ev e with
    | some (.map id), some a, some b => match Heap.mapAt h id with
      | some (es, c) => (keq kd a a = some true ∧ isTuple b = false) ∧ (match mfind kd a es with
        | some (some j) => match es[j]? with
          | some (n, _, _) => k (.tuple []) (h.set id (.map (es.set j (n, a, b)) c))
          | none => False
        | some none => k (.tuple []) (h.set id (.map (es ++ [(c, a, b)]) (c + 1)))
        | none => False)
      | _ => False
    | _, _, _ => False
  | .mapentry kd z m key => match m.ev e, key.ev e with
    | some (.map id), some a => match Heap.mapAt h id with
      | some (es, c) => keq kd a a = some true ∧ (match mfind kd a es with
        | some (some j) => match es[j]? with
          | some (n, _, v) => k (.tuple [v, .int .i64 n]) (h.set id (.map (es.set j (n, a, v)) c))
          | none => False
        | some none => k (.tuple [z, .int .i64 c]) (h.set id (.map (es ++ [(c, a, z)]) (c + 1)))
        | none => False)
      | _ => False
    | _, _ => False
  | .entryset m s v => match m.ev e, s.ev e, v.ev e with
    | some (.map id), some (.int .i64 n), some b => match Heap.mapAt h id with
      | some (es, c) => isTuple b = false ∧ (match es.findIdx? (fun p => (p.1 : Int) == n) with
        | some j => match es[j]? with
          | some (q, a, _) => k (.tuple []) (h.set id (.map (es.set j (q, a, b)) c))
          | none => False
        | none => False)
      | _ => False
    | _, _, _ => False
  | .mapdel kd m key => match m.ev e, key.ev e with
    | some (.map id), some a => match Heap.mapAt h id with
      | some (es, c) => keq kd a a = some true ∧ (match mfind kd a es with
        | some (some j) => k (.tuple []) (h.set id (.map (es.eraseIdx j) c))
        | some none => k (.tuple []) h
        | none => False)
      | _ => False
    | _, _ => False
  | .range st x => match st, x.ev e with
    | true, some (.str s) => k (.ptr h.length 0) (h ++ [.siter s 0])
    | false, some .nilmap => k (.ptr h.length 0) (h ++ [.iter none 0 [] 0])
    | false, some (.map id) => match Heap.mapAt h id with
      | some (_, c) => k (.ptr h.length 0) (h ++ [.iter (some id) c [] c])
      | none => False
    | _, _ => False
  | .next st x => match x.ev e with
    | some (.ptr i 0) => match st, h[i]? with
      | true, some (.siter s pos) => if pos < s.length then
          k (.tuple [.bool true, .int .i64 pos, .int .i32 (Utf8.decode ⟨s.toArray⟩ pos).1]) (h.set i (.siter s (pos + (Utf8.decode ⟨s.toArray⟩ pos).2)))
        else k (.tuple [.bool false]) h
      | false, some (.iter none _ _ _) => k (.tuple [.bool false]) h
      | false, some (.iter (some m) since seen last) => match Heap.mapAt h m with
        | some (es, c) => (seen = [] ∨ es = [] ∨ ∃ p ∈ es, p.1 < last) ∧
          (∀ (j : Nat) (p : Nat × HV × HV), es[j]? = some p → p.1 ∉ seen → k (.tuple [.bool true, p.2.1, p.2.2]) (h.set i (.iter (some m) since (seen ++ [p.1]) c))) ∧
          ((∀ p ∈ es, p.1 ∉ seen → since ≤ p.1) → k (.tuple [.bool false]) h)
        | none => False
      | _, _ => False
    | _ => False
  | .entry x => match x.ev e with
    | some (.ptr i 0) => match h[i]? with
      | some (.iter (some m) _ seen last) => match Heap.mapAt h m, seen.getLast? with
        | some (es, c), some n => c = last ∧ (match es.find? (fun p => p.1 == n) with
          | some p => k (.tuple [p.2.1, p.2.2]) h
          | none => False)
        | _, _ => False
      | _ => False
    | _ => False
  | .extract x i => match x.ev e with
    | some (.tuple vs) => match vs[i]? with
      | some v => k v h
      | _ => False
    | _ => False
  | .len st x => match st, x.ev e with
    | true, some (.str s) => k (.int .i64 s.length) h
    | false, some (.list hs _) => k (.int .i64 hs.length) h
    | false, some (.arr _ _ n _) => k (.int .i64 n) h
    | _, _ => False
  | .maplen x => match x.ev e with
    | some (.map id) => match Heap.mapAt h id with
      | some (es, _) => k (.int .i64 es.length) h
      | _ => False
    | some .nilmap => k (.int .i64 0) h
    | _ => False
  | .lenc n => k (.int .i64 n) h
  | .append sz by_ s x => match s.ev e, x.ev e with
    | some (.list hs tok), some (.list ys _) => happend sz by_ h hs tok (ys.map HV.strip1) k ∧ ∀ y ∈ ys, isTuple y = false
    | some (.list hs tok), some (.str ys) => sz = 1 ∧ happend 1 by_ h hs tok (bytesOf ys) k
    | _, _ => False
  | .appendarr sz by_ s x => match s.ev e, x.ev e with
    | some b, some y => srcOk sz h y ∧ (match b with
      | .list [] .full => (srcLen y * by_ ≤ 140737488355328) ∧ k (.arr h.length 0 (srcLen y) sz) (h ++ [.cells (srcCells h y)])
      | .arr id 0 m z => match Heap.cells h id with
        | some cs => (z = sz ∧ m * sz ≤ cs.length ∧ (m + srcLen y) * by_ ≤ 140737488355328) ∧ k (.arr h.length 0 (m + srcLen y) sz) (h.set id .dead ++ [.cells (cs.take (m * sz) ++ srcCells h y)])
        | none => False
      | _ => False)
    | _, _ => False
  | .copy sz d s => False
  | .clear sz z x => match x.ev e with
    | some (.arr id off n q) => match Heap.cells h id with
      | some cs => (q = sz ∧ z.length = sz ∧ off + n * sz ≤ cs.length) ∧ k (.tuple []) (h.set id (.cells (putAt cs off (List.replicate n z).flatten)))
      | _ => False
    | _ => False
  | .min xs => match evs e xs with
    | some (.int i a :: r) => (∀ v ∈ r, ∃ b, v = .int i b) ∧ k (.int i (foldInt minInt a r)) h
    | _ => False
  | .max xs => match evs e xs with
    | some (.int i a :: r) => (∀ v ∈ r, ∃ b, v = .int i b) ∧ k (.int i (foldInt maxInt a r)) h
    | _ => False
  | .mkif t x => match x.ev e with
    | some v => isTuple v = false ∧ k (.iface t v) h
    | _ => False
  | .isnil neg x => match x.ev e with
    | some .nilif => k (.bool !neg) h
    | some (.iface _ _) => k (.bool neg) h
    | _ => False
  | .bad => False


def Env.put (e : Env) (dst : Option Nat) (v : HV) : Env :=
  match dst with
  | some d => (d, v) :: e
  | none => e
def prune (e : Env) : List Nat → Env
  | [] => []
  | t :: r => match e.get t with
    | some v => (t, v) :: prune e r
    | none => prune e r

abbrev CallP := FuncId → List HV → Heap → (HV → Heap → Prop) → Prop

def hcall (S : CallP) (base : Nat) (o : OC) (e : Env) (h : Heap) (k : HV → Heap → Prop) : Prop :=
  match o with
  | .op o => hstep base o e h k
  | .call f xs => match evs e xs with
    | some vs => S f (vs.map HV.strip1) h k
    | _ => False
  | .callv f xs => match f.ev e, evs e xs with
    | some (.func g caps), some vs => S g (vs.map HV.strip1 ++ caps) h k
    | _, _ => False

def hops (S : CallP) (base : Nat) : List Op → Env → Heap → (Env → Heap → Prop) → Prop
  | [], e, h, Q => Q e h
  | o :: r, e, h, Q => match o.guard with
    | none => hcall S base o.o e h fun v h' => hops S base r (e.put o.dst v) h' Q
    | some (t, b) => match e.get t with
      | some (.bool c) => (c = b → hcall S base o.o e h fun v h' => hops S base r (e.put o.dst v) h' Q) ∧ (c ≠ b → hops S base r (e.put o.dst (.tuple [])) h Q)
      | some (.tuple []) => hops S base r (e.put o.dst (.tuple [])) h Q
      | _ => False

inductive Ex where
  | normal | exit (id : Nat) | ret
  deriving DecidableEq

def hwp (S D : CallP) (L : C → (Ex → Env → Heap → Prop) → Env → Heap → Prop) : C → (Ex → Env → Heap → Prop) → Env → Heap → Prop
  | .skip, Q, e, h => Q .normal e h
  | .reg ops keep, Q, e, h => hops S 0 ops e h fun e' h' => Q .normal (prune e' keep) h'
  | .dreg pre tail n keep, Q, e, h => hops D h.length pre e (h ++ List.replicate n .res) fun e' h' => hops S 0 tail e' h' fun e'' h'' => Q .normal (prune e'' keep) h''
  | .dord _ _ _ _, Q, e, h => False
  | .seq a b, Q, e, h => hwp S D L a (fun x e' h' => match x with
    | .normal => hwp S D L b Q e' h'
    | x => Q x e' h') e h
  | .cond c a b, Q, e, h => match c.ev e with
    | some (.bool t) => (t = true → hwp S D L a Q e h) ∧ (t = false → hwp S D L b Q e h)
    | _ => False
  | .block id c, Q, e, h => hwp S D L c (fun x e' h' => match x with
    | .exit i => if i = id then Q .normal e' h' else Q (.exit i) e' h'
    | x => Q x e' h') e h
  | .loop c, Q, e, h => L c Q e h
  | .rfun .., Q, e, h => False
  | .exit id, Q, e, h => Q (.exit id) e h
  | .ret, Q, e, h => Q .ret e h
  | .bad _, Q, e, h => False

end Go.Hw

set_option linter.unusedVariables false
namespace Go.Hw
open Go
def pow10L : List Int := [1, 10, 100, 1000, 10000, 100000, 1000000, 10000000, 100000000, 1000000000, 10000000000, 100000000000, 1000000000000, 10000000000000, 100000000000000, 1000000000000000, 10000000000000000, 100000000000000000, 1000000000000000000, 10000000000000000000]
def tabs : List (Nat × List Value) := []
def rows : List (Nat × Array Value) := [(3, (pow10L.map fun z => Value.int .u64 z).toArray)]
end Go.Hw

set_option linter.unusedVariables false
namespace Go.Hw
open Go

structure GK where
  lim : Nat → Nat
  rho : Nat → Option Nat
  tb : Nat → Option Nat
  wm : Nat → Nat

def flat (hs : List HV) : List HV := hs.flatMap HV.cells

def CellsAt (w : World) (b o n : Nat) (vals : Nat → Value) : Prop := ∀ j, j < n → w.cell? ⟨b, o + j, none⟩ = some (vals j)
def RoomAt (w : World) (b n : Nat) : Prop := ∃ c e fr, w.heap[b]? = some (.cells c e fr) ∧ n ≤ c.size

def TokOk (K : GK) (w : World) (b o n m cap : Nat) : Tok → Prop
  | .none => True
  | .full => cap = n
  | .own k off sz => off + n ≤ K.wm k ∧ m = n * sz ∧ (off + n = K.wm k → cap = n ∨ (K.tb k = some b ∧ o + m = K.lim b ∧ RoomAt w b (o + cap * sz)))
def TokNil (K : GK) : Tok → Prop
  | .own k off _ => off ≤ K.wm k
  | _ => True

inductive V (K : GK) (w : World) : HV → Value → Prop
  | bool (b : Bool) : V K w (.bool b) (.bool b)
  | int (k : IntKind) (n : Int) : V K w (.int k n) (.int k n)
  | str (s : List UInt8) : V K w (.str s) (.string ⟨s.toArray⟩)
  | nil (tok : Tok) (h : TokNil K tok) : V K w (.list [] tok) (.slice none 0 0)
  | list0 (tok : Tok) (h : TokNil K tok) (ad : Addr) : V K w (.list [] tok) (.slice (some ad) 0 0)
  | nilslice : V K w .nilslice (.slice none 0 0)
  | list (hs : List HV) (tok : Tok) (b o cap sz : Nat) (vals : Nat → Value) (hw : ∀ h ∈ hs, h.cells.length = sz) (hleaf : ∀ h ∈ flat hs, h.leaf = true)
      (hv : ∀ (j : Nat) (h : HV), (flat hs)[j]? = some h → V K w h (vals j)) (hc : CellsAt w b o (flat hs).length vals)
      (hl : 0 < (flat hs).length → o + (flat hs).length ≤ K.lim b) (hcap : hs.length ≤ cap) (ht : TokOk K w b o hs.length (flat hs).length cap tok) :
      V K w (.list hs tok) (.slice (some ⟨b, o, none⟩) hs.length cap)
  | arr (id off len sz b cap off' : Nat) (hr : K.rho id = some b) (hcap : len ≤ cap) (ho : 0 < cap → off' = off) (hroom : RoomAt w b (off' + cap * sz)) : V K w (.arr id off len sz) (.slice (some ⟨b, off', none⟩) len cap)
  | arrn (id off sz : Nat) : V K w (.arr id off 0 sz) (.slice none 0 0)
  | arr0 (id off sz : Nat) (ad : Addr) : V K w (.arr id off 0 sz) (.slice (some ad) 0 0)
  | rptr (cs : List HV) (b o : Nat) (vals : Nat → Value) (hleaf : ∀ h ∈ cs, h.leaf = true) (hv : ∀ (j : Nat) (h : HV), cs[j]? = some h → V K w h (vals j)) (hc : CellsAt w b o cs.length vals)
      (hl : 0 < cs.length → o + cs.length ≤ K.lim b) : V K w (.rptr cs) (.pointer (some ⟨b, o, none⟩))
  | ptr (id off b : Nat) (hr : K.rho id = some b) : V K w (.ptr id off) (.pointer (some ⟨b, off, none⟩))
  | nilptr : V K w .nilptr (.pointer none)
  | map (id b : Nat) (hr : K.rho id = some b) : V K w (.map id) (.map (some b))
  | nilmap : V K w .nilmap (.map none)
  | func (f : FuncId) (caps : List HV) (vs : List Value) (hn : caps.length = vs.length) (hv : ∀ (j : Nat) (h : HV) (v : Value), caps[j]? = some h → vs[j]? = some v → V K w h v) : V K w (.func f caps) (.func (.func f) #[] vs.toArray)
  | nilfunc : V K w .nilfunc .nilFunc
  | nilif : V K w .nilif .nilIface
  | iface (t : Nat) (x : HV) (v : Value) (ht : isTuple x = false) (hx : V K w x v) : V K w (.iface t x) (.iface t v)
  | agg (cs : List HV) (vs : List Value) (hn : cs.length = vs.length) (hleaf : ∀ h ∈ cs, h.leaf = true) (hv : ∀ (j : Nat) (h : HV) (v : Value), cs[j]? = some h → vs[j]? = some v → V K w h v) : V K w (.agg cs) (.agg vs.toArray)
  | tuple (cs : List HV) (vs : List Value) (hn : cs.length = vs.length) (hv : ∀ (j : Nat) (h : HV) (v : Value), cs[j]? = some h → vs[j]? = some v → V K w h v) : V K w (.tuple cs) (.tuple vs.toArray)
  | any (v : Value) (h : v.oneCell' = true) : V K w .any v

def owned (K : GK) (b : Nat) : Prop := (∃ id, K.rho id = some b) ∨ (∃ k, K.tb k = some b)

def DrawOk (w w' : World) : Prop := 0 ≤ w'.drawn
theorem DrawOk.trans {w w1 w2 : World} (a : DrawOk w w1) (b : DrawOk w1 w2) : DrawOk w w2 := by first | exact Nat.le_trans a b | exact Nat.zero_le _
def TapeOk (w w' : World) : Prop := w'.tape = w.tape ∧ DrawOk w w'
theorem tk {w w' : World} (h : TapeOk w w' := by first | exact ⟨rfl, Nat.zero_le _⟩ | exact ⟨rfl, Nat.le_refl _⟩ | exact ⟨rfl, Nat.le_succ _⟩ | exact ⟨rfl, by simp⟩) : TapeOk w w' := h

structure Step (K : GK) (w : World) (K' : GK) (w' : World) : Prop where
  os : w'.os = w.os
  tape : TapeOk w w'
  output : w'.output = w.output
  size : w.heap.size ≤ w'.heap.size
  lim : ∀ b, K.lim b ≤ K'.lim b
  wm : ∀ k, K.wm k ≤ K'.wm k
  tok : ∀ k, K'.wm k = K.wm k → K'.tb k = K.tb k ∧ ∀ b, K.tb k = some b → K'.lim b = K.lim b
  rho : ∀ id b, K.rho id = some b → K'.rho id = some b
  cell : ∀ b i v, i < K.lim b → w.cell? ⟨b, i, none⟩ = some v → w'.cell? ⟨b, i, none⟩ = some v
  shape : ∀ b n, RoomAt w b n → RoomAt w' b n
  own : ∀ b, b < w.heap.size → owned K' b → owned K b
  frame : ∀ b, b < w.heap.size → ¬ owned K b → w'.heap[b]? = w.heap[b]? ∧ K'.lim b = K.lim b

theorem Step.refl (K : GK) (w : World) : Step K w K w :=
  ⟨rfl, tk, rfl, Nat.le_refl _, fun _ => Nat.le_refl _, fun _ => Nat.le_refl _, fun _ _ => ⟨rfl, fun _ _ => rfl⟩, fun _ _ h => h, fun _ _ _ _ h => h, fun _ _ h => h, fun _ _ h => h, fun _ _ _ => ⟨rfl, rfl⟩⟩

theorem Step.trans {K K1 K2 : GK} {w w1 w2 : World} (a : Step K w K1 w1) (b : Step K1 w1 K2 w2) : Step K w K2 w2 where
  os := b.os.trans a.os
  tape := ⟨b.tape.1.trans a.tape.1, a.tape.2.trans b.tape.2⟩
  output := b.output.trans a.output
  size := Nat.le_trans a.size b.size
  lim := fun x => Nat.le_trans (a.lim x) (b.lim x)
  wm := fun x => Nat.le_trans (a.wm x) (b.wm x)
  tok := fun k h => by
    have h1 : K1.wm k = K.wm k := Nat.le_antisymm (h ▸ b.wm k) (a.wm k)
    have h2 : K2.wm k = K1.wm k := h.trans h1.symm
    refine ⟨(b.tok k h2).1.trans (a.tok k h1).1, fun x hx => ?_⟩
    rw [(b.tok k h2).2 x ((a.tok k h1).1.trans hx), (a.tok k h1).2 x hx]
  rho := fun i x h => b.rho i x (a.rho i x h)
  cell := fun x i v hi h => b.cell x i v (Nat.lt_of_lt_of_le hi (a.lim x)) (a.cell x i v hi h)
  shape := fun x n h => b.shape x n (a.shape x n h)
  own := fun x hx h => a.own x hx (b.own x (Nat.lt_of_lt_of_le hx a.size) h)
  frame := fun x hx h => by
    have h1 := a.frame x hx h
    have h2 := b.frame x (Nat.lt_of_lt_of_le hx a.size) (fun h' => h (a.own x hx h'))
    exact ⟨h2.1.trans h1.1, h2.2.trans h1.2⟩

theorem CellsAt.step {K K' : GK} {w w' : World} (s : Step K w K' w') {b o n : Nat} {vals : Nat → Value} (h : CellsAt w b o n vals) (hl : 0 < n → o + n ≤ K.lim b) : CellsAt w' b o n vals :=
  fun j hj => s.cell b _ _ (by have := hl (by omega); omega) (h j hj)

theorem TokOk.step {K K' : GK} {w w' : World} (s : Step K w K' w') {b o n m cap : Nat} {tok : Tok} (h : TokOk K w b o n m cap tok) : TokOk K' w' b o n m cap tok := by
  cases tok with
  | none => trivial
  | full => exact h
  | own k off sz =>
    obtain ⟨h1, h2, h3⟩ := h
    have hw := s.wm k
    refine ⟨by omega, h2, fun he => ?_⟩
    have hk : K'.wm k = K.wm k := by omega
    rcases h3 (by omega) with h3 | ⟨h3, h4, h5⟩
    · exact .inl h3
    · exact .inr ⟨(s.tok k hk).1.trans h3, by rw [(s.tok k hk).2 b h3]; exact h4, s.shape _ _ h5⟩

theorem V.step {K K' : GK} {w w' : World} (s : Step K w K' w') {x : HV} {v : Value} (h : V K w x v) : V K' w' x v := by
  induction h with
  | bool b => exact .bool b
  | int k n => exact .int k n
  | str t => exact .str t
  | nil tok h =>
    refine .nil tok ?_
    cases tok with
    | own k off sz => exact Nat.le_trans h (s.wm k)
    | _ => trivial
  | list0 tok h ad =>
    refine .list0 tok ?_ ad
    cases tok with
    | own k off sz => exact Nat.le_trans h (s.wm k)
    | _ => trivial
  | nilslice => exact .nilslice
  | list hs tok b o cap sz vals hw hleaf hv hc hl hcap ht ih =>
    exact .list hs tok b o cap sz vals hw hleaf ih (hc.step s hl) (fun h0 => Nat.le_trans (hl h0) (s.lim b)) hcap (ht.step s)
  | arr id off len sz b cap off' hr hcap ho hroom => exact .arr id off len sz b cap off' (s.rho _ _ hr) hcap ho (s.shape _ _ hroom)
  | arrn id off sz => exact .arrn id off sz
  | arr0 id off sz ad => exact .arr0 id off sz ad
  | rptr cs b o vals hleaf hv hc hl ih => exact .rptr cs b o vals hleaf ih (hc.step s hl) (fun h0 => Nat.le_trans (hl h0) (s.lim b))
  | ptr id off b hr => exact .ptr id off b (s.rho _ _ hr)
  | nilptr => exact .nilptr
  | map id b hr => exact .map id b (s.rho _ _ hr)
  | nilmap => exact .nilmap
  | func f caps vs hn hv ih => exact .func f caps vs hn ih
  | nilfunc => exact .nilfunc
  | nilif => exact .nilif
  | iface t x v ht hx ih => exact .iface t x v ht ih
  | agg cs vs hn hleaf hv ih => exact .agg cs vs hn hleaf ih
  | tuple cs vs hn hv ih => exact .tuple cs vs hn ih
  | any v h => exact .any v h


def nofr (c : Array Value) (fr : Nat × Nat) : Prop := ∀ i, i < c.size → fr.1 = fr.2 ∨ i < fr.1
def HObj.live : HObj → Prop
  | .cells _ | .map _ _ | .iter _ _ _ _ | .siter _ _ | .bld .. | .brow .. => True
  | _ => False
def BldAt (w : World) (b : Nat) (T : TypeId) (v : Value) : Prop := ∃ p, w.heap[b]? = some (.cells #[p, v] T (0, 0)) ∧ (p = .pointer none ∨ p = .pointer (some ⟨b, 0, none⟩))
theorem BldAt.keep {w w' : World} {b : Nat} (hb : w'.heap[b]? = w.heap[b]?) {T : TypeId} {v : Value} (h : BldAt w b T v) : BldAt w' b T v := let ⟨p, h1, h2⟩ := h; ⟨p, hb.trans h1, h2⟩
def ObjOk (K : GK) (w : World) (b : Nat) : HObj → Prop
  | .cells cs => ∃ c e fr, w.heap[b]? = some (.cells c e fr) ∧ cs.length ≤ c.size ∧ nofr c fr ∧ ∀ (j : Nat) (x : HV), cs[j]? = some x → x.leaf = true ∧ ∃ v, c[j]? = some v ∧ V K w x v
  | .map es cl => ∃ (ms : Array MapEntry), w.heap[b]? = some (.map ms cl) ∧ ms.size = es.length ∧
      ∀ (j n : Nat) (x y : HV), es[j]? = some (n, x, y) → ∃ m : MapEntry, ms[j]? = some m ∧ m.born = n ∧ isTuple x = false ∧ isTuple y = false ∧ V K w x m.key ∧ V K w y m.val
  | .iter none since seen last => w.heap[b]? = some (.mapIter none since seen.toArray last)
  | .iter (some i) since seen last => ∃ b', K.rho i = some b' ∧ w.heap[b]? = some (.mapIter (some b') since seen.toArray last)
  | .siter s pos => w.heap[b]? = some (.stringIter ⟨s.toArray⟩ pos)
  | .bld T none n cap => n = 0 ∧ cap = 0 ∧ BldAt w b T (.slice none 0 0)
  | .bld T (some j) n cap => ∃ g, K.rho j = some g ∧ BldAt w b T (.slice (some ⟨g, 0, none⟩) n cap)
  | .brow U cap l => ∃ c, w.heap[b]? = some (.cells c U (0, 0)) ∧ c.size = cap ∧ l.length ≤ cap ∧ cap ≤ 9223372036854775807 ∧ c.toList.take l.length = l.map fun x => Value.int .u8 x.toNat
  | .dead => True
  | .tok _ | .res => False

structure TabOk (K : GK) (w : World) : Prop where
  cells : ∀ p ∈ tabs, p.2.length ≤ K.lim p.1 ∧ ∀ (j : Nat) (v : Value), p.2[j]? = some v → w.cell? ⟨p.1, j, none⟩ = some v
  rows : ∀ p ∈ rows, ¬ owned K p.1 ∧ ∃ e fr, w.heap[p.1]? = some (.cells p.2 e fr)
theorem TabOk.step {K K' : GK} {w w' : World} (s : Step K w K' w') (h : TabOk K w) : TabOk K' w' where
  cells := fun p hp => ⟨Nat.le_trans (h.cells p hp).1 (s.lim p.1), fun j v hv => s.cell _ _ _ (Nat.lt_of_lt_of_le (List.getElem?_eq_some_iff.1 hv).1 (h.cells p hp).1) ((h.cells p hp).2 j v hv)⟩
  rows := fun p hp => by
    obtain ⟨h1, e, fr, h2⟩ := h.rows p hp
    have hlt := (Array.getElem?_eq_some_iff.1 h2).1
    exact ⟨fun ho => h1 (s.own _ hlt ho), e, fr, (s.frame _ hlt h1).1.trans h2⟩
theorem TabOk.view {K K' : GK} {w : World} (h : TabOk K w) (hl : ∀ b, K.lim b ≤ K'.lim b) (ho : ∀ b, b < w.heap.size → owned K' b → owned K b) : TabOk K' w where
  cells := fun p hp => ⟨Nat.le_trans (h.cells p hp).1 (hl p.1), (h.cells p hp).2⟩
  rows := fun p hp => by
    obtain ⟨h1, e, fr, h2⟩ := h.rows p hp
    exact ⟨fun o => h1 (ho _ (Array.getElem?_eq_some_iff.1 h2).1 o), e, fr, h2⟩
structure LimOk (K : GK) (w : World) : Prop where
  z : ∀ b, w.heap.size ≤ b → K.lim b = 0
  t : TabOk K w
instance {K : GK} {w : World} : CoeFun (LimOk K w) fun _ => ∀ b, w.heap.size ≤ b → K.lim b = 0 := ⟨LimOk.z⟩
theorem LimOk.view {K K' : GK} {w : World} (h : LimOk K w) (hl : ∀ b, K.lim b = K'.lim b) (ho : ∀ b, b < w.heap.size → owned K' b → owned K b) : LimOk K' w :=
  ⟨fun b hb => (hl b).symm.trans (h b hb), h.t.view (fun b => Nat.le_of_eq (hl b)) ho⟩
structure HeapRel (K : GK) (h : Heap) (w : World) : Prop where
  obj : ∀ id b, K.rho id = some b → b < w.heap.size ∧ ∃ o, h[id]? = some o ∧ ObjOk K w b o ∧ (o.live → K.lim b = 0)
  inj : ∀ i j b x y, K.rho i = some b → K.rho j = some b → h[i]? = some x → h[j]? = some y → x.live → y.live → i = j
  wm : ∀ k, K.wm k = match h[k]? with | some (.tok n) => n | _ => 0
  tok : ∀ k b, K.tb k = some b → b < w.heap.size ∧ (∃ n, h[k]? = some (.tok n)) ∧ (∀ id o, K.rho id = some b → h[id]? = some o → ¬ o.live) ∧
    ∃ c e fr, w.heap[b]? = some (.cells c e fr) ∧ K.lim b ≤ c.size ∧ nofr c fr
  tinj : ∀ i j b, K.tb i = some b → K.tb j = some b → i = j
  limb : LimOk K w

def EnvRel (K : GK) (w : World) (e : Env) (tmps : Array Value) : Prop := ∀ t x, e.get t = some x → V K w x (tmps.getD t undef)

structure Rel (N : Nat) (ds : List Deferred) (K : GK) (w : World) (e : Env) (h : Heap) (a : Act) : Prop where
  heap : HeapRel K h w
  env : EnvRel K w e a.tmps
  size : a.tmps.size = N
  defers : a.defers = ds

theorem EnvRel.step {K K' : GK} {w w' : World} (s : Step K w K' w') {e : Env} {tmps : Array Value} (h : EnvRel K w e tmps) : EnvRel K' w' e tmps := fun t x hx => (h t x hx).step s

theorem Env.get_prune (e : Env) : ∀ (l : List Nat) (t : Nat) (x : HV), Env.get (prune e l) t = some x → e.get t = some x
  | [], t, x, h => by simp [prune, Env.get] at h
  | u :: r, t, x, h => by
    unfold prune at h
    split at h
    · rename_i v hv
      simp only [Env.get] at h
      split at h
      · rename_i hk
        subst hk
        exact hv.trans h
      · exact Env.get_prune e r t x h
    · exact Env.get_prune e r t x h


theorem V.strip {K : GK} {w : World} {x : HV} {v : Value} (h : V K w x v) : V K w x.strip v := by
  have h' := h
  cases h with
  | nil tok h => exact .nil .none trivial
  | list0 tok h ad => exact .list0 .none trivial ad
  | list hs tok b o cap sz vals hw hleaf hv hc hl hcap ht => exact .list hs .none b o cap sz vals hw hleaf hv hc hl hcap trivial
  | _ => exact h'
theorem leaf_strip (x : HV) : x.strip.leaf = x.leaf := by cases x <;> rfl
theorem V.strip1 {K : GK} {w : World} {x : HV} {v : Value} (h : V K w x v) : V K w x.strip1 v := by
  have h' := h
  cases h with
  | agg cs vs hn hleaf hv =>
    refine .agg _ vs (by simpa using hn) (fun y hy => ?_) (fun j y u hy hu => ?_)
    · obtain ⟨z, hz, rfl⟩ := List.mem_map.1 hy
      rw [leaf_strip]; exact hleaf z hz
    · simp only [List.getElem?_map, Option.map_eq_some_iff] at hy
      obtain ⟨z, hz, rfl⟩ := hy
      exact (hv j z u hz hu).strip
  | tuple cs vs hn hv =>
    refine .tuple _ vs (by simpa using hn) (fun j y u hy hu => ?_)
    simp only [List.getElem?_map, Option.map_eq_some_iff] at hy
    obtain ⟨z, hz, rfl⟩ := hy
    exact (hv j z u hz hu).strip
  | nil tok h => exact .nil .none trivial
  | list0 tok h ad => exact .list0 .none trivial ad
  | list hs tok b o cap sz vals hw hleaf hv hc hl hcap ht => exact .list hs .none b o cap sz vals hw hleaf hv hc hl hcap trivial
  | _ => exact h'

theorem V.oneCell {K : GK} {w : World} {x : HV} {v : Value} (h : V K w x v) (hx : x.leaf = true) : v.oneCell' = true := by
  cases h <;> first | rfl | (simp [HV.leaf] at hx; done) | assumption

theorem V.one {K : GK} {w : World} {x : HV} {v : Value} (h : V K w x v) (hx : x.leaf = true) (hc : x.cells = [x]) (hv : v.cells = #[v]) : x.cells.length = v.cells.size ∧ (∀ y ∈ x.cells, y.leaf = true) ∧
    ∀ (j : Nat) (y : HV) (u : Value), x.cells[j]? = some y → v.cells[j]? = some u → V K w y u := by
  rw [hc, hv]
  refine ⟨rfl, by simpa using hx, fun j y u hy hu => ?_⟩
  cases j with
  | zero => simp at hy hu; subst hy; subst hu; exact h
  | succ j => simp at hy
theorem V.cells {K : GK} {w : World} {x : HV} {v : Value} (h : V K w x v) (ht : ∀ cs, x ≠ .tuple cs) : x.cells.length = v.cells.size ∧ (∀ y ∈ x.cells, y.leaf = true) ∧
    ∀ (j : Nat) (y : HV) (u : Value), x.cells[j]? = some y → v.cells[j]? = some u → V K w y u := by
  have h' := h
  cases h with
  | agg cs vs hn hleaf hv => exact ⟨by simpa [HV.cells, Value.cells] using hn, hleaf, fun j y u hy hu => hv j y u hy (by simpa [Value.cells] using hu)⟩
  | tuple cs vs hn hv => exact absurd rfl (ht cs)
  | any v h =>
    refine h'.one rfl rfl ?_
    cases v <;> first | rfl | (simp [Value.oneCell'] at h)
  | _ => exact h'.one rfl rfl rfl

theorem V.ofAgg {K : GK} {w : World} (cs : List HV) (vs : Array Value) (hn : cs.length = vs.size) (hleaf : ∀ h ∈ cs, h.leaf = true) (hv : ∀ (j : Nat) (h : HV) (v : Value), cs[j]? = some h → vs[j]? = some v → V K w h v) : V K w (.agg cs) (.agg vs) := by
  have := V.agg (K := K) (w := w) cs vs.toList (by simpa using hn) hleaf (fun j h v hh hvv => hv j h v hh (by simpa using hvv))
  simpa using this

end Go.Hw

set_option linter.unusedVariables false
set_option linter.unusedSimpArgs false
namespace Go.Hw
open Go

variable {P : Program}

theorem V_leafConst {K : GK} {w : World} : ∀ {v : Value} {x : HV}, leafConst v = some x → V K w x v ∧ x.leaf = true := by
  intro v x h
  unfold leafConst at h
  split at h <;> first
    | (cases h; done)
    | (injection h with h; subst h; refine ⟨?_, rfl⟩; first
        | exact .bool _
        | exact .int _ _
        | exact .nil _ trivial
        | exact .nilptr
        | exact .nilmap
        | exact .nilfunc
        | exact .nilif
        | (rename_i s; have := V.str (K := K) (w := w) s.data.toList; simpa using this))

theorem mapM_some {α β : Type} {f : α → Option β} : ∀ {l : List α} {r : List β}, l.mapM f = some r → l.length = r.length ∧ ∀ (j : Nat) (x : α) (y : β), l[j]? = some x → r[j]? = some y → f x = some y
  | [], r, h => by
    simp at h
    subst h
    exact ⟨rfl, fun j x y hx => by simp at hx⟩
  | a :: l, r, h => by
    rw [List.mapM_cons] at h
    cases ha : f a with
    | none => simp [ha] at h
    | some b =>
      cases hl : l.mapM f with
      | none => simp [ha, hl] at h
      | some m =>
        simp [ha, hl] at h
        subst h
        obtain ⟨h1, h2⟩ := mapM_some hl
        refine ⟨by simp [h1], fun j x y hx hy => ?_⟩
        cases j with
        | zero => simp at hx hy; subst hx; subst hy; exact ha
        | succ j => simp at hx hy; exact h2 j x y hx hy

theorem mem_get {α : Type} {l : List α} {x : α} (h : x ∈ l) : ∃ j : Nat, l[j]? = some x := by
  obtain ⟨j, hj, rfl⟩ := List.mem_iff_getElem.1 h
  exact ⟨j, by simp [hj]⟩
theorem get_of_lt {α : Type} {l : List α} {j : Nat} (h : j < l.length) : ∃ x, l[j]? = some x := ⟨l[j], by simp [h]⟩
theorem lt_of_get {α : Type} {l : List α} {j : Nat} {x : α} (h : l[j]? = some x) : j < l.length := (List.getElem?_eq_some_iff.1 h).1

theorem V_hconst {K : GK} {w : World} {v : Value} {x : HV} (h : hconst v = some x) : V K w x v := by
  unfold hconst at h
  split at h
  · rename_i cs
    cases hm : cs.toList.mapM leafConst with
    | none => simp [hm] at h
    | some l =>
      simp [hm] at h
      subst h
      obtain ⟨h1, h2⟩ := mapM_some hm
      refine V.ofAgg l cs (by simpa using h1.symm) (fun y hy => ?_) (fun j y u hy hu => ?_)
      · obtain ⟨j, hj⟩ := mem_get hy
        obtain ⟨z, hz⟩ := get_of_lt (l := cs.toList) (j := j) (by rw [h1]; exact lt_of_get hj)
        exact (V_leafConst (K := K) (w := w) (h2 j z y hz hj)).2
      · exact (V_leafConst (h2 j u y (by simpa using hu) hy)).1
  · exact (V_leafConst h).1

theorem ev_sound {K : GK} {w : World} {e : Env} {a : Act} {x : Operand} {y : X} {v : HV} (hx : cX x = some y) (he : EnvRel K w e a.tmps) (hv : y.ev e = some v) : V K w v (a.eval x) := by
  cases x with
  | tmp t => simp [cX] at hx; subst hx; exact he t v hv
  | const c =>
    simp only [cX, Option.map_eq_some_iff] at hx
    obtain ⟨z, hz, rfl⟩ := hx
    simp only [X.ev, Option.some.injEq] at hv
    subst hv
    exact V_hconst hz
  | func f =>
    simp [cX] at hx
    subst hx
    simp only [X.ev, Option.some.injEq] at hv
    subst hv
    exact V.func f [] [] rfl (fun j h v hh => by simp at hh)
  | global g => simp [cX] at hx
theorem eve_sound {K : GK} {w : World} {e : Env} {a : Act} {x : Operand} {y : X} {v : HV} (hx : cXe x = some y) (he : EnvRel K w e a.tmps) (hv : y.ev e = some v) : V K w v (a.eval x) := by
  unfold cXe at hx
  split at hx
  · injection hx with hx
    subst hx
    simp only [X.ev, Option.some.injEq] at hv
    subst hv
    exact .nilslice
  · exact ev_sound hx he hv
theorem evs_sound {K : GK} {w : World} {e : Env} {a : Act} (he : EnvRel K w e a.tmps) : ∀ {xs : List Operand} {ys : List X} {vs : List HV}, xs.mapM cX = some ys → evs e ys = some vs →
    vs.length = xs.length ∧ ∀ (j : Nat) (v : HV) (x : Operand), vs[j]? = some v → xs[j]? = some x → V K w v (a.eval x)
  | [], ys, vs, h, hv => by
    simp at h
    subst h
    simp [evs] at hv
    subst hv
    exact ⟨rfl, fun j v x h => by simp at h⟩
  | x :: xs, ys, vs, h, hv => by
    rw [List.mapM_cons] at h
    cases hx : cX x with
    | none => simp [hx] at h
    | some y =>
      cases hxs : xs.mapM cX with
      | none => simp [hx, hxs] at h
      | some l =>
        simp [hx, hxs] at h
        subst h
        simp only [evs] at hv
        cases h1 : y.ev e with
        | none => simp [h1] at hv
        | some v1 =>
          cases h2 : evs e l with
          | none => simp [h1, h2] at hv
          | some v2 =>
            simp [h1, h2] at hv
            subst hv
            obtain ⟨h3, h4⟩ := evs_sound he hxs h2
            refine ⟨by simp [h3], fun j v z hj hz => ?_⟩
            cases j with
            | zero => simp at hj hz; subst hj; subst hz; exact ev_sound hx he h1
            | succ j => simp at hj hz; exact h4 j v z hj hz

theorem evsn_sound {K : GK} {w : World} {e : Env} {a : Act} (n : Bool) (he : EnvRel K w e a.tmps) : ∀ {xs : List Operand} {ys : List X} {vs : List HV}, xs.mapM (cXn n) = some ys → evs e ys = some vs →
    vs.length = xs.length ∧ ∀ (j : Nat) (v : HV) (x : Operand), vs[j]? = some v → xs[j]? = some x → V K w v (a.eval x)
  | [], ys, vs, h, hv => by
    simp at h
    subst h
    simp [evs] at hv
    subst hv
    exact ⟨rfl, fun j v x h => by simp at h⟩
  | x :: xs, ys, vs, h, hv => by
    rw [List.mapM_cons] at h
    cases hx : cXn n x with
    | none => simp [hx] at h
    | some y =>
      cases hxs : xs.mapM (cXn n) with
      | none => simp [hx, hxs] at h
      | some l =>
        simp [hx, hxs] at h
        subst h
        simp only [evs] at hv
        cases h1 : y.ev e with
        | none => simp [h1] at hv
        | some v1 =>
          cases h2 : evs e l with
          | none => simp [h1, h2] at hv
          | some v2 =>
            simp [h1, h2] at hv
            subst hv
            obtain ⟨h3, h4⟩ := evsn_sound n he hxs h2
            refine ⟨by simp [h3], fun j v z hj hz => ?_⟩
            cases j with
            | zero =>
              simp at hj hz
              subst hj; subst hz
              unfold cXn at hx
              split at hx
              · exact eve_sound hx he h1
              · exact ev_sound hx he h1
            | succ j => simp at hj hz; exact h4 j v z hj hz

def Gives (P : Program) (o : Oper) (a : Act) (w : World) (v : Value) (w' : World) : Prop :=
  (execOp a.eval o).run P w = .ok (.value v) w' ∨ ((execOp a.eval o).run P w = .ok .skip w' ∧ v = undef)
def Ok (P : Program) (o : Oper) (a : Act) (K : GK) (w : World) (k : HV → Heap → Prop) : Prop :=
  ∃ x v K' w' h', Gives P o a w v w' ∧ Step K w K' w' ∧ HeapRel K' h' w' ∧ V K' w' x v ∧ k x h'
theorem Ok.pure {o : Oper} {a : Act} {K : GK} {w : World} {k : HV → Heap → Prop} {x : HV} {v : Value} {h : Heap} (hg : (execOp a.eval o).run P w = .ok (.value v) w) (hh : HeapRel K h w) (hv : V K w x v) (hk : k x h) : Ok P o a K w k :=
  ⟨x, v, K, w, h, .inl hg, .refl K w, hh, hv, hk⟩

def aggD : TypeDesc → Bool
  | .struct _ | .array _ _ => true
  | _ => false
theorem run_isAgg {t : TypeId} {d : TypeDesc} (h : P.underlying t = some d) (w : World) : (isAgg t).run P w = .ok (aggD d) w := by
  unfold isAgg
  simp only [Sem.run_bind, run_underlying h, Result.andThen_ok]
  cases d <;> rfl
theorem run_sizeOf' {t : TypeId} {n : Nat} (h : tsize P t = some n) (w : World) : (sizeOf t).run P w = .ok n w := by
  unfold tsize at h
  obtain ⟨i, hi, rfl⟩ := Option.map_eq_some_iff.1 h
  simp [sizeOf, typeInfo, hi]

section
variable {o : Oper} {a : Act} {K : GK} {w : World} {k : HV → Heap → Prop} {e : Env} {h : Heap} (base : Nat)

theorem ok_mv {x : Operand} {y : X} (ho : o.op = .move x ∨ o.op = .assign x) (hx : cX x = some y) (hs : hstep base (.mv y) e h k) (hh : HeapRel K h w) (he : EnvRel K w e a.tmps) : Ok P o a K w k := by
  simp only [hstep] at hs
  split at hs
  · rename_i v hv
    refine Ok.pure ?_ hh (ev_sound hx he hv) hs
    rcases ho with ho | ho <;> simp [execOp, ho]
  · exact hs.elim

theorem ok_pick {c x y : Operand} {c' x' y' : X} (ho : o.op = .pick c x y) (hc : cX c = some c') (hx : cX x = some x') (hy : cX y = some y') (hs : hstep base (.pick c' x' y') e h k) (hh : HeapRel K h w) (he : EnvRel K w e a.tmps) : Ok P o a K w k := by
  simp only [hstep] at hs
  split at hs
  · rename_i t u v h1 h2 h3
    have hcv := ev_sound hc he h1
    generalize hcc : a.eval c = cv at hcv
    cases hcv
    cases t with
    | true => exact Ok.pure (v := a.eval x) (by simp [execOp, ho, hcc, asBool]) hh (ev_sound hx he h2) (hs.1 rfl)
    | false => exact Ok.pure (v := a.eval y) (by simp [execOp, ho, hcc, asBool]) hh (ev_sound hy he h3) (hs.2 rfl)
  · exact hs.elim

theorem ok_nilck {x : Operand} {y : X} (ho : o.op = .nilCheck x) (hx : cX x = some y) (hs : hstep base (.nilck y) e h k) (hh : HeapRel K h w) (he : EnvRel K w e a.tmps) : Ok P o a K w k := by
  simp only [hstep] at hs
  split at hs
  · rename_i i f hv
    have hx' := ev_sound hx he hv
    refine Ok.pure (v := a.eval x) ?_ hh hx' hs
    generalize hcc : a.eval x = cv at hx' ⊢
    cases hx'
    simp [execOp, ho, hcc]
  · rename_i cs hv
    have hx' := ev_sound hx he hv
    refine Ok.pure (v := a.eval x) ?_ hh hx' hs
    generalize hcc : a.eval x = cv at hx' ⊢
    cases hx'
    simp [execOp, ho, hcc]
  · rename_i f cs hv
    have hx' := ev_sound hx he hv
    refine Ok.pure (v := a.eval x) ?_ hh hx' hs
    generalize hcc : a.eval x = cv at hx' ⊢
    cases hx'
    simp [execOp, ho, hcc]
  · exact hs.elim

theorem tagg_none {t : TypeId} (h : tagg P t = some none) : ∃ d, P.underlying t = some d ∧ aggD d = false := by
  unfold tagg at h
  split at h
  · simp at h
  · simp at h
  · rename_i d h1 h2 hd
    refine ⟨d, hd, ?_⟩
    cases d <;> first | rfl | (exfalso; first | exact h1 _ rfl | exact h2 _ _ rfl)
  · cases h
theorem tagg_some {t : TypeId} {n : Nat} (h : tagg P t = some (some n)) : ∃ d, P.underlying t = some d ∧ aggD d = true ∧ tsize P t = some n := by
  unfold tagg at h
  split at h
  · rename_i fs hd; simp at h; exact ⟨_, hd, rfl, h⟩
  · rename_i m e hd; simp at h; exact ⟨_, hd, rfl, h⟩
  · simp at h
  · cases h

theorem run_loadVar_at {t : TypeId} {n : Option Nat} (ht : tagg P t = some n) {b off : Nat} {cs : List HV} {x : HV} (hx : atCells n cs = some x) (hcs : ∀ (j : Nat) (y : HV), cs[j]? = some y → y.leaf = true ∧ ∃ v, w.cell? ⟨b, off + j, none⟩ = some v ∧ V K w y v) :
    ∃ v, (loadVar t ⟨b, off, none⟩).run P w = .ok v w ∧ V K w x v := by
  cases n with
  | none =>
    obtain ⟨d, hd, hn⟩ := tagg_none ht
    simp only [atCells] at hx
    obtain ⟨_, v, hv, hV⟩ := hcs 0 x (by rw [← List.head?_eq_getElem?]; exact hx)
    refine ⟨v, ?_, hV⟩
    simp only [loadVar, Sem.run_bind, run_isAgg hd, hn, Result.andThen_ok]
    simp only [Nat.add_zero] at hv
    simp [hv]
  | some m =>
    obtain ⟨d, hd, hn, hsz⟩ := tagg_some ht
    simp only [atCells] at hx
    split at hx
    · rename_i hm
      injection hx with hx
      subst hx
      have hf : ∀ j, j < m → ∃ v, w.cell? ((⟨b, off, none⟩ : Addr).add j) = some v := fun j hj => by
        obtain ⟨y, hy⟩ := get_of_lt (l := cs) (j := j) (by omega)
        obtain ⟨_, v, hv, _⟩ := hcs j y hy
        exact ⟨v, by rw [Addr.add_lit]; exact hv⟩
      refine ⟨_, ?_, V.ofAgg (cs.take m) ((List.range m).map fun j => (w.cell? ⟨b, off + j, none⟩).getD undef).toArray (by simp; omega) (fun y hy => ?_) (fun j y v hy hv => ?_)⟩
      · simp only [loadVar, Sem.run_bind, run_isAgg hd, hn, Result.andThen_ok, if_true, run_sizeOf' hsz]
        rw [run_loadCells w ⟨b, off, none⟩ m (fun j => (w.cell? ⟨b, off + j, none⟩).getD undef) (fun j hj => by
          obtain ⟨v, hv⟩ := hf j hj
          rw [Addr.add_lit] at hv ⊢
          rw [hv]; rfl)]
        rfl
      · obtain ⟨j, hj⟩ := mem_get hy
        rw [List.getElem?_take] at hj
        split at hj
        · exact (hcs j y hj).1
        · cases hj
      · rw [List.getElem?_take] at hy
        split at hy
        · rename_i hj
          obtain ⟨_, u, hu, hV⟩ := hcs j y hy
          simp [hj, hu] at hv
          subst hv
          exact hV
        · cases hy
    · cases hx

theorem heap_cells {id b : Nat} {cs : List HV} (hh : HeapRel K h w) (hr : K.rho id = some b) (hc : Heap.cells h id = some cs) :
    ∃ c e fr, w.heap[b]? = some (.cells c e fr) ∧ cs.length ≤ c.size ∧ nofr c fr ∧ ∀ (j : Nat) (x : HV), cs[j]? = some x → x.leaf = true ∧ ∃ v, c[j]? = some v ∧ V K w x v := by
  obtain ⟨_, o, ho, hob, _⟩ := hh.obj id b hr
  unfold Heap.cells at hc
  rw [ho] at hc
  cases o <;> simp at hc
  subst hc
  exact hob

theorem ok_load {t : TypeId} {n : Option Nat} {x : Operand} {y : X} (ho : o.op = .load t x) (ht : tagg P t = some n) (hx : cX x = some y) (hs : hstep base (.load n y) e h k) (hh : HeapRel K h w) (he : EnvRel K w e a.tmps) : Ok P o a K w k := by
  simp only [hstep] at hs
  split at hs
  · rename_i cs hv
    split at hs
    · rename_i u hu
      have hx' := ev_sound hx he hv
      generalize hcc : a.eval x = cv at hx'
      cases hx' with
      | rptr _ b of vals hleaf hv hc hl =>
        obtain ⟨v, hr, hV⟩ := run_loadVar_at (P := P) (K := K) (w := w) ht (b := b) (off := of) hu (fun j y hy => ⟨hleaf y (List.mem_of_getElem? hy), _, hc j (lt_of_get hy), hv j y hy⟩)
        exact Ok.pure (v := v) (by simp [execOp, ho, hcc, Instr.loadAt, Instr.sureAddr, hr]) hh hV hs
    · exact hs.elim
  · rename_i id off hv
    split at hs
    · rename_i cs hcs
      split at hs
      · rename_i u hu
        have hx' := ev_sound hx he hv
        generalize hcc : a.eval x = cv at hx'
        cases hx' with
        | ptr _ _ b hr =>
          obtain ⟨c, et, fr, hb, hlen, _, hvs⟩ := heap_cells hh hr hcs
          obtain ⟨v, hrun, hV⟩ := run_loadVar_at (P := P) (K := K) (w := w) ht (b := b) (off := off) hu (fun j y hy => by
            rw [List.getElem?_drop] at hy
            obtain ⟨h1, v, h2, h3⟩ := hvs _ y hy
            exact ⟨h1, v, by rw [cell_of_row w b (off + j) c et fr hb]; exact h2, h3⟩)
          exact Ok.pure (v := v) (by simp [execOp, ho, hcc, Instr.loadAt, Instr.sureAddr, hrun]) hh hV hs
      · exact hs.elim
    · exact hs.elim
  · exact hs.elim

end
end Go.Hw

set_option linter.unusedVariables false
set_option linter.unusedSimpArgs false
namespace Go.Hw
open Go

variable {P : Program}

section
variable {o : Oper} {a : Act} {K : GK} {w : World} {k : HV → Heap → Prop} {e : Env} {h : Heap} (base : Nat)

theorem eqGuard_free (op : BinOp) (h1 : op ≠ .eql) (h2 : op ≠ .neq) (t : TypeId) (x y : Operand) (u v : Value) (w : World) : (eqGuard op t x y u v).run P w = .ok () w := by
  cases op <;> first | rfl | exact absurd rfl h1 | exact absurd rfl h2

theorem run_ibin {op : BinOp} (h1 : op ≠ .eql) (h2 : op ≠ .neq) (t : TypeId) (i j : IntKind) (x y : Int) (hk : i = j ∨ op = .shl ∨ op = .shr) (hok : ibinOk op y) {v : HV} (hv : ibin op i x y = some v) :
    ∃ u, (binOp op t (.int i x) (.int j y)).run P w = .ok u w ∧ V K w v u := by
  cases op <;> simp only [ibin, Option.some.injEq] at hv <;> subst hv <;> simp only [ibinOk] at hok
  case eql => exact absurd rfl h1
  case neq => exact absurd rfl h2
  case shl => exact ⟨_, by simp [binOp, Op.shift, show ¬ y < 0 by omega], .int _ _⟩
  case shr => exact ⟨_, by simp [binOp, Op.shift, show ¬ y < 0 by omega], .int _ _⟩
  all_goals
    have hk' : i = j := by rcases hk with hk | hk | hk <;> first | exact hk | cases hk
    subst hk'
    first
      | (refine ⟨_, ?_, .int _ _⟩; simp [binOp, Op.intArith]; done)
      | (refine ⟨_, ?_, .int _ _⟩; simp [binOp, Op.intDiv, hok]; done)
      | (refine ⟨_, ?_, .int _ _⟩; simp [binOp, Op.intBits]; done)
      | (refine ⟨_, ?_, .bool _⟩; simp [binOp, Op.intCmp]; done)

theorem size_mk (l : List UInt8) : (ByteArray.mk l.toArray).size = l.length := by simp [ByteArray.size]
theorem append_mk (a b : List UInt8) : (ByteArray.mk a.toArray) ++ (ByteArray.mk b.toArray) = ByteArray.mk (a ++ b).toArray := by
  ext1
  simp
theorem run_sbin {op : BinOp} (h1 : op ≠ .eql) (h2 : op ≠ .neq) (t : TypeId) (x y : List UInt8) (hok : sbinOk op x y) {v : HV} (hv : sbin op x y = some v) :
    ∃ u, (binOp op t (.string ⟨x.toArray⟩) (.string ⟨y.toArray⟩)).run P w = .ok u w ∧ V K w v u := by
  cases op <;> simp only [sbin, Option.some.injEq, reduceCtorEq] at hv <;> (try subst hv) <;> simp only [sbinOk] at hok
  case eql => exact absurd rfl h1
  case neq => exact absurd rfl h2
  case add =>
    refine ⟨.string ⟨(x ++ y).toArray⟩, ?_, .str _⟩
    simp only [binOp, Op.stringOp, size_mk, IntKind.max_i64]
    rw [if_neg (by omega), append_mk]
    rfl
  all_goals exact ⟨_, by simp [binOp, Op.stringOp], .bool _⟩

theorem ok_bin {op : BinOp} {t yt : TypeId} {x y : Operand} {x' y' : X} (h1 : op ≠ .eql) (h2 : op ≠ .neq) (ho : o.op = .binOp op t x y yt) (hx : cX x = some x') (hy : cX y = some y') (hs : hstep base (.bin op x' y') e h k) (hh : HeapRel K h w) (he : EnvRel K w e a.tmps) : Ok P o a K w k := by
  simp only [hstep] at hs
  split at hs
  · rename_i i p j q h3 h4
    have hx' := ev_sound hx he h3
    have hy' := ev_sound hy he h4
    generalize hcx : a.eval x = cx at hx'
    generalize hcy : a.eval y = cy at hy'
    cases hx'
    cases hy'
    obtain ⟨hk, hok, hs⟩ := hs
    split at hs
    · rename_i v hv
      obtain ⟨u, hr, hV⟩ := run_ibin (P := P) (K := K) (w := w) h1 h2 t i j p q hk hok hv
      exact Ok.pure (v := u) (by simp [execOp, ho, hcx, hcy, eqGuard_free op h1 h2, hr]) hh hV hs
    · exact hs.elim
  · rename_i p q h3 h4
    have hx' := ev_sound hx he h3
    have hy' := ev_sound hy he h4
    generalize hcx : a.eval x = cx at hx'
    generalize hcy : a.eval y = cy at hy'
    cases hx'
    cases hy'
    obtain ⟨hok, hs⟩ := hs
    split at hs
    · rename_i v hv
      obtain ⟨u, hr, hV⟩ := run_sbin (P := P) (K := K) (w := w) h1 h2 t p q hok hv
      exact Ok.pure (v := u) (by simp [execOp, ho, hcx, hcy, eqGuard_free op h1 h2, hr]) hh hV hs
    · exact hs.elim
  · exact hs.elim

theorem ok_un {op : UnOp} {t : TypeId} {x : Operand} {x' : X} (ho : o.op = .unOp op t x) (hx : cX x = some x') (hs : hstep base (.un op x') e h k) (hh : HeapRel K h w) (he : EnvRel K w e a.tmps) : Ok P o a K w k := by
  simp only [hstep] at hs
  split at hs
  · rename_i i n h3
    have hx' := ev_sound hx he h3
    generalize hcx : a.eval x = cx at hx'
    cases hx'
    split at hs
    · rename_i v hv
      cases op <;> simp only [iun, Option.some.injEq, reduceCtorEq] at hv
      · subst hv
        exact Ok.pure (v := .int i (i.wrap (-n))) (by simp [execOp, ho, hcx, Op.unary, Op.intArith]) hh (.int _ _) hs
      · subst hv
        exact Ok.pure (v := .int i _) (by simp [execOp, ho, hcx, Op.unary, Op.intBits]) hh (.int _ _) hs
    · exact hs.elim
  · rename_i t h3
    have hx' := ev_sound hx he h3
    generalize hcx : a.eval x = cx at hx'
    cases hx'
    obtain ⟨rfl, hs⟩ := hs
    exact Ok.pure (v := .bool (!t)) (by simp [execOp, ho, hcx, Op.unary]) hh (.bool _) hs
  · exact hs.elim


theorem str_eq (x y : List UInt8) : ((ByteArray.mk x.toArray) == (ByteArray.mk y.toArray)) = (x == y) := by
  rw [beq_toListBytes]; simp

theorem equal_unfold (t : TypeId) (x y : Value) : Op.equal t x y = Op.equalIn (9999 + 1) t x y := rfl
theorem run_eq_both {t : TypeId} {u v : Value} {b : Bool} {w : World} (h : (Op.equal t u v).run P w = .ok b w) (h1 : binOp .eql t u v = (do pure (.bool (← Op.equal t u v)))) (h2 : binOp .neq t u v = (do pure (.bool (!(← Op.equal t u v))))) :
    (binOp .eql t u v).run P w = .ok (.bool b) w ∧ (binOp .neq t u v).run P w = .ok (.bool (!b)) w := by
  rw [h1, h2]
  simp [h]

theorem run_slice_nil {t et : TypeId} (hu : P.underlying t = some (.slice et)) (ad : Option Addr) (n c : Nat) (w : World) : (Op.equal t (.slice ad n c) (.slice none 0 0)).run P w = .ok ad.isNone w := by
  rw [equal_unfold]
  generalize 9999 = dd
  simp only [Op.equalIn, Sem.run_bind, run_underlying hu, Result.andThen_ok]
  cases ad <;> rfl
theorem run_nil_slice {t et : TypeId} (hu : P.underlying t = some (.slice et)) (ad : Option Addr) (n c : Nat) (w : World) : (Op.equal t (.slice none 0 0) (.slice ad n c)).run P w = .ok ad.isNone w := by
  rw [equal_unfold]
  generalize 9999 = dd
  simp only [Op.equalIn, Sem.run_bind, run_underlying hu, Result.andThen_ok]
  cases ad <;> rfl
theorem run_eqs {t : TypeId} {kd : EqK} (ht : eqKind P t = some kd) (hk : ∀ n, kd ≠ .agg n) {x y : HV} {u v : Value} (hx : V K w x u) (hy : V K w y v) (hok : eqsOk kd x y) :
    ∃ b, HV.eqs x y b ∧ (∀ op x' y', (eqGuard op t x' y' u v).run P w = .ok () w) ∧ (binOp .eql t u v).run P w = .ok (.bool b) w ∧ (binOp .neq t u v).run P w = .ok (.bool (!b)) w := by
  unfold eqKind at ht
  split at ht
  case h_8 =>
    split at ht
    · obtain ⟨ks, _, rfl⟩ := Option.map_eq_some_iff.1 ht
      exact absurd rfl (hk ks)
    · cases ht
  case h_9 =>
    split at ht
    · obtain ⟨ks, _, rfl⟩ := Option.map_eq_some_iff.1 ht
      exact absurd rfl (hk _)
    · cases ht
  case h_10 => cases ht
  case h_1 =>
    rename_i hu
    injection ht with ht
    subst ht
    cases x <;> cases y <;> simp only [eqsOk] at hok
    cases hx; cases hy
    rename_i p q
    exact ⟨p == q, rfl, fun op x' y' => by simp [go_sem], run_eq_both (by rw [equal_unfold]; generalize 9999 = dd; simp only [Op.equalIn, Sem.run_bind, run_underlying hu, Result.andThen_ok, Sem.run_pure]) rfl rfl⟩
  case h_2 =>
    rename_i hu
    injection ht with ht
    subst ht
    cases x <;> cases y <;> simp only [eqsOk] at hok
    subst hok
    cases hx; cases hy
    exact ⟨_, rfl, fun op x' y' => by simp [go_sem], by simp [binOp, Op.intCmp], by simp [binOp, Op.intCmp, bne]⟩
  case h_3 =>
    rename_i hu
    injection ht with ht
    subst ht
    cases x <;> cases y <;> simp only [eqsOk] at hok
    cases hx; cases hy
    exact ⟨_, rfl, fun op x' y' => by simp [go_sem], by simp [binOp, Op.stringOp], by simp [binOp, Op.stringOp]⟩
  case h_7 =>
    rename_i hu
    injection ht with ht
    subst ht
    have key1 : ∀ ad n c, HV.eqs x y ad.isNone → u = .slice ad n c → v = .slice none 0 0 → ∃ b, HV.eqs x y b ∧ (∀ op x' y', (eqGuard op t x' y' u v).run P w = .ok () w) ∧ (binOp .eql t u v).run P w = .ok (.bool b) w ∧ (binOp .neq t u v).run P w = .ok (.bool (!b)) w := by
      rintro ad n c he rfl rfl
      exact ⟨_, he, fun op x' y' => by simp [go_sem], run_eq_both (run_slice_nil hu ad n c w) rfl rfl⟩
    have key2 : ∀ ad n c, HV.eqs x y ad.isNone → v = .slice ad n c → u = .slice none 0 0 → ∃ b, HV.eqs x y b ∧ (∀ op x' y', (eqGuard op t x' y' u v).run P w = .ok () w) ∧ (binOp .eql t u v).run P w = .ok (.bool b) w ∧ (binOp .neq t u v).run P w = .ok (.bool (!b)) w := by
      rintro ad n c he rfl rfl
      exact ⟨_, he, fun op x' y' => by simp [go_sem], run_eq_both (run_nil_slice hu ad n c w) rfl rfl⟩
    cases hx with
    | nilslice =>
      cases hy with
      | nil tok _ => exact key2 _ _ _ (fun h => absurd rfl h) rfl rfl
      | list0 tok _ ad => exact key2 _ _ _ (fun h => absurd rfl h) rfl rfl
      | list => exact key2 _ _ _ (fun _ => rfl) rfl rfl
      | arr => exact key2 _ _ _ (fun _ => rfl) rfl rfl
      | arrn => exact key2 _ _ _ (fun h => absurd rfl h) rfl rfl
      | arr0 => exact key2 _ _ _ (fun h => absurd rfl h) rfl rfl
      | _ => exact hok.elim
    | nil tok _ =>
      cases hy with
      | nilslice => exact key1 _ _ _ (fun h => absurd rfl h) rfl rfl
      | _ => exact hok.elim
    | list0 tok _ ad =>
      cases hy with
      | nilslice => exact key1 _ _ _ (fun h => absurd rfl h) rfl rfl
      | _ => exact hok.elim
    | list =>
      cases hy with
      | nilslice => exact key1 _ _ _ (fun _ => rfl) rfl rfl
      | _ => exact hok.elim
    | arr =>
      cases hy with
      | nilslice => exact key1 _ _ _ (fun _ => rfl) rfl rfl
      | _ => exact hok.elim
    | arrn =>
      cases hy with
      | nilslice => exact key1 _ _ _ (fun h => absurd rfl h) rfl rfl
      | _ => exact hok.elim
    | arr0 =>
      cases hy with
      | nilslice => exact key1 _ _ _ (fun h => absurd rfl h) rfl rfl
      | _ => exact hok.elim
    | _ => cases y <;> exact hok.elim
  all_goals
    rename_i hu
    injection ht with ht
    subst ht
    cases x <;> cases y <;> simp only [eqsOk] at hok <;> cases hx <;> cases hy
    all_goals
      first
      | exact ⟨true, rfl, fun op x' y' => by simp [go_sem], run_eq_both (by rw [equal_unfold]; generalize 9999 = dd; simp only [Op.equalIn, Sem.run_bind, run_underlying hu, Result.andThen_ok, Sem.run_pure]; first | done | rfl) rfl rfl⟩
      | (refine ⟨false, rfl, fun op x' y' => by simp [go_sem], run_eq_both ?_ rfl rfl⟩; rw [equal_unfold]; generalize 9999 = dd; simp only [Op.equalIn, Sem.run_bind, run_underlying hu, Result.andThen_ok, Sem.run_pure]; first | done | rfl)
      | (refine ⟨true, fun hn => absurd rfl hn, fun op x' y' => by simp [go_sem], run_eq_both ?_ rfl rfl⟩; rw [equal_unfold]; generalize 9999 = dd; simp only [Op.equalIn, Sem.run_bind, run_underlying hu, Result.andThen_ok, Sem.run_pure]; first | done | rfl)
      | (refine ⟨false, fun hn => rfl, fun op x' y' => by simp [go_sem], run_eq_both ?_ rfl rfl⟩; rw [equal_unfold]; generalize 9999 = dd; simp only [Op.equalIn, Sem.run_bind, run_underlying hu, Result.andThen_ok, Sem.run_pure]; first | done | rfl)

theorem ok_eqv {neg : Bool} {t yt : TypeId} {kd : EqK} {x y : Operand} {x' y' : X} (ho : o.op = .binOp (if neg then .neq else .eql) t x y yt) (hkd : eqKind P t = some kd) (hn : ∀ n, kd ≠ .agg n) (hx : cXe x = some x') (hy : cXe y = some y')
    (hs : hstep base (.eqv neg kd x' y') e h k) (hh : HeapRel K h w) (he : EnvRel K w e a.tmps) : Ok P o a K w k := by
  simp only [hstep] at hs
  split at hs
  · rename_i p q h3 h4
    have hx' := eve_sound hx he h3
    have hy' := eve_sound hy he h4
    have hs' : eqsOk kd p q ∧ ∀ t, HV.eqs p q t → k (.bool (if neg then !t else t)) h := by
      cases kd <;> first | exact hs | exact absurd rfl (hn _)
    obtain ⟨b, h5, h6, h7, h8⟩ := run_eqs (P := P) hkd hn hx' hy' hs'.1
    cases neg with
    | false => exact Ok.pure (v := .bool b) (by simp [execOp, ho, h6, h7]) hh (.bool _) (by simpa using hs'.2 b h5)
    | true => exact Ok.pure (v := .bool (!b)) (by simp [execOp, ho, h6, h8]) hh (.bool _) (by simpa using hs'.2 b h5)
  · exact hs.elim


theorem run_conv_int {src dst : TypeId} {j i : IntKind} (hs : P.underlying src = some (.int j)) (hd : P.underlying dst = some (.int i)) (j' : IntKind) (n : Int) : (convert src dst (.int j' n)).run P w = .ok (.int i (i.wrap n)) w := by
  simp [convert, run_underlying hs, run_underlying hd, Conv.intToInt]
theorem run_conv_same {src dst : TypeId} (hs : P.underlying src = some .string) (hd : P.underlying dst = some .string) (s : ByteArray) : (convert src dst (.string s)).run P w = .ok (.string s) w := by
  simp [convert, run_underlying hs, run_underlying hd]

theorem flat_bytes {hs : List HV} (h : isBytes hs) : flat hs = hs := by
  induction hs with
  | nil => rfl
  | cons x r ih =>
    obtain ⟨n, rfl⟩ := h x List.mem_cons_self
    have := ih (fun y hy => h y (List.mem_cons_of_mem _ hy))
    simp only [flat, List.flatMap_cons, HV.cells] at this ⊢
    rw [this]; rfl
theorem strOf_eq (hs : List HV) : ∀ h : isBytes hs, strOf hs = (hs.map numOf).map fun n => UInt8.ofNat n.toNat := by
  intro h
  simp only [strOf, List.map_map]
  apply List.map_congr_left
  intro x hx
  obtain ⟨n, rfl⟩ := h x hx
  rfl
theorem run_ofBytes0 {src dst e : TypeId} (hs : P.underlying src = some (.slice e)) (he : P.underlying e = some (.int .u8)) (hd : P.underlying dst = some .string) (ad : Addr) : (convert src dst (.slice (some ad) 0 0)).run P w = .ok (.string ⟨(strOf []).toArray⟩) w := by
  have h0 : (loadCells ad 0).run P w = .ok #[] w := by
    have := run_loadCells w ad 0 (fun _ => (.bool false)) (P := P) (fun j hj => absurd hj (by omega))
    simpa using this
  simp only [convert, Sem.run_bind, run_underlying hs, run_underlying he, run_underlying hd, Result.andThen_ok, Conv.bytesToString, h0]
  rfl
theorem run_ofBytes {src dst e : TypeId} (hs : P.underlying src = some (.slice e)) (he : P.underlying e = some (.int .u8)) (hd : P.underlying dst = some .string) {hl : List HV} (hb : isBytes hl) {b off cap : Nat}
    (hc : ∀ (j : Nat) (x : HV), hl[j]? = some x → ∃ v, w.cell? ⟨b, off + j, none⟩ = some v ∧ V K w x v) :
    (convert src dst (.slice (some ⟨b, off, none⟩) hl.length cap)).run P w = .ok (.string ⟨(strOf hl).toArray⟩) w := by
  have := run_convert_bytes_arg (P := P) w src e hs he b off hl.length cap (hl.map numOf) (by simp) (fun i hi => by
    obtain ⟨x, hx⟩ := get_of_lt hi
    obtain ⟨n, rfl⟩ := hb x (List.mem_of_getElem? hx)
    obtain ⟨v, hv, hV⟩ := hc i _ hx
    cases hV
    rw [hv]
    simp [List.getD_eq_getElem?_getD, hx, numOf]) dst hd
  rw [this, strOf_eq hl hb]
  rfl

theorem ok_conv_int {src dst : TypeId} {j i : IntKind} {x : Operand} {y : X} (ho : o.op = .convert src dst x) (h1 : P.underlying src = some (.int j)) (h2 : P.underlying dst = some (.int i)) (hx : cX x = some y) (hs : hstep base (.conv (.int i) y) e h k) (hh : HeapRel K h w) (he : EnvRel K w e a.tmps) : Ok P o a K w k := by
  simp only [hstep] at hs
  split at hs
  · rename_i i' j' n h3 heq
    have hx' := ev_sound hx he heq
    generalize hcx : a.eval x = cx at hx'
    cases hx'
    injection h3 with h3
    subst h3
    exact Ok.pure (v := .int i (i.wrap n)) (by simp [execOp, ho, hcx, run_conv_int h1 h2]) hh (.int _ _) hs
  all_goals first | (rename_i h3 _; cases h3; done) | exact hs.elim

theorem ok_conv_same {src dst : TypeId} {x : Operand} {y : X} (ho : o.op = .convert src dst x) (h1 : P.underlying src = some .string) (h2 : P.underlying dst = some .string) (hx : cX x = some y) (hs : hstep base (.conv .same y) e h k) (hh : HeapRel K h w) (he : EnvRel K w e a.tmps) : Ok P o a K w k := by
  simp only [hstep] at hs
  cases heq : y.ev e with
  | none => rw [heq] at hs; exact hs.elim
  | some z =>
  rw [heq] at hs
  cases z <;> try exact hs.elim
  rename_i s
  have hx' := ev_sound hx he heq
  generalize hcx : a.eval x = cx at hx'
  cases hx'
  exact Ok.pure (v := .string ⟨s.toArray⟩) (by simp [execOp, ho, hcx, run_conv_same h1 h2]) hh (.str _) hs

theorem ok_conv_ofBytes {src dst et : TypeId} {x : Operand} {y : X} (ho : o.op = .convert src dst x) (h1 : P.underlying src = some (.slice et)) (h1' : P.underlying et = some (.int .u8)) (h2 : P.underlying dst = some .string) (hx : cX x = some y) (hs : hstep base (.conv .ofBytes y) e h k) (hh : HeapRel K h w) (he : EnvRel K w e a.tmps) : Ok P o a K w k := by
  simp only [hstep] at hs
  cases heq : y.ev e with
  | none => rw [heq] at hs; exact hs.elim
  | some z =>
  rw [heq] at hs
  cases z <;> try exact hs.elim
  · rename_i hl tok
    have hx' := ev_sound hx he heq
    generalize hcx : a.eval x = cx at hx'
    cases hx' with
    | nil _ _ =>
      exact Ok.pure (v := .string ⟨(strOf []).toArray⟩) (by simp [execOp, ho, hcx, convert, run_underlying h1, run_underlying h1', run_underlying h2, Conv.bytesToString, strOf]; rfl) hh (.str _) hs.2
    | list0 _ _ ad => exact Ok.pure (v := .string ⟨(strOf []).toArray⟩) (by simp [execOp, ho, hcx, run_ofBytes0 h1 h1' h2]) hh (.str _) hs.2
    | list _ _ b of cap sz vals hw hleaf hv hc hlim hcap ht =>
      have hf := flat_bytes hs.1
      have hr := run_ofBytes (P := P) (K := K) (w := w) (b := b) (off := of) (cap := cap) h1 h1' h2 hs.1 (fun j x hjx => ⟨_, hc j (by rw [hf]; exact lt_of_get hjx), hv j x (by rw [hf]; exact hjx)⟩)
      exact Ok.pure (v := .string ⟨(strOf hl).toArray⟩) (by simp [execOp, ho, hcx, hr]) hh (.str _) hs.2
  · rename_i id off n sz
    dsimp only at hs
    split at hs
    · rename_i cs hcs
      have hx' := ev_sound hx he heq
      generalize hcx : a.eval x = cx at hx'
      cases hx' with
      | arr _ _ _ _ b cap off' hr hcap hoff hroom =>
        obtain ⟨⟨h4, h5, h6⟩, hs⟩ := hs
        obtain ⟨c, et', fr, hb, hlen, _, hvs⟩ := heap_cells hh hr hcs
        have hl : ((cs.drop off).take n).length = n := by simp; omega
        have hrun := run_ofBytes (P := P) (K := K) (w := w) (b := b) (off := off') (cap := cap) h1 h1' h2 h6 (fun j x hjx => by
          rw [List.getElem?_take] at hjx
          split at hjx
          · rw [List.getElem?_drop] at hjx
            obtain ⟨_, v, h7, h8⟩ := hvs _ x hjx
            rw [hoff (by omega)]
            exact ⟨v, by rw [cell_of_row w b (off + j) c et' fr hb]; exact h7, h8⟩
          · cases hjx)
        rw [hl] at hrun
        exact Ok.pure (v := .string ⟨(strOf ((cs.drop off).take n)).toArray⟩) (by simp [execOp, ho, hcx, hrun]) hh (.str _) hs
      | arrn =>
        exact Ok.pure (v := .string ⟨(strOf []).toArray⟩) (by simp [execOp, ho, hcx, convert, run_underlying h1, run_underlying h1', run_underlying h2, Conv.bytesToString, strOf]; rfl) hh (.str _) (by simpa using hs.2)
      | arr0 _ _ _ ad =>
        exact Ok.pure (v := .string ⟨(strOf []).toArray⟩) (by simp [execOp, ho, hcx, run_ofBytes0 h1 h1' h2]) hh (.str _) (by simpa using hs.2)
    · exact hs.elim

theorem ok_mkfunc {f : FuncId} {first caps : Array Operand} {ys : List X} (ho : o.op = .makeFunc (.func f) first caps) (hf : first.size = 0) (hx : caps.toList.mapM cX = some ys) (hs : hstep base (.mkfunc f ys) e h k) (hh : HeapRel K h w) (he : EnvRel K w e a.tmps) : Ok P o a K w k := by
  simp only [hstep] at hs
  split at hs
  · rename_i vs hvs
    obtain ⟨h1, h2⟩ := evs_sound he hx hvs
    have hf' : first = #[] := Array.eq_empty_of_size_eq_zero hf
    have := V.func (K := K) (w := w) f (vs.map HV.strip1) (caps.toList.map a.eval) (by simpa using h1) (fun j y u hy hu => by
      simp only [List.getElem?_map, Option.map_eq_some_iff] at hy hu
      obtain ⟨z, hz, rfl⟩ := hu
      obtain ⟨y', hy', rfl⟩ := hy
      exact (h2 j y' z hy' hz).strip1)
    exact Ok.pure (v := .func (.func f) #[] (caps.toList.map a.eval).toArray) (by simp [execOp, ho, Instr.makeFunc, hf']; apply Array.ext'; simp) hh this hs
  · exact hs.elim

theorem ok_extract {x : Operand} {i : Nat} {y : X} (ho : o.op = .extract x i) (hx : cX x = some y) (hs : hstep base (.extract y i) e h k) (hh : HeapRel K h w) (he : EnvRel K w e a.tmps) : Ok P o a K w k := by
  simp only [hstep] at hs
  split at hs
  · rename_i vs hv
    split at hs
    · rename_i v hi
      have hx' := ev_sound hx he hv
      generalize hcx : a.eval x = cx at hx'
      cases hx' with
      | tuple _ us hn hvs =>
        obtain ⟨u, hu⟩ := get_of_lt (l := us) (j := i) (by rw [← hn]; exact lt_of_get hi)
        exact Ok.pure (v := u) (by simp [execOp, ho, hcx, Instr.extract, hu]) hh (hvs i v u hi hu) hs
    · exact hs.elim
  · exact hs.elim
end
end Go.Hw

set_option linter.unusedVariables false
set_option linter.unusedSimpArgs false
namespace Go.Hw
open Go

variable {P : Program}


theorem flat_cons (x : HV) (r : List HV) : flat (x :: r) = x.cells ++ flat r := by simp [flat]
theorem flat_append (x y : List HV) : flat (x ++ y) = flat x ++ flat y := by simp [flat]
theorem flat_length {sz : Nat} : ∀ {hs : List HV}, (∀ y ∈ hs, y.cells.length = sz) → (flat hs).length = hs.length * sz
  | [], _ => by simp [flat]
  | x :: r, h => by
    rw [flat_cons, List.length_append, flat_length (hs := r) (fun y hy => h y (List.mem_cons_of_mem _ hy)), h x List.mem_cons_self, List.length_cons, Nat.add_mul]
    omega
theorem flat_take {sz : Nat} : ∀ {hs : List HV} (n : Nat), (∀ y ∈ hs, y.cells.length = sz) → flat (hs.take n) = (flat hs).take (n * sz)
  | [], n, _ => by simp [flat]
  | x :: r, 0, h => by simp [flat]
  | x :: r, n + 1, h => by
    have hx := h x List.mem_cons_self
    rw [List.take_succ_cons, flat_cons, flat_cons, flat_take n (fun y hy => h y (List.mem_cons_of_mem _ hy)), List.take_append, hx, show (n + 1) * sz - sz = n * sz by rw [Nat.add_mul]; omega]
    rw [List.take_of_length_le (l := x.cells) (by rw [hx, Nat.add_mul]; omega)]
theorem flat_drop {sz : Nat} : ∀ {hs : List HV} (n : Nat), (∀ y ∈ hs, y.cells.length = sz) → flat (hs.drop n) = (flat hs).drop (n * sz)
  | [], n, _ => by simp [flat]
  | x :: r, 0, h => by simp
  | x :: r, n + 1, h => by
    have hx := h x List.mem_cons_self
    rw [List.drop_succ_cons, flat_cons, flat_drop n (fun y hy => h y (List.mem_cons_of_mem _ hy)), List.drop_append, hx, show (n + 1) * sz - sz = n * sz by rw [Nat.add_mul]; omega]
    rw [List.drop_eq_nil_of_le (as := x.cells) (by rw [hx, Nat.add_mul]; omega), List.nil_append]
theorem flat_at {sz : Nat} {hs : List HV} {n : Nat} {x : HV} (hw : ∀ y ∈ hs, y.cells.length = sz) (hx : hs[n]? = some x) (j : Nat) (hj : j < sz) : (flat hs)[n * sz + j]? = x.cells[j]? := by
  have h1 : (flat hs).drop (n * sz) = flat (hs.drop n) := (flat_drop n hw).symm
  have hlt := lt_of_get hx
  rw [← List.getElem?_drop, h1, List.drop_eq_getElem_cons hlt, flat_cons]
  have : hs[n] = x := by simpa [hlt] using hx
  rw [this, List.getElem?_append_left (by rw [hw x (List.mem_of_getElem? hx)]; exact hj)]
theorem mem_sub {α : Type} {l : List α} {m n : Nat} {x : α} (h : x ∈ (l.take m).drop n) : x ∈ l := List.mem_of_mem_take (List.mem_of_mem_drop h)


def Bd (v : Option Value) (d n : Int) : Prop := (v = none ∧ n = d) ∨ ∃ kk, v = some (.int kk n)

section
variable {o : Oper} {a : Act} {K : GK} {w : World} {k : HV → Heap → Prop} {e : Env} {h : Heap} (base : Nat)

theorem bnd_sound {ox : Option Operand} {ob : Option X} {d n : Int} (hx : cOpt ox = some ob) (he : EnvRel K w e a.tmps) (hb : bnd e d ob = some n) : Bd (ox.map a.eval) d n := by
  cases ox with
  | none =>
    simp [cOpt] at hx
    subst hx
    simp [bnd] at hb
    exact .inl ⟨rfl, hb.symm⟩
  | some x =>
    simp only [cOpt, Option.map_eq_some_iff] at hx
    obtain ⟨y, hy, rfl⟩ := hx
    simp only [bnd] at hb
    split at hb
    · rename_i kk m hev
      injection hb with hb
      subst hb
      have := ev_sound hy he hev
      refine .inr ⟨kk, ?_⟩
      rw [Option.map_some]
      generalize a.eval x = cx at this ⊢
      cases this
      rfl
    · cases hb

theorem run_sliceBounds2 {lo hi : Option Value} {len cap : Nat} {x y : Int} (isS : Bool) (h1 : Bd lo 0 x) (h2 : Bd hi len y) (h0 : 0 ≤ x) (hxy : x ≤ y) (hy : y ≤ cap) : (Instr.sliceBounds isS len cap lo hi none).run P w = .ok (x.toNat, y.toNat, cap) w := by
  have ey : (y.toNat : Int) = y := Int.toNat_of_nonneg (by omega)
  rcases h1 with ⟨rfl, rfl⟩ | ⟨k1, rfl⟩ <;> rcases h2 with ⟨rfl, rfl⟩ | ⟨k2, rfl⟩
  · simp [Instr.sliceBounds]
  · simp [Instr.sliceBounds, run_sliceBound _ _ _ _ _ (show 0 ≤ y by omega) hy]
  · simp [Instr.sliceBounds, run_sliceBound _ _ _ _ _ h0 hxy]
  · simp [Instr.sliceBounds, run_sliceBound _ _ _ _ _ (show 0 ≤ y by omega) hy, run_sliceBound _ _ _ _ _ h0 (show x ≤ (y.toNat : Int) by omega)]
theorem run_sliceBounds3 {lo : Option Value} {len cap : Nat} {x y z : Int} {k2 k3 : IntKind} (isS : Bool) (h1 : Bd lo 0 x) (h0 : 0 ≤ x) (hxy : x ≤ y) (hyz : y ≤ z) (hz : z ≤ cap) : (Instr.sliceBounds isS len cap lo (some (.int k2 y)) (some (.int k3 z))).run P w = .ok (x.toNat, y.toNat, z.toNat) w := by
  have ey : (y.toNat : Int) = y := Int.toNat_of_nonneg (by omega)
  have ez : (z.toNat : Int) = z := Int.toNat_of_nonneg (by omega)
  rcases h1 with ⟨rfl, rfl⟩ | ⟨k1, rfl⟩
  · simp [Instr.sliceBounds, run_sliceBound _ _ _ _ _ (show 0 ≤ z by omega) hz, run_sliceBound _ _ _ _ _ (show 0 ≤ y by omega) (show y ≤ (z.toNat : Int) by omega)]
  · simp [Instr.sliceBounds, run_sliceBound _ _ _ _ _ (show 0 ≤ z by omega) hz, run_sliceBound _ _ _ _ _ (show 0 ≤ y by omega) (show y ≤ (z.toNat : Int) by omega), run_sliceBound _ _ _ _ _ h0 (show x ≤ (y.toNat : Int) by omega)]

theorem run_sliceAt_of {t : TypeId} {d : TypeDesc} (ht : P.underlying t = some d) (hd : ∀ n e, d ≠ .array n e) (x : Value) (lo hi mx : Option Value) : (Instr.sliceAt t x lo hi mx).run P w = (Instr.slice t x lo hi mx).run P w := by
  simp only [Instr.sliceAt, Sem.run_bind, run_underlying ht, Result.andThen_ok]

theorem run_slice_bounds {t et : TypeId} {sz : Nat} (ht : P.underlying t = some (.slice et)) (hsz : tsize P et = some sz) (ad : Option Addr) (len cap : Nat) (lo hi mx : Option Value) {l hh m : Nat} (hb : (Instr.sliceBounds true len cap lo hi mx).run P w = .ok (l, hh, m) w) :
    (Instr.sliceAt t (.slice ad len cap) lo hi mx).run P w = .ok (.slice (if m = l then ad else ad.map (·.add (l * sz))) (hh - l) (m - l)) w := by
  rw [run_sliceAt_of ht (by simp)]
  simp [Instr.slice, run_underlying ht, hb, run_sizeOf' hsz]

theorem V_cut {hs : List HV} {tok' : Tok} {b of cap' sz : Nat} {vals : Nat → Value} {x y : Nat} (hw : ∀ h ∈ hs, h.cells.length = sz) (hleaf : ∀ h ∈ flat hs, h.leaf = true)
    (hv : ∀ (j : Nat) (h : HV), (flat hs)[j]? = some h → V K w h (vals j)) (hc : CellsAt w b of (flat hs).length vals) (hl : 0 < (flat hs).length → of + (flat hs).length ≤ K.lim b)
    (hxy : x ≤ y) (hy : y ≤ hs.length) (hcap : y - x ≤ cap') (ad : Nat) (had : ad = of + x * sz ∨ x = y)
    (ht : TokOk K w b ad (y - x) ((y - x) * sz) cap' tok') :
    V K w (.list ((hs.take y).drop x) tok') (.slice (some ⟨b, ad, none⟩) (y - x) cap') := by
  have hfl : flat ((hs.take y).drop x) = ((flat hs).take (y * sz)).drop (x * sz) := by
    rw [flat_drop x (fun z hz => hw z (List.mem_of_mem_take hz)), flat_take y hw]
  have hlen := flat_length hw
  have hyz : y * sz ≤ hs.length * sz := Nat.mul_le_mul_right _ hy
  have hxz : x * sz ≤ y * sz := Nat.mul_le_mul_right _ hxy
  have hfn : (flat ((hs.take y).drop x)).length = (y - x) * sz := by
    rw [hfl, List.length_drop, List.length_take, Nat.min_eq_left (by omega), Nat.sub_mul]
  have hn : ((hs.take y).drop x).length = y - x := by simp; omega
  have key : 0 < (y - x) * sz → ad = of + x * sz := by
    intro h0
    rcases had with had | had
    · exact had
    · subst had; simp at h0
  have := V.list (K := K) (w := w) ((hs.take y).drop x) tok' b ad cap' sz (fun j => vals (x * sz + j)) (fun z hz => hw z (mem_sub hz))
    (fun z hz => hleaf z (by rw [hfl] at hz; exact mem_sub hz))
    (fun j z hz => by
      rw [hfl, List.getElem?_drop, List.getElem?_take] at hz
      split at hz
      · exact hv _ z hz
      · cases hz)
    (fun j hj => by
      rw [hfn] at hj
      rw [key (by omega), Nat.add_assoc]
      exact hc (x * sz + j) (by rw [Nat.sub_mul] at hj; omega))
    (fun h0 => by
      rw [hfn] at h0 ⊢
      rw [key h0]
      have h1 : 0 < (flat hs).length := by rw [Nat.sub_mul] at h0; omega
      have := hl h1
      rw [Nat.sub_mul]; omega)
    (by rw [hn]; exact hcap) (by rw [hn, hfn]; exact ht)
  rwa [hn] at this

theorem ok_slice_str {t : TypeId} {x : Operand} {y : X} {lo hi : Option Operand} {lo' hi' : Option X} (ho : o.op = .slice t x lo hi none) (ht : P.underlying t = some .string) (hx : cX x = some y) (hlo : cOpt lo = some lo') (hhi : cOpt hi = some hi')
    {s : List UInt8} (hev : y.ev e = some (.str s)) {p q : Int} (hp : bnd e 0 lo' = some p) (hq : bnd e s.length hi' = some q) (h0 : 0 ≤ p ∧ p ≤ q ∧ q ≤ s.length) (hk : k (.str ((s.take q.toNat).drop p.toNat)) h) (hh : HeapRel K h w) (he : EnvRel K w e a.tmps) : Ok P o a K w k := by
  have hx' := ev_sound hx he hev
  generalize hcx : a.eval x = cx at hx'
  cases hx'
  have hb := run_sliceBounds2 (P := P) (w := w) (len := (ByteArray.mk s.toArray).size) (cap := (ByteArray.mk s.toArray).size) false (bnd_sound hlo he hp) (by rw [size_mk]; exact bnd_sound hhi he hq) h0.1 h0.2.1 (by rw [size_mk]; exact h0.2.2)
  refine Ok.pure (v := .string ⟨((s.take q.toNat).drop p.toNat).toArray⟩) ?_ hh (.str _) hk
  simp only [execOp, ho, hcx, Option.map_none, Sem.run_bind]
  rw [run_sliceAt_of ht (by simp)]
  simp only [Instr.slice, Sem.run_bind, run_underlying ht, Result.andThen_ok, Option.isSome_none, Bool.false_eq_true, if_false, Sem.run_pure, hb]
  congr 3
  ext1
  simp [ByteArray.data_extract]
  rw [List.drop_take]

theorem ok_slice_list {t et : TypeId} {sz : Nat} {x : Operand} {y : X} {lo hi : Option Operand} {lo' hi' : Option X} (ho : o.op = .slice t x lo hi none) (ht : P.underlying t = some (.slice et)) (hsz : tsize P et = some sz) (hx : cX x = some y) (hlo : cOpt lo = some lo') (hhi : cOpt hi = some hi')
    {hs : List HV} {tok : Tok} (hev : y.ev e = some (.list hs tok)) {p q : Int} (hp : bnd e 0 lo' = some p) (hq : bnd e hs.length hi' = some q) (h0 : 0 ≤ p ∧ p ≤ q ∧ q ≤ hs.length ∧ ∀ z ∈ hs, z.cells.length = sz)
    (hk : k (.list ((hs.take q.toNat).drop p.toNat) (cutTok hi'.isNone p.toNat tok)) h) (hh : HeapRel K h w) (he : EnvRel K w e a.tmps) : Ok P o a K w k := by
  obtain ⟨h0, hpq, hql, hwid⟩ := h0
  have hx' := ev_sound hx he hev
  generalize hcx : a.eval x = cx at hx'
  obtain ⟨p', rfl⟩ : ∃ p' : Nat, p = p' := ⟨p.toNat, by omega⟩
  obtain ⟨q', rfl⟩ : ∃ q' : Nat, q = q' := ⟨q.toNat, by omega⟩
  simp only [Int.toNat_natCast] at hk
  -- without an upper bound, q is the length
  have hnone : hi' = none → q' = hs.length := by
    intro e'
    subst e'
    simp [bnd] at hq
    omega
  cases hx' with
  | nil _ htn =>
    have hb := run_sliceBounds2 (P := P) (w := w) (len := 0) (cap := 0) true (bnd_sound hlo he hp) (bnd_sound hhi he hq) (by omega) hpq (by simpa using hql)
    have hq0 : q' = 0 := by simp at hql; omega
    have hp0 : p' = 0 := by omega
    subst hq0; subst hp0
    have hr := run_slice_bounds (P := P) (w := w) ht hsz none 0 0 _ _ none hb
    refine Ok.pure (v := .slice none 0 0) ?_ hh ?_ hk
    · simp only [execOp, ho, hcx, Option.map_none, Sem.run_bind, hr, Result.andThen_ok, Sem.run_pure]
      simp
    · simp only [List.take_nil, List.drop_nil]
      refine .nil _ ?_
      cases hi' <;> cases tok <;> first | trivial | exact htn
  | list0 _ htn ad =>
    have hb := run_sliceBounds2 (P := P) (w := w) (len := 0) (cap := 0) true (bnd_sound hlo he hp) (bnd_sound hhi he hq) (by omega) hpq (by simpa using hql)
    have hq0 : q' = 0 := by simp at hql; omega
    have hp0 : p' = 0 := by omega
    subst hq0; subst hp0
    have hr := run_slice_bounds (P := P) (w := w) ht hsz (some ad) 0 0 _ _ none hb
    refine Ok.pure (v := .slice (some ad) 0 0) ?_ hh ?_ hk
    · simp only [execOp, ho, hcx, Option.map_none, Sem.run_bind, hr, Result.andThen_ok, Sem.run_pure]
      simp
    · simp only [List.take_nil, List.drop_nil]
      refine .list0 _ ?_ ad
      cases hi' <;> cases tok <;> first | trivial | exact htn
  | list _ _ b of cap sz' vals hw hleaf hv hc hlim hcap htk =>
    have hb := run_sliceBounds2 (P := P) (w := w) (len := hs.length) (cap := cap) true (bnd_sound hlo he hp) (bnd_sound hhi he hq) (by omega) hpq (by omega)
    have hr := run_slice_bounds (P := P) (w := w) ht hsz (some ⟨b, of, none⟩) hs.length cap _ _ none hb
    simp only [Int.toNat_natCast] at hr
    have hV : ∀ ad : Nat, (ad = of + p' * sz ∨ p' = q') → TokOk K w b ad (q' - p') ((q' - p') * sz) (cap - p') (cutTok hi'.isNone p' tok) → V K w (.list ((hs.take q').drop p') (cutTok hi'.isNone p' tok)) (.slice (some ⟨b, ad, none⟩) (q' - p') (cap - p')) := fun ad had ht' =>
      V_cut hwid hleaf hv hc hlim (by omega) (by omega) (by omega) ad had ht'
    have hfl := flat_length hwid
    have htok : ∀ ad : Nat, (cap = p' ∨ ad = of + p' * sz) → TokOk K w b ad (q' - p') ((q' - p') * sz) (cap - p') (cutTok hi'.isNone p' tok) := by
      intro ad had
      cases hi' with
      | some hx1 => cases tok <;> trivial
      | none =>
      have hq2 := hnone rfl
      subst hq2
      cases tok with
      | none => trivial
      | full =>
        simp only [TokOk, cutTok, Option.isNone_none, if_true] at htk ⊢
        omega
      | own i o' z =>
        simp only [cutTok, Option.isNone_none, if_true]
        obtain ⟨t1, t2, t3⟩ := htk
        have hz : hs.length = 0 ∨ z = sz := by
          rcases Nat.eq_zero_or_pos hs.length with h | h
          · exact .inl h
          · right
            rw [hfl] at t2
            exact Nat.eq_of_mul_eq_mul_left h t2.symm
        have hz' : (hs.length - p') * sz = (hs.length - p') * z := by
          rcases hz with hz | hz
          · simp [hz]
          · rw [hz]
        refine ⟨by omega, hz', fun e' => ?_⟩
        rcases t3 (by omega) with t3 | ⟨t3, t4, t5⟩
        · left; omega
        · rcases had with had | had
          · left; omega
          · right
            refine ⟨t3, ?_, ?_⟩
            · rw [← t4, hfl, had, Nat.sub_mul]
              have : p' * sz ≤ hs.length * sz := Nat.mul_le_mul_right _ (by omega)
              omega
            · obtain ⟨c, et', fr, hb', hr'⟩ := t5
              refine ⟨c, et', fr, hb', ?_⟩
              rw [had]
              rcases hz with hz | hz
              · have : p' = 0 := by omega
                subst this
                simpa using hr'
              · rw [hz] at hr'
                have : p' * sz ≤ cap * sz := Nat.mul_le_mul_right _ (by omega)
                rw [hz, Nat.sub_mul]
                omega
    by_cases hcp : cap = p'
    · refine Ok.pure (v := .slice (some ⟨b, of, none⟩) (q' - p') (cap - p')) ?_ hh (hV of (.inr (by omega)) (htok of (.inl hcp))) hk
      simp only [execOp, ho, hcx, Option.map_none, Sem.run_bind, hr, Result.andThen_ok, Sem.run_pure, if_pos hcp]
    · refine Ok.pure (v := .slice (some ⟨b, of + p' * sz, none⟩) (q' - p') (cap - p')) ?_ hh (hV _ (.inl rfl) (htok _ (.inr rfl))) hk
      simp only [execOp, ho, hcx, Option.map_none, Sem.run_bind, hr, Result.andThen_ok, Sem.run_pure, if_neg hcp, Option.map_some, Addr.add_lit]

theorem ok_slice_list3 {t et : TypeId} {sz : Nat} {x m hi0 : Operand} {y m' hi' : X} {lo : Option Operand} {lo' : Option X} (ho : o.op = .slice t x lo (some hi0) (some m)) (ht : P.underlying t = some (.slice et)) (hsz : tsize P et = some sz) (hx : cX x = some y) (hlo : cOpt lo = some lo') (hhi : cX hi0 = some hi') (hm : cX m = some m')
    {hs : List HV} {tok : Tok} (hev : y.ev e = some (.list hs tok)) {p q c : Int} (hp : bnd e 0 lo' = some p) (hq : bnd e 0 (some hi') = some q) (hc3 : bnd e 0 (some m') = some c) (h0 : 0 ≤ p ∧ p ≤ q ∧ q = c ∧ c ≤ hs.length ∧ ∀ z ∈ hs, z.cells.length = sz)
    (hk : k (.list ((hs.take q.toNat).drop p.toNat) .full) h) (hh : HeapRel K h w) (he : EnvRel K w e a.tmps) : Ok P o a K w k := by
  obtain ⟨h0, hpq, rfl, hql, hwid⟩ := h0
  have hx' := ev_sound hx he hev
  generalize hcx : a.eval x = cx at hx'
  have hbq := bnd_sound (ox := some hi0) (ob := some hi') (a := a) (by simp [cOpt, hhi]) he hq
  have hbm := bnd_sound (ox := some m) (ob := some m') (a := a) (by simp [cOpt, hm]) he hc3
  obtain ⟨k2, hbq⟩ : ∃ k2, a.eval hi0 = .int k2 q := by rcases hbq with ⟨h, _⟩ | ⟨k2, h⟩ <;> simp at h; exact ⟨k2, h⟩
  obtain ⟨k3, hbm⟩ : ∃ k3, a.eval m = .int k3 q := by rcases hbm with ⟨h, _⟩ | ⟨k2, h⟩ <;> simp at h; exact ⟨k2, h⟩
  obtain ⟨p', rfl⟩ : ∃ p' : Nat, p = p' := ⟨p.toNat, by omega⟩
  obtain ⟨q', rfl⟩ : ∃ q' : Nat, q = q' := ⟨q.toNat, by omega⟩
  simp only [Int.toNat_natCast] at hk
  cases hx' with
  | nil _ htn =>
    have hb := run_sliceBounds3 (P := P) (w := w) (len := 0) (cap := 0) (k2 := k2) (k3 := k3) true (bnd_sound hlo he hp) (by omega) hpq (Int.le_refl _) (by simpa using hql)
    have hq0 : q' = 0 := by simp at hql; omega
    have hp0 : p' = 0 := by omega
    subst hq0; subst hp0
    have hr := run_slice_bounds (P := P) (w := w) ht hsz none 0 0 _ _ _ hb
    refine Ok.pure (v := .slice none 0 0) ?_ hh (by simp only [List.take_nil, List.drop_nil]; exact .nil _ trivial) hk
    simp only [execOp, ho, hcx, Option.map_some, hbq, hbm, Sem.run_bind, hr, Result.andThen_ok, Sem.run_pure]
    simp
  | list0 _ htn ad =>
    have hb := run_sliceBounds3 (P := P) (w := w) (len := 0) (cap := 0) (k2 := k2) (k3 := k3) true (bnd_sound hlo he hp) (by omega) hpq (Int.le_refl _) (by simpa using hql)
    have hq0 : q' = 0 := by simp at hql; omega
    have hp0 : p' = 0 := by omega
    subst hq0; subst hp0
    have hr := run_slice_bounds (P := P) (w := w) ht hsz (some ad) 0 0 _ _ _ hb
    refine Ok.pure (v := .slice (some ad) 0 0) ?_ hh (by simp only [List.take_nil, List.drop_nil]; exact .list0 .full trivial ad) hk
    simp only [execOp, ho, hcx, Option.map_some, hbq, hbm, Sem.run_bind, hr, Result.andThen_ok, Sem.run_pure]
    simp
  | list _ _ b of cap sz' vals hw hleaf hv hc hlim hcap htk =>
    have hb := run_sliceBounds3 (P := P) (w := w) (len := hs.length) (cap := cap) (k2 := k2) (k3 := k3) true (bnd_sound hlo he hp) (by omega) hpq (Int.le_refl _) (by omega)
    have hr := run_slice_bounds (P := P) (w := w) ht hsz (some ⟨b, of, none⟩) hs.length cap _ _ _ hb
    simp only [Int.toNat_natCast] at hr
    have hV : ∀ ad : Nat, (ad = of + p' * sz ∨ p' = q') → V K w (.list ((hs.take q').drop p') .full) (.slice (some ⟨b, ad, none⟩) (q' - p') (q' - p')) := fun ad had =>
      V_cut hwid hleaf hv hc hlim (by omega) (by omega) (by omega) ad had rfl
    by_cases hcp : q' = p'
    · refine Ok.pure (v := .slice (some ⟨b, of, none⟩) (q' - p') (q' - p')) ?_ hh (hV of (.inr hcp.symm)) hk
      simp only [execOp, ho, hcx, Option.map_some, hbq, hbm, Sem.run_bind, hr, Result.andThen_ok, Sem.run_pure, if_pos hcp]
    · refine Ok.pure (v := .slice (some ⟨b, of + p' * sz, none⟩) (q' - p') (q' - p')) ?_ hh (hV _ (.inl rfl)) hk
      simp only [execOp, ho, hcx, Option.map_some, hbq, hbm, Sem.run_bind, hr, Result.andThen_ok, Sem.run_pure, if_neg hcp, Addr.add_lit]

theorem ok_slice_arr {t et : TypeId} {sz : Nat} {x : Operand} {y : X} {lo hi : Option Operand} {lo' hi' : Option X} (ho : o.op = .slice t x lo hi none) (ht : P.underlying t = some (.slice et)) (hsz : tsize P et = some sz) (hx : cX x = some y) (hlo : cOpt lo = some lo') (hhi : cOpt hi = some hi')
    {id off n z : Nat} (hev : y.ev e = some (.arr id off n z)) {p q : Int} (hp : bnd e 0 lo' = some p) (hq : bnd e n hi' = some q) (h0 : z = sz ∧ 0 ≤ p ∧ p ≤ q ∧ q ≤ n)
    (hk : k (.arr id (off + p.toNat * sz) (q - p).toNat sz) h) (hh : HeapRel K h w) (he : EnvRel K w e a.tmps) : Ok P o a K w k := by
  obtain ⟨rfl, h0, hpq, hqn⟩ := h0
  have hx' := ev_sound hx he hev
  generalize hcx : a.eval x = cx at hx'
  obtain ⟨p', rfl⟩ : ∃ p' : Nat, p = p' := ⟨p.toNat, by omega⟩
  obtain ⟨q', rfl⟩ : ∃ q' : Nat, q = q' := ⟨q.toNat, by omega⟩
  have hqp : ((q' : Int) - (p' : Int)).toNat = q' - p' := by omega
  simp only [Int.toNat_natCast, hqp] at hk
  cases hx' with
  | arr _ _ _ _ b cap off' hr hcap hoff hroom =>
    have hb := run_sliceBounds2 (P := P) (w := w) (len := n) (cap := cap) true (bnd_sound hlo he hp) (bnd_sound hhi he hq) (by omega) hpq (by omega)
    have hrun := run_slice_bounds (P := P) (w := w) ht hsz (some ⟨b, off', none⟩) n cap _ _ none hb
    simp only [Int.toNat_natCast] at hrun
    by_cases hcp : cap = p'
    · refine Ok.pure (v := .slice (some ⟨b, off', none⟩) (q' - p') (cap - p')) ?_ hh (.arr id _ _ z b _ off' hr (by omega) (by omega) ?_) hk
      · simp only [execOp, ho, hcx, Option.map_none, Sem.run_bind, hrun, Result.andThen_ok, Sem.run_pure, if_pos hcp]
      · obtain ⟨c, et', fr, hb', hr'⟩ := hroom
        exact ⟨c, et', fr, hb', by rw [hcp]; simp; omega⟩
    · refine Ok.pure (v := .slice (some ⟨b, off' + p' * z, none⟩) (q' - p') (cap - p')) ?_ hh (.arr id _ _ z b _ _ hr (by omega) (fun h1 => by rw [hoff (by omega)]) ?_) hk
      · simp only [execOp, ho, hcx, Option.map_none, Sem.run_bind, hrun, Result.andThen_ok, Sem.run_pure, if_neg hcp, Option.map_some, Addr.add_lit]
      · obtain ⟨c, et', fr, hb', hr'⟩ := hroom
        refine ⟨c, et', fr, hb', ?_⟩
        have : p' * z ≤ cap * z := Nat.mul_le_mul_right _ (by omega)
        rw [Nat.sub_mul]; omega
  | arrn _ _ _ =>
    obtain rfl : p' = 0 := by omega
    obtain rfl : q' = 0 := by omega
    have hb := run_sliceBounds2 (P := P) (w := w) (len := 0) (cap := 0) true (bnd_sound hlo he hp) (bnd_sound hhi he hq) (by omega) hpq (by omega)
    have hrun := run_slice_bounds (P := P) (w := w) ht hsz none 0 0 _ _ none hb
    simp only [Int.toNat_natCast] at hrun
    refine Ok.pure (v := .slice none 0 0) ?_ hh (.arrn _ _ _) hk
    simp only [execOp, ho, hcx, Option.map_none, Sem.run_bind, hrun, Result.andThen_ok, Sem.run_pure]
    simp
  | arr0 _ _ _ ad =>
    obtain rfl : p' = 0 := by omega
    obtain rfl : q' = 0 := by omega
    have hb := run_sliceBounds2 (P := P) (w := w) (len := 0) (cap := 0) true (bnd_sound hlo he hp) (bnd_sound hhi he hq) (by omega) hpq (by omega)
    have hrun := run_slice_bounds (P := P) (w := w) ht hsz (some ad) 0 0 _ _ none hb
    simp only [Int.toNat_natCast] at hrun
    refine Ok.pure (v := .slice (some ad) 0 0) ?_ hh (.arr0 _ _ _ _) hk
    simp only [execOp, ho, hcx, Option.map_none, Sem.run_bind, hrun, Result.andThen_ok, Sem.run_pure]
    simp

theorem ok_slicearr {t et : TypeId} {sz m : Nat} {x : Operand} {y : X} {lo hi : Option Operand} {lo' hi' : Option X} (ho : o.op = .slice t x lo hi none) (ht : P.underlying t = some (.array m et)) (hsz : tsize P et = some sz) (hx : cX x = some y) (hlo : cOpt lo = some lo') (hhi : cOpt hi = some hi')
    (hs : hstep base (.slicearr m sz y lo' hi') e h k) (hh : HeapRel K h w) (he : EnvRel K w e a.tmps) : Ok P o a K w k := by
  simp only [hstep] at hs
  split at hs
  · rename_i id off hev
    split at hs
    · rename_i p q cs hp hq hcs
      obtain ⟨⟨h0, hpq, hqn, hlen⟩, hk⟩ := hs
      have hx' := ev_sound hx he hev
      generalize hcx : a.eval x = cx at hx'
      obtain ⟨p', rfl⟩ : ∃ p' : Nat, p = p' := ⟨p.toNat, by omega⟩
      obtain ⟨q', rfl⟩ : ∃ q' : Nat, q = q' := ⟨q.toNat, by omega⟩
      have hqp : ((q' : Int) - (p' : Int)).toNat = q' - p' := by omega
      simp only [Int.toNat_natCast, hqp] at hk
      cases hx' with
      | ptr _ _ b hr =>
        obtain ⟨c, et', fr, hb', hlen', _, hvs⟩ := heap_cells hh hr hcs
        have hb := run_sliceBounds2 (P := P) (w := w) (len := m) (cap := m) false (bnd_sound hlo he hp) (bnd_sound hhi he hq) (by omega) hpq (by omega)
        simp only [Int.toNat_natCast] at hb
        have hrun : (Instr.sliceAt t (.pointer (some ⟨b, off, none⟩)) (lo.map a.eval) (hi.map a.eval) none).run P w = .ok (.slice (some (if m = p' then ⟨b, off, none⟩ else ⟨b, off + p' * sz, none⟩)) (q' - p') (m - p')) w := by
          simp only [Instr.sliceAt, Sem.run_bind, run_underlying ht, Result.andThen_ok, Instr.sureAddr, Sem.run_pure, hb, run_sizeOf' hsz, Addr.add_lit]
        have hmz : p' * sz ≤ m * sz := Nat.mul_le_mul_right _ (by omega)
        by_cases hcp : m = p'
        · rw [if_pos hcp] at hrun
          refine Ok.pure (v := .slice (some ⟨b, off, none⟩) (q' - p') (m - p')) ?_ hh (.arr id _ _ sz b _ off hr (by omega) (by omega) ⟨c, et', fr, hb', by rw [hcp]; simp; omega⟩) hk
          simp only [execOp, ho, hcx, Option.map_none, Sem.run_bind, hrun, Result.andThen_ok, Sem.run_pure]
        · rw [if_neg hcp] at hrun
          refine Ok.pure (v := .slice (some ⟨b, off + p' * sz, none⟩) (q' - p') (m - p')) ?_ hh (.arr id _ _ sz b _ _ hr (by omega) (fun _ => rfl) ⟨c, et', fr, hb', by rw [Nat.sub_mul]; omega⟩) hk
          simp only [execOp, ho, hcx, Option.map_none, Sem.run_bind, hrun, Result.andThen_ok, Sem.run_pure]
    · exact hs.elim
  · exact hs.elim

end
end Go.Hw

set_option linter.unusedVariables false
set_option linter.unusedSimpArgs false
namespace Go.Hw
open Go

variable {P : Program}
section
variable {o : Oper} {a : Act} {K : GK} {w : World} {k : HV → Heap → Prop} {e : Env} {h : Heap} (base : Nat)

theorem ok_faddr {t : TypeId} {fs : Array Field} {f : Field} {i n : Nat} {x : Operand} {y : X} (ho : o.op = .fieldAddr t x i) (ht : P.underlying t = some (.struct fs)) (hf : fs[i]? = some f) (hn : tsize P f.type = some n) (hn0 : n ≠ 0) (hx : cX x = some y)
    (hs : hstep base (.faddr f.offset n y) e h k) (hh : HeapRel K h w) (he : EnvRel K w e a.tmps) : Ok P o a K w k := by
  have hrun : ∀ ad : Addr, (Instr.fieldAt t (.pointer (some ad)) i).run P w = .ok (.pointer (some (ad.add f.offset))) w := by
    intro ad
    simp [Instr.fieldAt, run_underlying ht, hf, Instr.sureAddr, fieldPlace, run_sizeOf' hn, hn0]
  simp only [hstep] at hs
  split at hs
  · rename_i id off hev
    have hx' := ev_sound hx he hev
    generalize hcx : a.eval x = cx at hx'
    cases hx' with
    | ptr _ _ b hr => exact Ok.pure (v := .pointer (some ⟨b, off + f.offset, none⟩)) (by simp [execOp, ho, hcx, hrun, Addr.add_lit]) hh (.ptr _ _ b hr) hs
  · rename_i cs hev
    have hx' := ev_sound hx he hev
    generalize hcx : a.eval x = cx at hx'
    cases hx' with
    | rptr _ b of vals hleaf hv hc hl =>
      refine Ok.pure (v := .pointer (some ⟨b, of + f.offset, none⟩)) (by simp [execOp, ho, hcx, hrun, Addr.add_lit]) hh
        (.rptr _ b _ (fun j => vals (f.offset + j)) (fun z hz => hleaf z (List.mem_of_mem_drop hz)) (fun j z hz => by rw [List.getElem?_drop] at hz; exact hv _ z hz)
          (fun j hj => by rw [Nat.add_assoc]; exact hc _ (by simp at hj; omega)) (fun h0 => by simp at h0 ⊢; have := hl (by omega); omega)) hs.2
  · exact hs.elim

theorem run_part {t : TypeId} {n : Option Nat} (ht : tagg P t = some n) {cs : List HV} {vs : Array Value} {off : Nat} {x : HV} (hn : cs.length = vs.size) (hleaf : ∀ z ∈ cs, z.leaf = true) (hv : ∀ (j : Nat) (z : HV) (v : Value), cs[j]? = some z → vs[j]? = some v → V K w z v)
    (hx : atCells n (cs.drop off) = some x) : ∃ v, (part t vs off).run P w = .ok v w ∧ V K w x v := by
  cases n with
  | none =>
    obtain ⟨d, hd, hn'⟩ := tagg_none ht
    simp only [atCells] at hx
    rw [List.head?_eq_getElem?, List.getElem?_drop] at hx
    simp only [Nat.add_zero] at hx
    have hlt := lt_of_get hx
    obtain ⟨v, hvv⟩ : ∃ v, vs[off]? = some v := ⟨vs[off], by simp [show off < vs.size by omega]⟩
    refine ⟨v, ?_, hv off x v hx hvv⟩
    simp only [part, Sem.run_bind, run_isAgg hd, hn', Result.andThen_ok]
    simp [hvv]
  | some m =>
    obtain ⟨d, hd, hn', hsz⟩ := tagg_some ht
    simp only [atCells] at hx
    split at hx
    · rename_i hm
      injection hx with hx
      subst hx
      simp only [List.length_drop] at hm
      refine ⟨.agg (vs.extract off (off + m)), ?_, V.ofAgg _ _ (by simp; omega) (fun z hz => hleaf z (List.mem_of_mem_drop (List.mem_of_mem_take hz))) (fun j z v hz hvz => ?_)⟩
      · simp only [part, Sem.run_bind, run_isAgg hd, hn', Result.andThen_ok, if_true, run_sizeOf' hsz, Sem.run_pure]
      · rw [List.getElem?_take] at hz
        split at hz
        · rw [List.getElem?_drop] at hz
          refine hv _ z v hz ?_
          rw [Array.getElem?_extract] at hvz
          split at hvz
          · exact hvz
          · cases hvz
        · cases hz
    · cases hx

theorem ok_field {t : TypeId} {fs : Array Field} {f : Field} {i : Nat} {n : Option Nat} {x : Operand} {y : X} (ho : o.op = .field t x i) (ht : P.underlying t = some (.struct fs)) (hf : fs[i]? = some f) (hn : tagg P f.type = some n) (hx : cX x = some y)
    (hs : hstep base (.field f.offset n y) e h k) (hh : HeapRel K h w) (he : EnvRel K w e a.tmps) : Ok P o a K w k := by
  simp only [hstep] at hs
  split at hs
  · rename_i cs hev
    split at hs
    · rename_i v hat
      have hx' := ev_sound hx he hev
      generalize hcx : a.eval x = cx at hx'
      cases hx' with
      | agg _ vs hl hleaf hv =>
        obtain ⟨u, hr, hV⟩ := run_part (P := P) (K := K) (w := w) hn (vs := vs.toArray) (by simpa using hl) hleaf (fun j z v hz hvz => hv j z v hz (by simpa using hvz)) hat
        exact Ok.pure (v := u) (by simp [execOp, ho, hcx, Instr.field, run_underlying ht, hf, asAgg, hr]) hh hV hs
    · exact hs.elim
  · exact hs.elim

theorem ok_iaddr {t et : TypeId} {sz : Nat} {x i : Operand} {y j : X} (ho : o.op = .indexAddr t x i) (ht : P.underlying t = some (.slice et)) (hsz : tsize P et = some sz) (hx : cX x = some y) (hi : cX i = some j)
    (hs : hstep base (.iaddr sz y j) e h k) (hh : HeapRel K h w) (he : EnvRel K w e a.tmps) : Ok P o a K w k := by
  have hrun : ∀ (ad : Addr) (len cap : Nat) (kk : IntKind) (n : Int), 0 ≤ n → n < len → (Instr.indexAt t (.slice (some ad) len cap) (.int kk n)).run P w = .ok (.pointer (some (ad.add (n.toNat * sz)))) w := by
    intro ad len cap kk n h0 h1
    simp [Instr.indexAt, asIntOf, run_underlying ht, h0, h1, run_sizeOf' hsz]
  simp only [hstep] at hs
  split at hs
  · rename_i hl tok kk n h1 h2
    obtain ⟨⟨hn0, hn1⟩, hs⟩ := hs
    split at hs
    · rename_i v hv
      have hx' := ev_sound hx he h1
      have hi' := ev_sound hi he h2
      generalize hcx : a.eval x = cx at hx'
      generalize hci : a.eval i = ci at hi'
      cases hi'
      cases hx' with
      | nil _ _ => simp at hn1; omega
      | list0 _ _ ad => simp at hn1; omega
      | list _ _ b of cap sz' vals hw hleaf hvv hc hlim hcap htk =>
        have hsz' : sz' = sz := by rw [← hw v (List.mem_of_getElem? hv)]; exact hs.1
        subst hsz'
        have hfl := flat_length hw
        have hlt : n.toNat < hl.length := by omega
        have hle : n.toNat * sz' + sz' ≤ hl.length * sz' := by
          have := Nat.mul_le_mul_right sz' (show n.toNat + 1 ≤ hl.length by omega)
          rw [Nat.add_mul] at this; omega
        refine Ok.pure (v := .pointer (some ⟨b, of + n.toNat * sz', none⟩)) (by simp [execOp, ho, hcx, hci, hrun _ _ _ _ _ hn0 hn1, Addr.add_lit]) hh
          (.rptr _ b _ (fun q => vals (n.toNat * sz' + q)) (fun z hz => ?_) (fun q z hz => ?_) (fun q hq => ?_) (fun h0 => ?_)) hs.2
        · obtain ⟨q, hq⟩ := mem_get hz
          refine hleaf z (List.mem_of_getElem? (i := n.toNat * sz' + q) ?_)
          rw [flat_at hw hv q (by rw [← hs.1]; exact lt_of_get hq)]; exact hq
        · refine hvv _ z ?_
          rw [flat_at hw hv q (by rw [← hs.1]; exact lt_of_get hz)]; exact hz
        · rw [Nat.add_assoc]; exact hc _ (by rw [hs.1] at hq; omega)
        · rw [hs.1] at h0 ⊢
          have := hlim (by omega)
          omega
    · exact hs.elim
  · rename_i id off m z kk n h1 h2
    obtain ⟨⟨hn0, hn1, rfl⟩, hs⟩ := hs
    have hx' := ev_sound hx he h1
    have hi' := ev_sound hi he h2
    generalize hcx : a.eval x = cx at hx'
    generalize hci : a.eval i = ci at hi'
    cases hi'
    cases hx' with
    | arr _ _ _ _ b cap off' hr hcap hoff hroom =>
      have := hoff (by omega)
      subst this
      exact Ok.pure (v := .pointer (some ⟨b, off' + n.toNat * z, none⟩)) (by simp [execOp, ho, hcx, hci, hrun _ _ _ _ _ hn0 hn1, Addr.add_lit]) hh (.ptr _ _ b hr) hs
    | arrn _ _ _ => omega
    | arr0 _ _ _ ad => omega
  · exact hs.elim

theorem ok_iaddrarr {t et : TypeId} {sz m : Nat} {x i : Operand} {y j : X} (ho : o.op = .indexAddr t x i) (ht : P.underlying t = some (.array m et)) (hsz : tsize P et = some sz) (hx : cX x = some y) (hi : cX i = some j)
    (hs : hstep base (.iaddrarr m sz y j) e h k) (hh : HeapRel K h w) (he : EnvRel K w e a.tmps) : Ok P o a K w k := by
  have hrun : ∀ (ad : Addr) (kk : IntKind) (n : Int), 0 ≤ n → n < m → (Instr.indexAt t (.pointer (some ad)) (.int kk n)).run P w = .ok (.pointer (some (ad.add (n.toNat * sz)))) w := by
    intro ad kk n h0 h1
    simp [Instr.indexAt, asIntOf, run_underlying ht, h0, h1, run_sizeOf' hsz, Instr.sureAddr]
  simp only [hstep] at hs
  split at hs
  · rename_i id off kk n h1 h2
    obtain ⟨⟨hn0, hn1⟩, hs⟩ := hs
    have hx' := ev_sound hx he h1
    have hi' := ev_sound hi he h2
    generalize hcx : a.eval x = cx at hx'
    generalize hci : a.eval i = ci at hi'
    cases hi'
    cases hx' with
    | ptr _ _ b hr => exact Ok.pure (v := .pointer (some ⟨b, off + n.toNat * sz, none⟩)) (by simp [execOp, ho, hcx, hci, hrun _ _ _ hn0 hn1, Addr.add_lit]) hh (.ptr _ _ b hr) hs
  · rename_i cs kk n h1 h2
    obtain ⟨⟨hn0, hn1, hn2⟩, hs⟩ := hs
    have hx' := ev_sound hx he h1
    have hi' := ev_sound hi he h2
    generalize hcx : a.eval x = cx at hx'
    generalize hci : a.eval i = ci at hi'
    cases hi'
    cases hx' with
    | rptr _ b of vals hleaf hv hc hl =>
      exact Ok.pure (v := .pointer (some ⟨b, of + n.toNat * sz, none⟩)) (by simp [execOp, ho, hcx, hci, hrun _ _ _ hn0 hn1, Addr.add_lit]) hh
        (.rptr _ b _ (fun q => vals (n.toNat * sz + q)) (fun z hz => hleaf z (List.mem_of_mem_drop hz)) (fun q z hz => by rw [List.getElem?_drop] at hz; exact hv _ z hz)
          (fun q hq => by rw [Nat.add_assoc]; exact hc _ (by simp at hq; omega)) (fun h0 => by simp at h0 ⊢; have := hl (by omega); omega)) hs
  · exact hs.elim

theorem ok_index {t : TypeId} {x i : Operand} {y j : X} (ho : o.op = .index t x i) (ht : P.underlying t = some .string) (hx : cX x = some y) (hi : cX i = some j)
    (hs : hstep base (.index y j) e h k) (hh : HeapRel K h w) (he : EnvRel K w e a.tmps) : Ok P o a K w k := by
  simp only [hstep] at hs
  split at hs
  · rename_i s kk n h1 h2
    obtain ⟨⟨hn0, hn1⟩, hs⟩ := hs
    have hx' := ev_sound hx he h1
    have hi' := ev_sound hi he h2
    generalize hcx : a.eval x = cx at hx'
    generalize hci : a.eval i = ci at hi'
    cases hi'
    cases hx'
    have hlt : n.toNat < s.length := by omega
    have hget : (ByteArray.mk s.toArray)[n.toNat]? = some (s.getD n.toNat 0) := by
      rw [getElem?_pos (ByteArray.mk s.toArray) n.toNat (by rw [size_mk]; exact hlt)]
      simp [ByteArray.getElem_eq_getElem_data, List.getD_eq_getElem?_getD, hlt]
    exact Ok.pure (v := .int .u8 (s.getD n.toNat 0).toNat) (by simp [execOp, ho, hcx, hci, Instr.index, asIntOf, run_underlying ht, hn0, hget]) hh (.int _ _) hs
  · exact hs.elim

theorem ok_indexarr {t et : TypeId} {sz m : Nat} {n : Option Nat} {x i : Operand} {y j : X} (ho : o.op = .index t x i) (ht : P.underlying t = some (.array m et)) (hsz : tsize P et = some sz) (hag : tagg P et = some n) (hx : cX x = some y) (hi : cX i = some j)
    (hs : hstep base (.indexarr m sz n.isSome y j) e h k) (hh : HeapRel K h w) (he : EnvRel K w e a.tmps) : Ok P o a K w k := by
  have hn' : (if n.isSome = true then some sz else none) = n := by
    cases n with
    | none => rfl
    | some q =>
      obtain ⟨_, _, _, h⟩ := tagg_some hag
      rw [hsz] at h
      injection h with h
      subst h; rfl
  simp only [hstep, hn'] at hs
  split at hs
  · rename_i cs kk q h1 h2
    obtain ⟨⟨hn0, hn1⟩, hs⟩ := hs
    split at hs
    · rename_i v hat
      have hx' := ev_sound hx he h1
      have hi' := ev_sound hi he h2
      generalize hcx : a.eval x = cx at hx'
      generalize hci : a.eval i = ci at hi'
      cases hi'
      cases hx' with
      | agg _ vs hl hleaf hv =>
        obtain ⟨u, hr, hV⟩ := run_part (P := P) (K := K) (w := w) hag (vs := vs.toArray) (by simpa using hl) hleaf (fun j z v hz hvz => hv j z v hz (by simpa using hvz)) hat
        exact Ok.pure (v := u) (by simp [execOp, ho, hcx, hci, Instr.index, asIntOf, run_underlying ht, hn0, hn1, run_sizeOf' hsz, hr]) hh hV hs
    · exact hs.elim
  · exact hs.elim

theorem run_builtin {b : Builtin} {args : Array Operand} {ts : Array TypeId} (ho : o.op = .call { callee := .builtin b, args, argTypes := ts }) : ∃ cs, (execOp a.eval o).run P w = (builtin b ts o.type cs (args.map a.eval)).run P w := by
  refine ⟨args.map fun | .const _ => true | _ => false, ?_⟩
  simp only [execOp, ho, resolve, Sem.run_bind, Sem.run_pure, Result.andThen_ok, invoke]
  rfl

theorem ok_len_str {ts : Array TypeId} {t0 : TypeId} {x : Operand} {y : X} (ho : o.op = .call { callee := .builtin .len, args := #[x], argTypes := ts }) (h0 : ts[0]? = some t0) (ht : P.underlying t0 = some .string) (hx : cX x = some y)
    (hs : hstep base (.len true y) e h k) (hh : HeapRel K h w) (he : EnvRel K w e a.tmps) : Ok P o a K w k := by
  obtain ⟨cs, hr⟩ := run_builtin (P := P) (w := w) (a := a) ho
  simp only [hstep] at hs
  cases hev : y.ev e with
  | none => rw [hev] at hs; exact hs.elim
  | some z =>
  rw [hev] at hs
  cases z <;> try exact hs.elim
  rename_i s
  have hx' := ev_sound hx he hev
  generalize hcx : a.eval x = cx at hx'
  cases hx'
  exact Ok.pure (v := .int .i64 s.length) (by rw [hr]; simp [builtin, Builtin.len_, h0, hcx, run_underlying ht, goInt, size_mk]) hh (.int _ _) hs
theorem ok_len_list {ts : Array TypeId} {t0 et : TypeId} {x : Operand} {y : X} (ho : o.op = .call { callee := .builtin .len, args := #[x], argTypes := ts }) (h0 : ts[0]? = some t0) (ht : P.underlying t0 = some (.slice et)) (hx : cX x = some y)
    (hs : hstep base (.len false y) e h k) (hh : HeapRel K h w) (he : EnvRel K w e a.tmps) : Ok P o a K w k := by
  obtain ⟨cs, hr⟩ := run_builtin (P := P) (w := w) (a := a) ho
  simp only [hstep] at hs
  cases hev : y.ev e with
  | none => rw [hev] at hs; exact hs.elim
  | some z =>
  rw [hev] at hs
  cases z <;> try exact hs.elim
  · rename_i l tok
    have hx' := ev_sound hx he hev
    generalize hcx : a.eval x = cx at hx'
    cases hx' with
    | list0 _ _ ad => exact Ok.pure (v := .int .i64 0) (by rw [hr]; simp [builtin, Builtin.len_, h0, hcx, run_underlying ht, goInt]) hh (.int _ _) hs
    | nil _ _ => exact Ok.pure (v := .int .i64 0) (by rw [hr]; simp [builtin, Builtin.len_, h0, hcx, run_underlying ht, goInt]) hh (.int _ _) hs
    | list _ _ b of cap sz' vals hw hleaf hvv hc hlim hcap htk => exact Ok.pure (v := .int .i64 l.length) (by rw [hr]; simp [builtin, Builtin.len_, h0, hcx, run_underlying ht, goInt]) hh (.int _ _) hs
  · rename_i id off n z
    have hx' := ev_sound hx he hev
    generalize hcx : a.eval x = cx at hx'
    cases hx' with
    | arr _ _ _ _ b cap off' hr' hcap hoff hroom => exact Ok.pure (v := .int .i64 n) (by rw [hr]; simp [builtin, Builtin.len_, h0, hcx, run_underlying ht, goInt]) hh (.int _ _) hs
    | arrn _ _ _ => exact Ok.pure (v := .int .i64 0) (by rw [hr]; simp [builtin, Builtin.len_, h0, hcx, run_underlying ht, goInt]) hh (.int _ _) hs
    | arr0 _ _ _ ad => exact Ok.pure (v := .int .i64 0) (by rw [hr]; simp [builtin, Builtin.len_, h0, hcx, run_underlying ht, goInt]) hh (.int _ _) hs

theorem ok_lenc {ts : Array TypeId} {t0 : TypeId} {x : Operand} {n : Nat} (ho : o.op = .call { callee := .builtin .len, args := #[x], argTypes := ts }) (h0 : ts[0]? = some t0) (ht : (∃ et, P.underlying t0 = some (.array n et)) ∨ ∃ ar et, P.underlying t0 = some (.pointer ar) ∧ P.underlying ar = some (.array n et))
    (hs : hstep base (.lenc n) e h k) (hh : HeapRel K h w) (he : EnvRel K w e a.tmps) : Ok P o a K w k := by
  obtain ⟨cs, hr⟩ := run_builtin (P := P) (w := w) (a := a) ho
  refine Ok.pure (v := .int .i64 n) ?_ hh (.int _ _) hs
  rw [hr]
  rcases ht with ⟨et, ht⟩ | ⟨ar, et, ht, ht2⟩
  · simp [builtin, Builtin.len_, h0, run_underlying ht, goInt]
  · simp [builtin, Builtin.len_, h0, run_underlying ht, run_underlying ht2, goInt]

theorem run_minmax {f : Value → Value → Sem Value} {g : Int → Int → Int} (hf : ∀ kk x y, f (.int kk x) (.int kk y) = pure (.int kk (g x y))) (i : IntKind) : ∀ (r : List HV) (us : List Value) (x : Int), r.length = us.length → (∀ v ∈ r, ∃ b, v = .int i b) → (∀ (j : Nat) (v : HV) (u : Value), r[j]? = some v → us[j]? = some u → V K w v u) →
    (us.foldlM f (.int i x)).run P w = .ok (.int i (foldInt g x r)) w
  | [], [], x, _, _, _ => by simp [foldInt]
  | v :: r, u :: us, x, hl, hk, hv => by
    obtain ⟨b, rfl⟩ := hk v List.mem_cons_self
    have := hv 0 _ u rfl rfl
    cases this
    rw [List.foldlM_cons, hf]
    simp only [Sem.run_bind, Sem.run_pure, Result.andThen_ok, foldInt, List.foldl_cons]
    exact run_minmax hf i r us _ (by simpa using hl) (fun v hv' => hk v (List.mem_cons_of_mem _ hv')) (fun j v u h1 h2 => hv (j + 1) v u h1 h2)
  | [], _ :: _, _, hl, _, _ => by simp at hl
  | _ :: _, [], _, hl, _, _ => by simp at hl

theorem ok_minmax {isMax : Bool} {ts : Array TypeId} {xs : Array Operand} {ys : List X} (ho : o.op = .call { callee := .builtin (if isMax then .max else .min), args := xs, argTypes := ts }) (hx : xs.toList.mapM cX = some ys)
    (hs : hstep base (if isMax then .max ys else .min ys) e h k) (hh : HeapRel K h w) (he : EnvRel K w e a.tmps) : Ok P o a K w k := by
  have key : ∀ {i : IntKind} {x : Int} {r : List HV}, evs e ys = some (.int i x :: r) → (∀ v ∈ r, ∃ b, v = .int i b) → ∀ (f : Value → Value → Sem Value) (g : Int → Int → Int), (∀ kk x y, f (.int kk x) (.int kk y) = pure (.int kk (g x y))) →
      ∃ u us, xs.toList.map a.eval = u :: us ∧ u = .int i x ∧ (us.foldlM f u).run P w = .ok (.int i (foldInt g x r)) w := by
    intro i x r hev hk f g hf
    obtain ⟨h1, h2⟩ := evs_sound he hx hev
    cases hxs : xs.toList with
    | nil => rw [hxs] at h1; simp at h1
    | cons z zs =>
      rw [hxs] at h1 h2
      have h0 := h2 0 _ z rfl rfl
      generalize hu : a.eval z = u at h0
      cases h0
      refine ⟨.int i x, zs.map a.eval, by simp [hu], rfl, run_minmax (K := K) (w := w) hf i r (zs.map a.eval) x (by simp at h1; simpa using h1) hk (fun j v u hv hu => ?_)⟩
      simp only [List.getElem?_map, Option.map_eq_some_iff] at hu
      obtain ⟨q, hq, rfl⟩ := hu
      exact h2 (j + 1) v q hv hq
  cases isMax with
  | false =>
    simp only [hstep, Bool.false_eq_true, if_false] at hs ho
    obtain ⟨cs, hr⟩ := run_builtin (P := P) (w := w) (a := a) ho
    split at hs
    · rename_i i x r hev
      obtain ⟨u, us, h3, h4, h5⟩ := key hev hs.1 Builtin.min2 minInt (fun kk x y => rfl)
      refine Ok.pure (v := .int i _) ?_ hh (.int _ _) hs.2
      rw [hr]
      subst h4
      simp [builtin, Builtin.min_, h3, h5]
    · exact hs.elim
  | true =>
    simp only [hstep, if_true] at hs ho
    obtain ⟨cs, hr⟩ := run_builtin (P := P) (w := w) (a := a) ho
    split at hs
    · rename_i i x r hev
      obtain ⟨u, us, h3, h4, h5⟩ := key hev hs.1 Builtin.max2 maxInt (fun kk x y => rfl)
      refine Ok.pure (v := .int i _) ?_ hh (.int _ _) hs.2
      rw [hr]
      subst h4
      simp [builtin, Builtin.max_, h3, h5]
    · exact hs.elim
end
end Go.Hw

set_option linter.unusedVariables false
set_option linter.unusedSimpArgs false
namespace Go.Hw
open Go

variable {P : Program}

theorem ObjOk.keep {K K' : GK} {w w' : World} (s : Step K w K' w') {b : Nat} (hb : w'.heap[b]? = w.heap[b]?) : ∀ {o : HObj}, ObjOk K w b o → ObjOk K' w' b o
  | .cells cs, ⟨c, e, fr, h1, h2, h3, h4⟩ => ⟨c, e, fr, hb.trans h1, h2, h3, fun j x hx => let ⟨l, v, hv, hV⟩ := h4 j x hx; ⟨l, v, hv, hV.step s⟩⟩
  | .map es cl, ⟨ms, h1, h2, h5⟩ => ⟨ms, hb.trans h1, h2, fun j n x y hx => let ⟨m, hm, hn, t1, t2, hk, hv⟩ := h5 j n x y hx; ⟨m, hm, hn, t1, t2, hk.step s, hv.step s⟩⟩
  | .iter none since seen last, h => hb.trans h
  | .iter (some i) since seen last, ⟨b', h1, h2⟩ => ⟨b', s.rho _ _ h1, hb.trans h2⟩
  | .siter t pos, h => hb.trans h
  | .bld T none n cap, ⟨h1, h2, h3⟩ => ⟨h1, h2, h3.keep hb⟩
  | .bld T (some j) n cap, ⟨g, h1, h2⟩ => ⟨g, s.rho _ _ h1, h2.keep hb⟩
  | .brow U cap l, ⟨c, h1, h2⟩ => ⟨c, hb.trans h1, h2⟩
  | .dead, _ => trivial
  | .tok _, h => h.elim
  | .res, h => h.elim

theorem step_push {K K' : GK} {w w' : World} {h : Heap} {ob : Obj} (hh : HeapRel K h w) (hheap : w'.heap = w.heap.push ob) (hos : w'.os = w.os) (htape : TapeOk w w') (hout : w'.output = w.output)
    (hlim : ∀ b, b ≠ w.heap.size → K'.lim b = K.lim b) (hrho : ∀ id b, K.rho id = some b → K'.rho id = some b) (hrho' : ∀ id b, K'.rho id = some b → K.rho id = some b ∨ b = w.heap.size)
    (hwm : ∀ k, K.wm k ≤ K'.wm k) (htok : ∀ k, K'.wm k = K.wm k → K'.tb k = K.tb k) (htb : ∀ k b, K'.tb k = some b → K.tb k = some b ∨ b = w.heap.size) : Step K w K' w' := by
  have hold : ∀ b, b < w.heap.size → w'.heap[b]? = w.heap[b]? := fun b hb => by rw [hheap, Array.getElem?_push, if_neg (by omega)]
  refine ⟨hos, htape, hout, by rw [hheap]; simp, fun b => ?_, hwm, fun k hk => ⟨htok k hk, fun b hb => hlim b (by have := (hh.tok k b hb).1; omega)⟩, hrho, fun b i v hi hc => ?_, fun b n hr => ?_, fun b hb ho => ?_, fun b hb ho => ⟨hold b hb, hlim b (by omega)⟩⟩
  · by_cases hb : b = w.heap.size
    · rw [hb, hh.limb _ (Nat.le_refl _)]; omega
    · rw [hlim b hb]; exact Nat.le_refl _
  · have hlt := World.block_lt_of_cell? w _ hc
    rw [World.cell?_of_block (hold b hlt)]; exact hc
  · obtain ⟨c, e, fr, hb, hn⟩ := hr
    exact ⟨c, e, fr, by rw [hold b (Array.getElem?_eq_some_iff.1 hb).1]; exact hb, hn⟩
  · rcases ho with ⟨id, ho⟩ | ⟨k, ho⟩
    · rcases hrho' id b ho with h | h
      · exact .inl ⟨id, h⟩
      · omega
    · rcases htb k b ho with h | h
      · exact .inr ⟨k, h⟩
      · omega

def GK.limAt (K : GK) (b n : Nat) : GK := { K with lim := fun x => if x = b then n else K.lim x }
def GK.rhoAt (K : GK) (id b : Nat) : GK := { K with rho := fun i => if i = id then some b else K.rho i }

theorem push_list {K : GK} {w w' : World} {h : Heap} {ob : Obj} (hh : HeapRel K h w) (n : Nat) (hheap : w'.heap = w.heap.push ob) (hos : w'.os = w.os) (htape : TapeOk w w') (hout : w'.output = w.output) :
    Step K w (K.limAt w.heap.size n) w' ∧ HeapRel (K.limAt w.heap.size n) h w' := by
  have s : Step K w (K.limAt w.heap.size n) w' := step_push hh hheap hos htape hout (fun b hb => by simp [GK.limAt, hb]) (fun id b hr => hr) (fun id b hr => .inl hr) (fun k => Nat.le_refl _) (fun k _ => rfl) (fun k b hb => .inl hb)
  have hold : ∀ b, b < w.heap.size → w'.heap[b]? = w.heap[b]? := fun b hb => by rw [hheap, Array.getElem?_push, if_neg (by omega)]
  have hl : ∀ b, b < w.heap.size → (K.limAt w.heap.size n).lim b = K.lim b := fun b hb => by simp [GK.limAt, show b ≠ w.heap.size by omega]
  refine ⟨s, ⟨fun id b hr => ?_, hh.inj, hh.wm, fun k b hk => ?_, hh.tinj, ⟨fun b hb => ?_, hh.limb.t.step s⟩⟩⟩
  · obtain ⟨h1, o, h2, h3, h4⟩ := hh.obj id b hr
    exact ⟨by rw [hheap]; simp; omega, o, h2, h3.keep s (hold b h1), fun hlive => by rw [hl b h1]; exact h4 hlive⟩
  · obtain ⟨h1, h2, h3, c, e, fr, h4, h5, h6⟩ := hh.tok k b hk
    exact ⟨by rw [hheap]; simp; omega, h2, h3, c, e, fr, by rw [hold b h1]; exact h4, by rw [hl b h1]; exact h5, h6⟩
  · rw [hheap] at hb
    simp at hb
    have : b ≠ w.heap.size := by omega
    simp only [GK.limAt, if_neg this]
    exact hh.limb b (by omega)

theorem push_obj {K : GK} {w w' : World} {h h' : Heap} {ob : Obj} {x : HObj} {id : Nat} (hh : HeapRel K h w) (hheap : w'.heap = w.heap.push ob) (hos : w'.os = w.os) (htape : TapeOk w w') (hout : w'.output = w.output)
    (hid : (h[id]? = some .res ∧ h' = h.set id x) ∨ (id = h.length ∧ h' = h ++ [x])) (hx : ∀ n, x ≠ .tok n) (hok : ∀ K' : GK, Step K w K' w' → ObjOk K' w' w.heap.size x) :
    Step K w (K.rhoAt id w.heap.size) w' ∧ HeapRel (K.rhoAt id w.heap.size) h' w' := by
  -- nothing was at id
  have hno : K.rho id = none := by
    cases hr : K.rho id with
    | none => rfl
    | some b =>
      obtain ⟨_, o, h2, h3, _⟩ := hh.obj id b hr
      rcases hid with ⟨h4, _⟩ | ⟨h4, _⟩
      · rw [h4] at h2; injection h2 with h2; subst h2; exact h3.elim
      · rw [List.getElem?_eq_none (by omega)] at h2; cases h2
  have hget : h'[id]? = some x := by
    rcases hid with ⟨h4, rfl⟩ | ⟨h4, rfl⟩
    · rw [List.getElem?_set_self (lt_of_get h4)]
    · simp [h4]
  have hoth : ∀ i, i ≠ id → h'[i]? = h[i]? := by
    intro i hi
    rcases hid with ⟨h4, rfl⟩ | ⟨h4, rfl⟩
    · rw [List.getElem?_set_ne (Ne.symm hi)]
    · rcases Nat.lt_or_ge i h.length with h5 | h5
      · rw [List.getElem?_append_left h5]
      · rw [List.getElem?_eq_none (by simp; omega), List.getElem?_eq_none h5]
  have hidtok : ∀ n, h[id]? ≠ some (.tok n) := by
    intro n hn
    rcases hid with ⟨h4, _⟩ | ⟨h4, _⟩
    · rw [h4] at hn; cases hn
    · rw [List.getElem?_eq_none (by omega)] at hn; cases hn
  have s : Step K w (K.rhoAt id w.heap.size) w' := step_push hh hheap hos htape hout (fun b hb => rfl) (fun i b hr => by
      have : i ≠ id := by intro e; subst e; rw [hno] at hr; cases hr
      simp [GK.rhoAt, this, hr]) (fun i b hr => by
      simp only [GK.rhoAt] at hr
      split at hr
      · injection hr with hr; exact .inr hr.symm
      · exact .inl hr) (fun k => Nat.le_refl _) (fun k _ => rfl) (fun k b hb => .inl hb)
  have hold : ∀ b, b < w.heap.size → w'.heap[b]? = w.heap[b]? := fun b hb => by rw [hheap, Array.getElem?_push, if_neg (by omega)]
  have hsz : w'.heap.size = w.heap.size + 1 := by rw [hheap]; simp
  refine ⟨s, ⟨fun i b hr => ?_, fun i j b y z hi hj h1 h2 hy hz => ?_, fun k => ?_, fun k b hk => ?_, hh.tinj, ⟨fun b hb => hh.limb b (by omega), hh.limb.t.step s⟩⟩⟩
  · simp only [GK.rhoAt] at hr
    split at hr
    · rename_i e
      injection hr with hr
      subst hr; subst e
      exact ⟨by omega, x, hget, hok _ s, fun _ => hh.limb _ (Nat.le_refl _)⟩
    · rename_i e
      obtain ⟨h1, o, h2, h3, h4⟩ := hh.obj i b hr
      exact ⟨by omega, o, by rw [hoth i e]; exact h2, h3.keep s (hold b h1), h4⟩
  · simp only [GK.rhoAt] at hi hj
    split at hi <;> split at hj
    · simp_all
    · injection hi with hi
      have := (hh.obj j b hj).1
      omega
    · injection hj with hj
      have := (hh.obj i b hi).1
      omega
    · rename_i e1 e2
      exact hh.inj i j b y z hi hj (by rw [← hoth i e1]; exact h1) (by rw [← hoth j e2]; exact h2) hy hz
  · show K.wm k = _
    rw [hh.wm k]
    by_cases e : k = id
    · subst e
      rw [hget]
      cases hk : h[k]? with
      | none => cases x <;> first | rfl | exact absurd rfl (hx _)
      | some o => cases o <;> cases x <;> first | rfl | exact absurd rfl (hx _) | exact absurd hk (hidtok _)
    · rw [hoth k e]
  · obtain ⟨h1, ⟨n, h2⟩, h3, c, e, fr, h4, h5, h6⟩ := hh.tok k b hk
    have hne : k ≠ id := by intro e; subst e; exact hidtok n h2
    refine ⟨by omega, ⟨n, by rw [hoth k hne]; exact h2⟩, fun i o hi ho => ?_, c, e, fr, by rw [hold b h1]; exact h4, h5, h6⟩
    simp only [GK.rhoAt] at hi
    split at hi
    · injection hi with hi; omega
    · rename_i e'
      exact h3 i o hi (by rw [← hoth i e']; exact ho)


theorem run_storeCells_nofr (g o : Nat) (t : TypeId) (fr : Nat × Nat) : ∀ (vs : List Value) (i : Nat) (cur : Array Value) (w : World), w.heap[g]? = some (.cells cur t fr) → nofr cur fr → o + i + vs.length ≤ cur.size → (∀ v ∈ vs, v.oneCell' = true) →
    (storeCells ⟨g, o, none⟩ vs i).run P w = .ok () (w.setRow g (cur.toList.take (o + i) ++ vs ++ cur.toList.drop (o + i + vs.length)).toArray)
  | [], i, cur, w, hg, _, _, _ => by
    simp only [storeCells, List.append_nil, List.length_nil, Nat.add_zero, List.take_append_drop, Array.toArray_toList]
    rw [setRow_self w g cur t fr hg]
    rfl
  | v :: rest, i, cur, w, hg, hf, hl, h1 => by
    have hi : o + i < cur.size := by simp at hl; omega
    have hcell : w.cell? ⟨g, o + i, none⟩ = some cur[o + i] := by simp [World.cell?, hg, hi]
    have hfz : w.frozen? ⟨g, o + i, none⟩ = false := by
      simp only [World.frozen?, hg]
      have := hf (o + i) hi
      by_cases h : fr.1 ≤ o + i
      · simp [h]; omega
      · simp [h]
    have hset : w.setCell ⟨g, o + i, none⟩ v = w.setRow g (cur.setIfInBounds (o + i) v) := by
      unfold World.setCell World.setRow
      congr 1
      apply Array.ext_getElem?
      intro k
      simp only [Array.getElem?_modify]
      by_cases hk : g = k
      · subst hk
        simp [hg]
      · simp [hk]
    have ih := run_storeCells_nofr g o t fr rest (i + 1) (cur.setIfInBounds (o + i) v) (w.setRow g (cur.setIfInBounds (o + i) v)) (setRow_heap w g cur _ t fr hg) (by intro j hj; exact hf j (by simpa using hj)) (by simp at hl ⊢; omega) (fun u hu => h1 u (List.mem_cons_of_mem _ hu))
    simp only [storeCells, Sem.run_bind, Addr.add_lit]
    rw [run_store P w ⟨g, o + i, none⟩ v .plain (h1 v List.mem_cons_self)]
    simp only [hcell, hfz, Bool.false_eq_true, if_false, Result.andThen_ok]
    rw [hset, ih, setRow_setRow]
    congr 3
    have := list_seg_step cur.toList (o + i) v rest (by simp at hl ⊢; omega)
    simp only [Array.toList_setIfInBounds, List.length_cons]
    rw [← this]
    simp [Nat.add_assoc, Nat.add_comm, Nat.add_left_comm]

theorem putAt_length {cs vs : List HV} {off : Nat} (h : off + vs.length ≤ cs.length) : (putAt cs off vs).length = cs.length := by
  simp [putAt]; omega
theorem seg_get {α : Type} (l vs : List α) (off j : Nat) (h : off + vs.length ≤ l.length) : (l.take off ++ vs ++ l.drop (off + vs.length))[j]? = if j < off then l[j]? else if j < off + vs.length then vs[j - off]? else l[j]? := by
  rw [List.append_assoc, List.getElem?_append, List.length_take, Nat.min_eq_left (by omega)]
  split
  · rename_i h1; rw [List.getElem?_take, if_pos h1]
  · rw [List.getElem?_append]
    split
    · rename_i h1 h2; rw [if_pos (by omega)]
    · rename_i h1 h2
      rw [if_neg (by omega), List.getElem?_drop]
      congr 1
      omega

theorem put_row {K : GK} {w : World} {h : Heap} {id b off : Nat} {cs : List HV} {vs : List HV} {us : List Value} (hh : HeapRel K h w) (hr : K.rho id = some b) (hc : h[id]? = some (.cells cs)) (hl : vs.length = us.length) (hoff : off + vs.length ≤ cs.length)
    (hleaf : ∀ v ∈ vs, v.leaf = true) (hv : ∀ (j : Nat) (v : HV) (u : Value), vs[j]? = some v → us[j]? = some u → V K w v u) :
    ∃ w', (storeCells ⟨b, off, none⟩ us).run P w = .ok () w' ∧ Step K w K w' ∧ HeapRel K (h.set id (.cells (putAt cs off vs))) w' := by
  obtain ⟨hb, o, ho, hok, hlim⟩ := hh.obj id b hr
  rw [hc] at ho
  injection ho with ho
  subst ho
  obtain ⟨c, e, fr, h1, h2, h3, h4⟩ := hok
  have hlim := hlim trivial
  have hone : ∀ u ∈ us, u.oneCell' = true := by
    intro u hu
    obtain ⟨j, hj⟩ := mem_get hu
    obtain ⟨v, hvj⟩ := get_of_lt (l := vs) (j := j) (by rw [hl]; exact lt_of_get hj)
    exact (hv j v u hvj hj).oneCell (hleaf v (List.mem_of_getElem? hvj))
  have hrun := run_storeCells_nofr (P := P) b off e fr us 0 c w h1 h3 (by omega) hone
  simp only [Nat.add_zero] at hrun
  generalize hcur : (c.toList.take off ++ us ++ c.toList.drop (off + us.length)).toArray = cur at hrun
  have hcsz : cur.size = c.size := by rw [← hcur]; simp; omega
  have hcget : ∀ j, cur[j]? = if j < off then c[j]? else if j < off + us.length then us[j - off]? else c[j]? := by
    intro j
    rw [← hcur]
    simp only [List.getElem?_toArray]
    rw [seg_get _ _ _ _ (by simp; omega)]
    simp
  have hoth : ∀ k, k ≠ b → (w.setRow b cur).heap[k]? = w.heap[k]? := fun k hk => setRow_other w b k cur hk
  have hsame := setRow_heap w b c cur e fr h1
  have s : Step K w K (w.setRow b cur) := by
    refine ⟨rfl, tk, rfl, by simp, fun _ => Nat.le_refl _, fun _ => Nat.le_refl _, fun _ _ => ⟨rfl, fun _ _ => rfl⟩, fun _ _ h => h, fun x i v hi hcell => ?_, fun x n hr => ?_, fun _ _ h => h, fun x hx ho => ?_⟩
    · have hx : x ≠ b := by intro e; subst e; omega
      rw [cell_setRow_other w b cur _ hx]; exact hcell
    · obtain ⟨c', e', fr', hb', hn⟩ := hr
      by_cases hx : x = b
      · subst hx
        rw [h1] at hb'
        injection hb' with hb'
        injection hb' with hb'
        subst hb'
        exact ⟨cur, e, fr, hsame, by omega⟩
      · exact ⟨c', e', fr', by rw [hoth x hx]; exact hb', hn⟩
    · have hx' : x ≠ b := by intro e; subst e; exact ho (.inl ⟨id, hr⟩)
      exact ⟨hoth x hx', rfl⟩
  have hgetid : (h.set id (.cells (putAt cs off vs)))[id]? = some (.cells (putAt cs off vs)) := by rw [List.getElem?_set_self (lt_of_get hc)]
  have hgeto : ∀ i, i ≠ id → (h.set id (.cells (putAt cs off vs)))[i]? = h[i]? := fun i hi => by rw [List.getElem?_set_ne (Ne.symm hi)]
  refine ⟨w.setRow b cur, hrun, s, ⟨fun i b' hr' => ?_, fun i j b' y z hi hj hy hz ly lz => ?_, fun k => ?_, fun k b' hk => ?_, hh.tinj, ⟨fun x hx => hh.limb x (by simpa using hx), hh.limb.t.step s⟩⟩⟩
  · obtain ⟨h5, o', h6, h7, h8⟩ := hh.obj i b' hr'
    refine ⟨by simpa using h5, ?_⟩
    by_cases hi : i = id
    · subst hi
      rw [hr] at hr'
      injection hr' with hr'
      subst hr'
      refine ⟨_, hgetid, ⟨cur, e, fr, hsame, by rw [putAt_length hoff]; omega, fun j hj => h3 j (by omega), fun j x hx => ?_⟩, fun _ => hlim⟩
      simp only [putAt] at hx
      rw [seg_get _ _ _ _ hoff] at hx
      rw [hcget j, ← hl]
      split at hx
      · rename_i hj
        obtain ⟨l, v, hv', hV⟩ := h4 j x hx
        exact ⟨l, v, by rw [if_pos hj]; exact hv', hV.step s⟩
      · rename_i hj
        split at hx
        · rename_i hj2
          obtain ⟨u, hu⟩ := get_of_lt (l := us) (j := j - off) (by rw [← hl]; exact lt_of_get hx)
          exact ⟨hleaf x (List.mem_of_getElem? hx), u, by rw [if_neg hj, if_pos hj2]; exact hu, (hv _ x u hx hu).step s⟩
        · rename_i hj2
          obtain ⟨l, v, hv', hV⟩ := h4 j x hx
          exact ⟨l, v, by rw [if_neg hj, if_neg hj2]; exact hv', hV.step s⟩
    · refine ⟨o', by rw [hgeto i hi]; exact h6, ?_, h8⟩
      by_cases hbb : b' = b
      · subst hbb
        have hdead : ¬ o'.live := fun hlive => hi (hh.inj i id b' o' (.cells cs) hr' hr h6 hc hlive trivial)
        cases o' with
        | dead => trivial
        | cells _ => exact absurd trivial hdead
        | map _ _ => exact absurd trivial hdead
        | iter _ _ _ _ => exact absurd trivial hdead
        | siter _ _ => exact absurd trivial hdead
        | bld _ _ _ _ => exact absurd trivial hdead
        | brow _ _ _ => exact absurd trivial hdead
        | tok _ => exact h7.elim
        | res => exact h7.elim
      · exact h7.keep s (hoth b' hbb)
  · have key : ∀ (i : Nat) (y : HObj), (h.set id (.cells (putAt cs off vs)))[i]? = some y → y.live → ∃ y', h[i]? = some y' ∧ y'.live := by
      intro i y hy ly
      by_cases hi : i = id
      · subst hi; exact ⟨_, hc, trivial⟩
      · exact ⟨y, by rw [← hgeto i hi]; exact hy, ly⟩
    obtain ⟨y', hy', ly'⟩ := key i y hy ly
    obtain ⟨z', hz', lz'⟩ := key j z hz lz
    exact hh.inj i j b' y' z' hi hj hy' hz' ly' lz'
  · rw [hh.wm k]
    by_cases hi : k = id
    · subst hi; rw [hgetid, hc]
    · rw [hgeto k hi]
  · obtain ⟨h5, ⟨n, h6⟩, h7, c', e', fr', h8, h9, h10⟩ := hh.tok k b' hk
    have hne : k ≠ id := by intro e'; subst e'; rw [hc] at h6; cases h6
    have hbb : b' ≠ b := by intro e'; subst e'; exact h7 id _ hr hc trivial
    refine ⟨by simpa using h5, ⟨n, by rw [hgeto k hne]; exact h6⟩, fun i o' hi ho' => ?_, c', e', fr', by rw [hoth b' hbb]; exact h8, h9, h10⟩
    by_cases hii : i = id
    · subst hii
      rw [hr] at hi
      injection hi with hi
      exact absurd hi.symm hbb
    · exact h7 i o' hi (by rw [← hgeto i hii]; exact ho')

theorem set_obj {K : GK} {w w' : World} {h : Heap} {id b : Nat} {old new : HObj} {ob : Obj} (hh : HeapRel K h w) (hr : K.rho id = some b) (hc : h[id]? = some old) (hlive : old.live) (hnew : new.live) (hheap : w'.heap = w.heap.setIfInBounds b ob) (hos : w'.os = w.os) (htape : TapeOk w w') (hout : w'.output = w.output)
    (hroom : ∀ n, RoomAt w b n → RoomAt w' b n) (hok : Step K w K w' → ObjOk K w' b new) : Step K w K w' ∧ HeapRel K (h.set id new) w' := by
  obtain ⟨hb, o, h1, h2, h3⟩ := hh.obj id b hr
  rw [hc] at h1
  injection h1 with h1
  subst h1
  have hlim := h3 hlive
  have hoth : ∀ b', b' ≠ b → w'.heap[b']? = w.heap[b']? := fun b' hne => by rw [hheap]; simp [Ne.symm hne]
  have hidlt : id < h.length := (List.getElem?_eq_some_iff.1 hc).1
  have hgetid : (h.set id new)[id]? = some new := by simp [hidlt]
  have hgeto : ∀ i, i ≠ id → (h.set id new)[i]? = h[i]? := fun i hne => by rw [List.getElem?_set, if_neg (Ne.symm hne)]
  have s : Step K w K w' := by
    refine ⟨hos, htape, hout, by rw [hheap]; simp, fun _ => Nat.le_refl _, fun _ => Nat.le_refl _, fun _ _ => ⟨rfl, fun _ _ => rfl⟩, fun _ _ h => h, fun b' i v hi hcell => ?_, fun b' n hrm => ?_, fun _ _ h => h, fun b' hb' hno => ⟨hoth b' ?_, rfl⟩⟩
    · have hne : b' ≠ b := by intro e1; subst e1; omega
      have hlt := World.block_lt_of_cell? w _ hcell
      rw [World.cell?_of_block (hoth b' hne)]; exact hcell
    · by_cases hne : b' = b
      · subst hne; exact hroom n hrm
      · obtain ⟨c, e, fr, h4, h5⟩ := hrm
        exact ⟨c, e, fr, by rw [hoth b' hne]; exact h4, h5⟩
    · intro e1; subst e1; exact hno (.inl ⟨id, hr⟩)
  refine ⟨s, ⟨fun i b' hi => ?_, fun i j b' y z hi hj hy hz ly lz => ?_, fun k => ?_, fun k b' hk => ?_, hh.tinj, ⟨fun b' hb' => ?_, hh.limb.t.step s⟩⟩⟩
  · obtain ⟨h5, o', h6, h7, h8⟩ := hh.obj i b' hi
    refine ⟨by rw [hheap]; simpa using h5, ?_⟩
    by_cases hii : i = id
    · subst hii
      rw [hr] at hi
      injection hi with hi
      subst hi
      exact ⟨new, hgetid, hok s, fun _ => hlim⟩
    · refine ⟨o', by rw [hgeto i hii]; exact h6, ?_, h8⟩
      by_cases hbb : b' = b
      · subst hbb
        have hdead : ¬ o'.live := fun hl => hii (hh.inj i id b' o' old hi hr h6 hc hl hlive)
        cases o' with
        | dead => trivial
        | tok _ => exact h7.elim
        | res => exact h7.elim
        | _ => exact absurd trivial hdead
      · exact h7.keep s (hoth b' hbb)
  · have key : ∀ (i : Nat) (y : HObj), (h.set id new)[i]? = some y → y.live → ∃ y', h[i]? = some y' ∧ y'.live := by
      intro i y hy ly
      by_cases hi : i = id
      · subst hi; exact ⟨_, hc, hlive⟩
      · exact ⟨y, by rw [← hgeto i hi]; exact hy, ly⟩
    obtain ⟨y', hy', ly'⟩ := key i y hy ly
    obtain ⟨z', hz', lz'⟩ := key j z hz lz
    exact hh.inj i j b' y' z' hi hj hy' hz' ly' lz'
  · rw [hh.wm k]
    by_cases hi : k = id
    · subst hi
      rw [hgetid, hc]
      cases old <;> cases new <;> first | rfl | exact hlive.elim | exact hnew.elim
    · rw [hgeto k hi]
  · obtain ⟨h5, ⟨n, h6⟩, h7, c', e', fr', h8, h9, h10⟩ := hh.tok k b' hk
    have hne : k ≠ id := by
      intro e'
      subst e'
      rw [hc] at h6
      injection h6 with h6
      subst h6
      exact hlive.elim
    have hbb : b' ≠ b := by intro e'; subst e'; exact h7 id _ hr hc hlive
    refine ⟨by rw [hheap]; simpa using h5, ⟨n, by rw [hgeto k hne]; exact h6⟩, fun i o' hi ho' => ?_, c', e', fr', by rw [hoth b' hbb]; exact h8, h9, h10⟩
    by_cases hii : i = id
    · subst hii
      rw [hr] at hi
      injection hi with hi
      exact absurd hi.symm hbb
    · exact h7 i o' hi (by rw [← hgeto i hii]; exact ho')
  · rw [hheap] at hb'
    exact hh.limb b' (by simpa using hb')

end Go.Hw

set_option linter.unusedVariables false
set_option linter.unusedSimpArgs false
namespace Go.Hw
open Go

variable {P : Program}

theorem tzero_info {t : TypeId} {z : HV} (h : tzero P t = some z) : ∃ i u, P.info? t = some i ∧ i.zero = some u ∧ hconst u = some z := by
  unfold tzero at h
  cases hi : P.info? t with
  | none => simp [hi] at h
  | some i =>
    cases hu : i.zero with
    | none => simp [hi, hu] at h
    | some u => exact ⟨i, u, rfl, hu, by simpa [hi, hu] using h⟩
theorem run_zeroValue {t : TypeId} {i : TypeInfo} {u : Value} (hi : P.info? t = some i) (hu : i.zero = some u) (w : World) : (zeroValue t).run P w = .ok u w := by
  simp [zeroValue, typeInfo, hi, hu]
theorem hconst_tuple {v : Value} {x : HV} (h : hconst v = some x) : ∀ cs, x ≠ .tuple cs := by
  intro cs e
  subst e
  unfold hconst at h
  split at h
  · rename_i l
    cases hm : l.toList.mapM leafConst <;> simp [hm] at h
  · unfold leafConst at h
    split at h <;> cases h

section
variable {o : Oper} {a : Act} {K : GK} {w : World} {k : HV → Heap → Prop} {e : Env} {h : Heap} (base : Nat)

theorem ok_newobj {r : Option Nat} {x : HObj} {w' : World} {ob : Obj} (hn : hnew base r h x (fun i h' => k (.ptr i 0) h')) (hx : ∀ n, x ≠ .tok n) (hh : HeapRel K h w)
    (hheap : w'.heap = w.heap.push ob) (hos : w'.os = w.os) (htape : TapeOk w w') (hout : w'.output = w.output) (hok : ∀ K' : GK, Step K w K' w' → ObjOk K' w' w.heap.size x)
    (hg : Gives P o a w (.pointer (some ⟨w.heap.size, 0, none⟩)) w') : Ok P o a K w k := by
  cases r with
  | none =>
    obtain ⟨s, hh'⟩ := push_obj hh hheap hos htape hout (.inr ⟨rfl, rfl⟩) hx hok
    exact ⟨_, _, _, w', _, hg, s, hh', .ptr _ _ _ (by simp [GK.rhoAt]), hn⟩
  | some j =>
    obtain ⟨s, hh'⟩ := push_obj hh hheap hos htape hout (.inl ⟨hn.1, rfl⟩) hx hok
    exact ⟨_, _, _, w', _, hg, s, hh', .ptr _ _ _ (by simp [GK.rhoAt]), hn.2⟩

theorem objOk_new {K' : GK} {w' : World} {x : HV} {v : Value} (s : Step K w K' w') (hx : V K w x v) (ht : ∀ cs, x ≠ .tuple cs) {b : Nat} {t : TypeId} (hb : w'.heap[b]? = some (.cells v.cells t)) : ObjOk K' w' b (.cells x.cells) := by
  obtain ⟨h1, h2, h3⟩ := hx.cells ht
  refine ⟨v.cells, t, (0, 0), hb, by omega, fun i _ => by omega, fun j y hy => ⟨h2 y (List.mem_of_getElem? hy), ?_⟩⟩
  obtain ⟨u, hu⟩ : ∃ u, v.cells[j]? = some u := ⟨v.cells[j]'(by have := lt_of_get hy; omega), by simp [show j < v.cells.size by have := lt_of_get hy; omega]⟩
  exact ⟨u, hu, (h3 j y u hy hu).step s⟩

theorem ok_alloc {t : TypeId} {z : HV} {r : Option Nat} (ho : o.op = .alloc t) (hz : tzero P t = some z) (hs : hstep base (.alloc r z.cells) e h k) (hh : HeapRel K h w) (he : EnvRel K w e a.tmps) : Ok P o a K w k := by
  obtain ⟨i, u, hi, hu, hc⟩ := tzero_info hz
  refine ok_newobj (w' := w.alloc (.cells u.cells t)) base hs (by simp) hh rfl rfl tk rfl (fun K' s => objOk_new (K := K) (w := w) s (V_hconst hc) (hconst_tuple hc) (t := t) (heap_alloc_new w _)) (.inl ?_)
  simp [execOp, ho, Instr.alloc, run_zeroValue hi hu, newVar, newRow]

theorem ok_bldnew {t : TypeId} {z : HV} (ho : o.op = .alloc t) (hz : tzero P t = some z) (hzb : isBld z = true) (hs : hstep base (.bldnew t) e h k) (hh : HeapRel K h w) (he : EnvRel K w e a.tmps) : Ok P o a K w k := by
  obtain ⟨i, u, hi, hu, hc⟩ := tzero_info hz
  have hu2 : u.cells = #[.pointer none, .slice none 0 0] := by
    unfold isBld at hzb
    split at hzb
    · unfold hconst at hc
      split at hc
      · rename_i cs
        obtain ⟨l, h1, h2⟩ := Option.map_eq_some_iff.1 hc
        injection h2 with h2
        subst h2
        obtain ⟨hl, hm⟩ := mapM_some h1
        have g0 : ∃ v, cs.toList[0]? = some v := get_of_lt (by rw [hl]; decide)
        have g1 : ∃ v, cs.toList[1]? = some v := get_of_lt (by rw [hl]; decide)
        obtain ⟨v0, g0⟩ := g0
        obtain ⟨v1, g1⟩ := g1
        have k0 := hm 0 v0 _ g0 rfl
        have k1 := hm 1 v1 _ g1 rfl
        have e0 : v0 = .pointer none := by
          unfold leafConst at k0
          split at k0 <;> first | rfl | (simp at k0)
        have e1 : v1 = .slice none 0 0 := by
          unfold leafConst at k1
          split at k1 <;> first | rfl | (simp at k1)
        subst e0; subst e1
        simp only [Value.cells]
        apply Array.ext'
        match hcl : cs.toList, hl with
        | [a, b], _ => rw [hcl] at g0 g1; simp at g0 g1; rw [g0, g1]
      · rename_i hna
        unfold leafConst at hc
        split at hc <;> simp at hc
    · cases hzb
  obtain ⟨s, hh'⟩ := push_obj (id := h.length) (w' := w.alloc (.cells u.cells t)) (ob := .cells u.cells t) (x := .bld t none 0 0) hh rfl rfl tk rfl (.inr ⟨rfl, rfl⟩) (by simp)
    (fun K' _ => ⟨rfl, rfl, .pointer none, by rw [← hu2]; exact heap_alloc_new w _, .inl rfl⟩)
  refine ⟨_, _, _, _, _, .inl ?_, s, hh', .ptr _ _ w.heap.size (by simp [GK.rhoAt]), hs⟩
  simp [execOp, ho, Instr.alloc, run_zeroValue hi hu, newVar, newRow]

theorem ok_box {t : TypeId} {n : Nat} {x : Operand} {y : X} {r : Option Nat} (ho : o.op = .box t x) (hn : tsize P t = some n) (hx : cX x = some y) (hs : hstep base (.box r n y) e h k) (hh : HeapRel K h w) (he : EnvRel K w e a.tmps) : Ok P o a K w k := by
  simp only [hstep] at hs
  split at hs
  · rename_i v hev
    have hx' := ev_sound hx he hev
    obtain ⟨⟨hl, hnt⟩, hs⟩ := hs
    refine ok_newobj (w' := w.alloc (.cells (a.eval x).cells t)) base hs (by simp) hh rfl rfl tk rfl (fun K' s => objOk_new (K := K) (w := w) s hx' (by intro cs e; subst e; simp [isTuple] at hnt) (t := t) (heap_alloc_new w _)) (.inl ?_)
    simp [execOp, ho, Instr.box, newVar, newRow]
  · exact hs.elim

theorem ok_mkmap {t : TypeId} {r : Option Nat} (ho : o.op = .makeMap t none) (hs : hstep base (.mkmap r) e h k) (hh : HeapRel K h w) (he : EnvRel K w e a.tmps) : Ok P o a K w k := by
  have hg : Gives P o a w (.map (some w.heap.size)) (w.alloc (.map #[] 0)) := .inl (by simp [execOp, ho, Instr.makeMap])
  have hok : ∀ K' : GK, Step K w K' (w.alloc (.map #[] 0)) → ObjOk K' (w.alloc (.map #[] 0)) w.heap.size (.map [] 0) := fun K' s =>
    ⟨#[], heap_alloc_new w _, rfl, fun j n x y hj => by simp at hj⟩
  simp only [hstep] at hs
  cases r with
  | none =>
    obtain ⟨s, hh'⟩ := push_obj (id := h.length) (w' := w.alloc (.map #[] 0)) (ob := .map #[] 0) (x := .map [] 0) hh rfl rfl tk rfl (.inr ⟨rfl, rfl⟩) (by simp) hok
    exact ⟨_, _, _, _, _, hg, s, hh', .map _ _ (by simp [GK.rhoAt]), hs⟩
  | some j =>
    obtain ⟨s, hh'⟩ := push_obj (id := base + j) (w' := w.alloc (.map #[] 0)) (ob := .map #[] 0) (x := .map [] 0) hh rfl rfl tk rfl (.inl ⟨hs.1, rfl⟩) (by simp) hok
    exact ⟨_, _, _, _, _, hg, s, hh', .map _ _ (by simp [GK.rhoAt]), hs.2⟩

theorem ok_store {t : TypeId} {n : Nat} {ad x : Operand} {ya yx : X} (ho : o.op = .store t ad x) (hn : tsize P t = some n) (ha : cX ad = some ya) (hx : cX x = some yx) (hs : hstep base (.store n ya yx) e h k) (hh : HeapRel K h w) (he : EnvRel K w e a.tmps) : Ok P o a K w k := by
  simp only [hstep] at hs
  split at hs
  · rename_i id off v h1 h2
    split at hs
    · rename_i cs hcs
      obtain ⟨⟨hl, hoff, hnt⟩, hs⟩ := hs
      have ha' := ev_sound ha he h1
      have hx' := ev_sound hx he h2
      generalize hca : a.eval ad = ca at ha'
      generalize hcx : a.eval x = cx at hx'
      cases ha' with
      | ptr _ _ b hr =>
        obtain ⟨c1, c2, c3⟩ := hx'.cells (by intro cs e; subst e; simp [isTuple] at hnt)
        have hcs' : h[id]? = some (.cells cs) := by
          unfold Heap.cells at hcs
          cases hg : h[id]? with
          | none => simp [hg] at hcs
          | some ob => cases ob <;> simp [hg] at hcs; subst hcs; rfl
        obtain ⟨w', hrun, s, hh'⟩ := put_row (P := P) (K := K) (w := w) (off := off) (vs := v.cells) (us := cx.cells.toList) hh hr hcs' (by simpa using c1) (by omega) c2 (fun j y u hy hu => c3 j y u hy (by simpa using hu))
        refine ⟨.tuple [], undef, K, w', _, .inr ⟨?_, rfl⟩, s, hh', V.tuple [] [] rfl (fun j h v hh => by simp at hh), hs⟩
        have hsz : cx.cells.size = n := by omega
        simp [execOp, ho, hca, hcx, Instr.storeAt, Instr.sureAddr, storeVar, run_sizeOf' hn, hsz, hrun]
    · exact hs.elim
  · exact hs.elim

end
end Go.Hw

set_option linter.unusedVariables false
set_option linter.unusedSimpArgs false
namespace Go.Hw
open Go

variable {P : Program}

theorem foldl_set (off : Nat) : ∀ (l : List Value) (q : Nat) (cs : Array Value), off + q + l.length ≤ cs.size →
    ((l.zipIdx q).foldl (fun cs (x : Value × Nat) => cs.setIfInBounds (off + x.2) x.1) cs).toList = cs.toList.take (off + q) ++ l ++ cs.toList.drop (off + q + l.length)
  | [], q, cs, h => by simp
  | v :: r, q, cs, h => by
    have hq : off + q < cs.size := by simp at h; omega
    rw [List.zipIdx_cons, List.foldl_cons, foldl_set off r (q + 1) _ (by simp at h ⊢; omega)]
    have := list_seg_step cs.toList (off + q) v r (by simp at h ⊢; omega)
    simp only [Array.toList_setIfInBounds, List.length_cons]
    rw [← this]
    simp [Nat.add_assoc, Nat.add_comm, Nat.add_left_comm]

theorem fill_step {place : Nat → Option (Nat × Nat)} {cells : Array Value} {i off size : Nat} {v : Value} {rest : List (Nat × Value)} (hp : place i = some (off, size)) (hv : v.cells.size = size) (hl : off + size ≤ cells.size) :
    Instr.fill place cells ((i, v) :: rest) = Instr.fill place (cells.toList.take off ++ v.cells.toList ++ cells.toList.drop (off + size)).toArray rest := by
  have e : (v.cells.zipIdx.foldl (fun cs (c, j) => cs.setIfInBounds (off + j) c) cells) = (cells.toList.take off ++ v.cells.toList ++ cells.toList.drop (off + size)).toArray := by
    apply Array.ext'
    rw [← Array.foldl_toList, Array.toList_zipIdx]
    have := foldl_set off v.cells.toList 0 cells (by simp; omega)
    simp only [Nat.add_zero, Array.length_toList, hv] at this
    simpa using this
  have hc : (v.cells.size ≠ size || off + v.cells.size > cells.size) = false := by
    simp [hv]; omega
  conv => lhs; unfold Instr.fill
  simp only [hp, hc, Bool.false_eq_true, if_false]
  rw [← e]

theorem fill_seq (size : Nat) : ∀ (vs : List Value) (i : Nat) (cur : Array Value), cur.size = (i + vs.length) * size → (∀ v ∈ vs, v.cells.size = size) →
    ∃ out, Instr.fill (fun i => some (i * size, size)) cur ((List.range' i vs.length).zip vs) = some out ∧ out.toList = cur.toList.take (i * size) ++ vs.flatMap (·.cells.toList)
  | [], i, cur, h, _ => ⟨cur, rfl, by simp at h ⊢; rw [List.take_of_length_le (by simp [h])]⟩
  | v :: r, i, cur, h, hv => by
    have h1 := hv v List.mem_cons_self
    have hsz : i * size + size + r.length * size = cur.size := by
      rw [h, List.length_cons, ← Nat.add_assoc, Nat.add_mul, Nat.add_mul]; omega
    have hl : i * size + size ≤ cur.size := by omega
    obtain ⟨out, ho, ht⟩ := fill_seq size r (i + 1) (cur.toList.take (i * size) ++ v.cells.toList ++ cur.toList.drop (i * size + size)).toArray (by
      simp only [List.size_toArray, List.length_append, List.length_take, List.length_drop, Array.length_toList, h1]
      rw [Nat.add_mul, Nat.add_mul]; omega) (fun u hu => hv u (List.mem_cons_of_mem _ hu))
    refine ⟨out, ?_, ?_⟩
    · rw [List.length_cons, List.range'_succ, List.zip_cons_cons, fill_step (off := i * size) (size := size) rfl h1 hl]
      exact ho
    · rw [ht, List.flatMap_cons]
      have : (cur.toList.take (i * size) ++ v.cells.toList ++ cur.toList.drop (i * size + size)).take ((i + 1) * size) = cur.toList.take (i * size) ++ v.cells.toList := by
        rw [List.take_left' (by simp [h1]; rw [Nat.add_mul]; omega)]
      show List.take ((i + 1) * size) (cur.toList.take (i * size) ++ v.cells.toList ++ cur.toList.drop (i * size + size)) ++ r.flatMap (·.cells.toList) = _
      rw [this, List.append_assoc]

section
variable {o : Oper} {a : Act} {K : GK} {w : World} {k : HV → Heap → Prop} {e : Env} {h : Heap} (base : Nat)

theorem V.cells_get {x : HV} {v : Value} (hx : V K w x v) (ht : ∀ cs, x ≠ .tuple cs) {j : Nat} {y : HV} (hy : x.cells[j]? = some y) : y.leaf = true ∧ ∃ u, v.cells[j]? = some u ∧ V K w y u := by
  obtain ⟨h1, h2, h3⟩ := hx.cells ht
  have hj := lt_of_get hy
  exact ⟨h2 y (List.mem_of_getElem? hy), v.cells[j]'(by omega), by simp [show j < v.cells.size by omega], h3 j y _ hy (by simp [show j < v.cells.size by omega])⟩

theorem flat_vals : ∀ {xs : List HV} {vs : List Value}, xs.length = vs.length → (∀ x ∈ xs, ∀ cs, x ≠ .tuple cs) → (∀ (j : Nat) (x : HV) (v : Value), xs[j]? = some x → vs[j]? = some v → V K w x v) →
    (flat xs).length = (vs.flatMap (·.cells.toList)).length ∧ ∀ (j : Nat) (y : HV), (flat xs)[j]? = some y → y.leaf = true ∧ ∃ u, (vs.flatMap (·.cells.toList))[j]? = some u ∧ V K w y u
  | [], [], _, _, _ => ⟨rfl, fun j y hy => by simp [flat] at hy⟩
  | x :: xs, v :: vs, hl, ht, hv => by
    obtain ⟨h1, h2⟩ := flat_vals (xs := xs) (vs := vs) (by simpa using hl) (fun z hz => ht z (List.mem_cons_of_mem _ hz)) (fun j z u hz hu => hv (j + 1) z u hz hu)
    have hx := hv 0 x v rfl rfl
    have hxt := ht x List.mem_cons_self
    have hc := (hx.cells hxt).1
    rw [flat_cons, List.flatMap_cons]
    refine ⟨by simp [h1, hc], fun j y hy => ?_⟩
    rw [List.getElem?_append] at hy ⊢
    have hcl : v.cells.toList.length = x.cells.length := by simp [hc]
    rw [hcl]
    split at hy
    · rename_i hj
      rw [if_pos hj]
      obtain ⟨l, u, hu, hV⟩ := hx.cells_get hxt hy
      exact ⟨l, u, by simpa using hu, hV⟩
    · rename_i hj
      rw [if_neg hj]
      exact h2 _ y hy
  | [], _ :: _, hl, _, _ => by simp at hl
  | _ :: _, [], hl, _, _ => by simp at hl

theorem isTuple_false {x : HV} (hx : isTuple x = false) : ∀ cs, x ≠ .tuple cs := by
  intro cs e; subst e; simp [isTuple] at hx
theorem strip1_cells (x : HV) : x.strip1.cells.length = x.cells.length := by cases x <;> simp [HV.strip1, HV.cells]
theorem strip1_tuple {x : HV} (hx : isTuple x = false) : isTuple x.strip1 = false := by cases x <;> simp_all [HV.strip1, isTuple]

theorem V_newlist {K' : GK} {w' : World} {xs : List HV} {us : List Value} {sz b cap : Nat} {tok : Tok} {c : Array Value} {et : TypeId} {fr : Nat × Nat}
    (hw : ∀ x ∈ xs, x.cells.length = sz) (hf : ∀ (j : Nat) (y : HV), (flat xs)[j]? = some y → y.leaf = true ∧ ∃ u, c[j]? = some u ∧ V K' w' y u)
    (hb : w'.heap[b]? = some (.cells c et fr)) (hl : (flat xs).length ≤ K'.lim b) (hcap : xs.length ≤ cap) (ht : TokOk K' w' b 0 xs.length (flat xs).length cap tok) : V K' w' (.list xs tok) (.slice (some ⟨b, 0, none⟩) xs.length cap) := by
  refine .list xs tok b 0 cap sz (fun j => (c[j]?).getD undef) hw (fun y hy => ?_) (fun j y hy => ?_) (fun j hj => ?_) (fun _ => by omega) hcap ht
  · obtain ⟨j, hj⟩ := mem_get hy
    exact (hf j y hj).1
  · obtain ⟨_, u, hu, hV⟩ := hf j y hy
    simp only [hu, Option.getD_some]; exact hV
  · obtain ⟨y, hy⟩ := get_of_lt hj
    obtain ⟨_, u, hu, hV⟩ := hf j y hy
    simp only [Nat.zero_add, hu, Option.getD_some]
    rw [cell_of_row w' b j c et fr hb]; exact hu

theorem zip_map_range' {α β : Type} (f : α → β) (l : List (Nat × α)) (n : Nat) (h : l.map (·.1) = List.range' 0 n) : l.map (fun p => (p.1, f p.2)) = (List.range' 0 n).zip (l.map fun p => f p.2) := by
  rw [← h]
  rw [List.zip_map']

theorem ok_mklist {t et : TypeId} {len sz : Nat} {parts : Array (Nat × Operand)} {ys : List X} {z : HV} (ho : o.op = .buildSlice t len parts) (ht : P.underlying t = some (.slice et)) (hsz : tsize P et = some sz) (hsz0 : sz ≠ 0) (hz : tzero P et = some z) (hzl : z.cells.length = sz)
    (hx : (parts.toList.map (·.2)).mapM cX = some ys) (hidx : parts.toList.map (·.1) = List.range len) (hbig : len * sz ≤ 2 ^ 24)
    (hs : hstep base (.mklist sz ys) e h k) (hh : HeapRel K h w) (he : EnvRel K w e a.tmps) : Ok P o a K w k := by
  simp only [hstep] at hs
  split at hs
  · rename_i vs hev
    obtain ⟨hwid, hk⟩ := hs
    obtain ⟨h1, h2⟩ := evs_sound he hx hev
    obtain ⟨i, u, hi, hu, hc⟩ := tzero_info hz
    have hucs := (V_hconst (K := K) (w := w) hc).cells (hconst_tuple hc)
    have hlen : vs.length = len := by
      rw [h1, List.length_map, ← List.length_map (f := (·.1)), hidx, List.length_range]
    have husz : u.cells.size = sz := by rw [← hucs.1]; exact hzl
    generalize hus : parts.toList.map (fun p => a.eval p.2) = us
    have husl : us.length = len := by rw [← hus, List.length_map, ← List.length_map (f := (·.1)), hidx, List.length_range]
    have hpair : ∀ (j : Nat) (x : HV) (v : Value), vs[j]? = some x → us[j]? = some v → V K w x v := by
      intro j x v hxj hvj
      rw [← hus, List.getElem?_map] at hvj
      obtain ⟨p, hp, rfl⟩ := Option.map_eq_some_iff.1 hvj
      exact h2 j x p.2 hxj (by rw [List.getElem?_map, hp]; rfl)
    have hcell : ∀ v ∈ us, v.cells.size = sz := by
      intro v hv
      obtain ⟨j, hj⟩ := mem_get hv
      obtain ⟨x, hxj⟩ := get_of_lt (l := vs) (j := j) (by rw [hlen, ← husl]; exact lt_of_get hj)
      have hm := hwid x (List.mem_of_getElem? hxj)
      rw [← ((hpair j x v hxj hj).cells (isTuple_false hm.2)).1]; exact hm.1
    -- the run
    generalize hzr : (Array.range (len * sz)).map (u.cells[· % u.cells.size]!) = cur
    have hcursz : cur.size = (0 + us.length) * sz := by rw [← hzr, husl]; simp
    obtain ⟨out, hfill, hout⟩ := fill_seq sz us 0 cur hcursz hcell
    have hparts : (parts.map fun (p : Nat × Operand) => (p.1, a.eval p.2)).toList = (List.range' 0 us.length).zip us := by
      rw [Array.toList_map, ← hus, List.length_map]
      have : parts.toList.length = len := by rw [← List.length_map (f := (·.1)), hidx, List.length_range]
      rw [this]
      exact zip_map_range' a.eval parts.toList len (by rw [hidx, List.range_eq_range'])
    have hrun : (execOp a.eval o).run P w = .ok (.value (.slice (some ⟨w.heap.size, 0, none⟩) len len)) (w.alloc (.cells out et)) := by
      simp only [execOp, ho, Sem.run_bind]
      have : (Instr.buildSlice t len (parts.map fun (p : Nat × Operand) => (p.1, a.eval p.2))).run P w = .ok (.slice (some ⟨w.heap.size, 0, none⟩) len len) (w.alloc (.cells out et)) := by
        simp only [Instr.buildSlice, Sem.run_bind, run_underlying ht, Result.andThen_ok, run_sizeOf' hsz]
        rw [if_neg (by omega)]
        by_cases hz0 : len * sz = 0
        · have hl0 : len = 0 := by
            rcases Nat.mul_eq_zero.1 hz0 with h | h
            · exact h
            · exact absurd h hsz0
          subst hl0
          have hus0 : us = [] := List.eq_nil_of_length_eq_zero husl
          subst hus0
          simp only [hz0, if_true, Sem.run_pure, Result.andThen_ok, hparts]
          simp [Instr.fill] at hfill hout
          subst hfill
          simp [Instr.fill, newRow, hout, Array.range_zero']
        · simp only [if_neg hz0, Sem.run_bind, run_zeroValue hi hu, Sem.run_pure, Result.andThen_ok, hparts, hzr, hfill, newRow, run_newObj]
          simp
      simp only [this, Result.andThen_ok, Sem.run_pure]
    have hxt : ∀ x ∈ vs.map HV.strip1, ∀ cs, x ≠ .tuple cs := by
      intro x hx
      obtain ⟨y, hy, rfl⟩ := List.mem_map.1 hx
      exact isTuple_false (strip1_tuple (hwid y hy).2)
    have hpair' : ∀ (j : Nat) (x : HV) (v : Value), (vs.map HV.strip1)[j]? = some x → us[j]? = some v → V K w x v := by
      intro j x v hx hv
      rw [List.getElem?_map] at hx
      obtain ⟨y, hy, rfl⟩ := Option.map_eq_some_iff.1 hx
      exact (hpair j y v hy hv).strip1
    obtain ⟨hf1, hf2⟩ := flat_vals (K := K) (w := w) (xs := vs.map HV.strip1) (vs := us) (by simp [hlen, husl]) hxt hpair'
    obtain ⟨s, hh'⟩ := push_list (w' := w.alloc (.cells out et)) (ob := .cells out et) hh (flat (vs.map HV.strip1)).length rfl rfl tk rfl
    have hwid' : ∀ x ∈ vs.map HV.strip1, x.cells.length = sz := by
      intro x hx
      obtain ⟨y, hy, rfl⟩ := List.mem_map.1 hx
      rw [strip1_cells]; exact (hwid y hy).1
    have hV := V_newlist (K' := K.limAt w.heap.size (flat (vs.map HV.strip1)).length) (w' := w.alloc (.cells out et)) (xs := vs.map HV.strip1) (us := us) (sz := sz) (b := w.heap.size) (cap := len) (tok := .full) (c := out) (et := et) (fr := (0, 0)) hwid'
      (fun j y hy => by
        obtain ⟨l, u', hu', hV⟩ := hf2 j y hy
        refine ⟨l, u', ?_, hV.step s⟩
        rw [← Array.getElem?_toList, hout]
        simpa using hu')
      (heap_alloc_new w _) (by simp [GK.limAt]) (by simp [hlen]) (by simp [TokOk, hlen])
    refine ⟨_, _, _, _, _, .inl hrun, s, hh', ?_, hk⟩
    simpa [hlen] using hV
  · exact hs.elim

end
end Go.Hw

set_option linter.unusedVariables false
set_option linter.unusedSimpArgs false
namespace Go.Hw
open Go

variable {P : Program}

def GK.tokAt (K : GK) (k W : Nat) (tb : Option Nat) : GK := { K with wm := fun i => if i = k then W else K.wm i, tb := fun i => if i = k then tb else K.tb i }

def TokPlace (h h' : Heap) (k W : Nat) : Prop := (∃ n, h[k]? = some (.tok n) ∧ n < W ∧ h' = h.set k (.tok W)) ∨ (k = h.length ∧ h' = h ++ [.tok W] ∧ 0 < W)
theorem TokPlace.get {h h' : Heap} {k W : Nat} (t : TokPlace h h' k W) : h'[k]? = some (.tok W) := by
  rcases t with ⟨n, h1, h2, rfl⟩ | ⟨rfl, rfl, h2⟩
  · rw [List.getElem?_set_self (lt_of_get h1)]
  · simp
theorem TokPlace.other {h h' : Heap} {k W : Nat} (t : TokPlace h h' k W) {i : Nat} (hi : i ≠ k) : h'[i]? = h[i]? := by
  rcases t with ⟨n, h1, h2, rfl⟩ | ⟨rfl, rfl, h2⟩
  · rw [List.getElem?_set_ne (Ne.symm hi)]
  · rcases Nat.lt_or_ge i h.length with h5 | h5
    · rw [List.getElem?_append_left h5]
    · rw [List.getElem?_eq_none (by simp; omega), List.getElem?_eq_none h5]
theorem TokPlace.was {h h' : Heap} {k W : Nat} (t : TokPlace h h' k W) : h[k]? = none ∨ ∃ n, h[k]? = some (.tok n) := by
  rcases t with ⟨n, h1, h2, rfl⟩ | ⟨rfl, rfl, h2⟩
  · exact .inr ⟨n, h1⟩
  · exact .inl (List.getElem?_eq_none (Nat.le_refl _))
theorem TokPlace.wm {h h' : Heap} {k W : Nat} (t : TokPlace h h' k W) {K : GK} {w : World} (hh : HeapRel K h w) : K.wm k < W := by
  rw [hh.wm k]
  rcases t with ⟨n, h1, h2, rfl⟩ | ⟨rfl, rfl, h2⟩
  · rw [h1]; exact h2
  · simp [h2]
theorem TokPlace.rho {h h' : Heap} {k W : Nat} (t : TokPlace h h' k W) {K : GK} {w : World} (hh : HeapRel K h w) : K.rho k = none := by
  cases hr : K.rho k with
  | none => rfl
  | some b =>
    obtain ⟨_, o, h2, h3, _⟩ := hh.obj k b hr
    rcases t.was with h | ⟨n, h⟩ <;> rw [h] at h2
    · cases h2
    · injection h2 with h2; subst h2; exact h3.elim

theorem tok_bare {K : GK} {w : World} {h h' : Heap} {k W : Nat} (hh : HeapRel K h w) (t : TokPlace h h' k W) (hnew : k = h.length) : Step K w (K.tokAt k W none) w ∧ HeapRel (K.tokAt k W none) h' w := by
  have htb : K.tb k = none := by
    cases hr : K.tb k with
    | none => rfl
    | some b =>
      obtain ⟨_, ⟨n, hn⟩, _⟩ := hh.tok k b hr
      rw [hnew, List.getElem?_eq_none (Nat.le_refl _)] at hn; cases hn
  have hw := t.wm hh
  have s : Step K w (K.tokAt k W none) w := by
    refine ⟨rfl, tk, rfl, Nat.le_refl _, fun _ => Nat.le_refl _, fun i => ?_, fun i hi => ⟨?_, fun _ _ => rfl⟩, fun _ _ h => h, fun _ _ _ _ h => h, fun _ _ h => h, fun b hb ho => ?_, fun _ _ _ => ⟨rfl, rfl⟩⟩
    · simp only [GK.tokAt]; split
      · rename_i e; subst e; omega
      · exact Nat.le_refl _
    · simp only [GK.tokAt] at hi ⊢
      split at hi
      · rename_i e; subst e; omega
      · rename_i e; rw [if_neg e]
    · rcases ho with ho | ⟨i, ho⟩
      · exact .inl ho
      · simp only [GK.tokAt] at ho
        split at ho
        · cases ho
        · exact .inr ⟨i, ho⟩
  refine ⟨s, ⟨fun i b hr => ?_, fun i j b x y hi hj hx hy lx ly => ?_, fun i => ?_, fun i b hi => ?_, fun i j b hi hj => ?_, ⟨hh.limb.z, hh.limb.t.step s⟩⟩⟩
  · obtain ⟨h1, o, h2, h3, h4⟩ := hh.obj i b hr
    have hne : i ≠ k := by intro e; subst e; have hr2 : K.rho i = none := t.rho hh; rw [show K.rho i = some _ from hr] at hr2; cases hr2
    exact ⟨h1, o, by rw [t.other hne]; exact h2, h3.keep s rfl, h4⟩
  · have key : ∀ {i : Nat} {x : HObj}, h'[i]? = some x → x.live → h[i]? = some x := by
      intro i x hx lx
      have : i ≠ k := by intro e; subst e; rw [t.get] at hx; injection hx with hx; subst hx; exact lx.elim
      rw [← t.other this]; exact hx
    exact hh.inj i j b x y hi hj (key hx lx) (key hy ly) lx ly
  · simp only [GK.tokAt]
    by_cases e : i = k
    · subst e; rw [if_pos rfl, t.get]
    · rw [if_neg e, t.other e]; exact hh.wm i
  · simp only [GK.tokAt] at hi
    split at hi
    · cases hi
    · rename_i e
      obtain ⟨h1, ⟨n, h2⟩, h3, h4⟩ := hh.tok i b hi
      refine ⟨h1, ⟨n, by rw [t.other e]; exact h2⟩, fun id o hid ho => ?_, h4⟩
      by_cases e2 : id = k
      · subst e2; rw [t.get] at ho; injection ho with ho; subst ho; exact fun h => h.elim
      · exact h3 id o hid (by rw [← t.other e2]; exact ho)
  · simp only [GK.tokAt] at hi hj
    split at hi
    · cases hi
    · split at hj
      · cases hj
      · exact hh.tinj i j b hi hj

theorem tok_push' {K : GK} {w w' : World} {h h' : Heap} {k W n : Nat} {c : Array Value} {et : TypeId} {fr : Nat × Nat} (hh : HeapRel K h w) (t : TokPlace h h' k W) (hheap : w'.heap = w.heap.push (.cells c et fr)) (hos : w'.os = w.os) (htape : TapeOk w w') (hout : w'.output = w.output) (hn : n ≤ c.size) (hfr : nofr c fr) :
    Step K w ((K.limAt w.heap.size n).tokAt k W (some w.heap.size)) w' ∧ HeapRel ((K.limAt w.heap.size n).tokAt k W (some w.heap.size)) h' w' := by
  have hw := t.wm hh
  have s : Step K w ((K.limAt w.heap.size n).tokAt k W (some w.heap.size)) w' := step_push hh hheap hos htape hout (fun b hb => by simp [GK.limAt, GK.tokAt, hb]) (fun _ _ h => h) (fun _ _ h => .inl h)
    (fun i => by
      simp only [GK.tokAt, GK.limAt]; split
      · rename_i e; subst e; omega
      · exact Nat.le_refl _)
    (fun i hi => by
      simp only [GK.tokAt, GK.limAt] at hi ⊢
      split at hi
      · rename_i e; subst e; omega
      · rename_i e; rw [if_neg e])
    (fun i b hb => by
      simp only [GK.tokAt, GK.limAt] at hb
      split at hb
      · injection hb with hb; exact .inr hb.symm
      · exact .inl hb)
  have hold : ∀ b, b < w.heap.size → w'.heap[b]? = w.heap[b]? := fun b hb => by rw [hheap, Array.getElem?_push, if_neg (by omega)]
  have hnewb : w'.heap[w.heap.size]? = some (.cells c et fr) := by rw [hheap]; simp
  have hsz : w'.heap.size = w.heap.size + 1 := by rw [hheap]; simp
  have hl : ∀ b, b < w.heap.size → ((K.limAt w.heap.size n).tokAt k W (some w.heap.size)).lim b = K.lim b := fun b hb => by simp [GK.limAt, GK.tokAt, show b ≠ w.heap.size by omega]
  refine ⟨s, ⟨fun i b hr => ?_, fun i j b x y hi hj hx hy lx ly => ?_, fun i => ?_, fun i b hi => ?_, fun i j b hi hj => ?_, ⟨fun b hb => ?_, hh.limb.t.step s⟩⟩⟩
  · obtain ⟨h1, o, h2, h3, h4⟩ := hh.obj i b hr
    have hne : i ≠ k := by intro e; subst e; have hr2 : K.rho i = none := t.rho hh; rw [show K.rho i = some _ from hr] at hr2; cases hr2
    exact ⟨by omega, o, by rw [t.other hne]; exact h2, h3.keep s (hold b h1), fun hlive => by rw [hl b h1]; exact h4 hlive⟩
  · have key : ∀ {i : Nat} {x : HObj}, h'[i]? = some x → x.live → h[i]? = some x := by
      intro i x hx lx
      have : i ≠ k := by intro e; subst e; rw [t.get] at hx; injection hx with hx; subst hx; exact lx.elim
      rw [← t.other this]; exact hx
    exact hh.inj i j b x y hi hj (key hx lx) (key hy ly) lx ly
  · simp only [GK.tokAt, GK.limAt]
    by_cases e : i = k
    · subst e; rw [if_pos rfl, t.get]
    · rw [if_neg e, t.other e]; exact hh.wm i
  · simp only [GK.tokAt, GK.limAt] at hi
    split at hi
    · rename_i e
      injection hi with hi
      subst hi; subst e
      refine ⟨by omega, ⟨W, t.get⟩, fun id o hid ho => ?_, c, et, fr, hnewb, by simp [GK.limAt, GK.tokAt, hn], hfr⟩
      have := (hh.obj id _ hid).1
      omega
    · rename_i e
      obtain ⟨h1, ⟨q, h2⟩, h3, c', e', fr, h4, h5, h6⟩ := hh.tok i b hi
      refine ⟨by omega, ⟨q, by rw [t.other e]; exact h2⟩, fun id o hid ho => ?_, c', e', fr, by rw [hold b h1]; exact h4, by rw [hl b h1]; exact h5, h6⟩
      by_cases e2 : id = k
      · subst e2; rw [t.get] at ho; injection ho with ho; subst ho; exact fun h => h.elim
      · exact h3 id o hid (by rw [← t.other e2]; exact ho)
  · simp only [GK.tokAt, GK.limAt] at hi hj
    split at hi <;> split at hj
    · simp_all
    · injection hi with hi
      have := (hh.tok j b hj).1; omega
    · injection hj with hj
      have := (hh.tok i b hi).1; omega
    · exact hh.tinj i j b hi hj
  · have : b ≠ w.heap.size := by omega
    simp only [GK.limAt, GK.tokAt, if_neg this]
    exact hh.limb b (by omega)

theorem tok_push {K : GK} {w w' : World} {h h' : Heap} {k W n : Nat} {c : Array Value} {et : TypeId} (hh : HeapRel K h w) (t : TokPlace h h' k W) (hheap : w'.heap = w.heap.push (.cells c et)) (hos : w'.os = w.os) (htape : TapeOk w w') (hout : w'.output = w.output) (hn : n ≤ c.size) :
    Step K w ((K.limAt w.heap.size n).tokAt k W (some w.heap.size)) w' ∧ HeapRel ((K.limAt w.heap.size n).tokAt k W (some w.heap.size)) h' w' :=
  tok_push' hh t hheap hos htape hout hn (fun i _ => by omega)

theorem tok_fill {K : GK} {w : World} {h h' : Heap} {k W b : Nat} {us : List Value} {c : Array Value} {et : TypeId} {fr : Nat × Nat} (hh : HeapRel K h w) (t : TokPlace h h' k W) (htb : K.tb k = some b) (hb : w.heap[b]? = some (.cells c et fr)) (hfit : K.lim b + us.length ≤ c.size) (hone : ∀ u ∈ us, u.oneCell' = true) :
    ∃ w', (storeCells ⟨b, K.lim b, none⟩ us).run P w = .ok () w' ∧ Step K w ((K.limAt b (K.lim b + us.length)).tokAt k W (some b)) w' ∧ HeapRel ((K.limAt b (K.lim b + us.length)).tokAt k W (some b)) h' w' ∧
      (∃ c', w'.heap[b]? = some (.cells c' et fr) ∧ c'.size = c.size ∧ (∀ j, j < K.lim b → c'[j]? = c[j]?) ∧ ∀ (j : Nat) (u : Value), us[j]? = some u → c'[K.lim b + j]? = some u) := by
  obtain ⟨hblt, ⟨n0, hn0⟩, hnl, c0, e0, fr0, hb0, hlim0, hfr⟩ := hh.tok k b htb
  rw [hb] at hb0
  injection hb0 with hb0
  injection hb0 with hb0 he0 hf0
  subst hb0; subst he0; subst hf0
  have hrun := run_storeCells_nofr (P := P) b (K.lim b) et fr us 0 c w hb hfr (by omega) hone
  simp only [Nat.add_zero] at hrun
  generalize hcur : (c.toList.take (K.lim b) ++ us ++ c.toList.drop (K.lim b + us.length)).toArray = cur at hrun
  have hcsz : cur.size = c.size := by rw [← hcur]; simp; omega
  have hcget : ∀ j, cur[j]? = if j < K.lim b then c[j]? else if j < K.lim b + us.length then us[j - K.lim b]? else c[j]? := by
    intro j
    rw [← hcur]
    simp only [List.getElem?_toArray]
    rw [seg_get _ _ _ _ (by simp; omega)]
    simp
  have hoth : ∀ q, q ≠ b → (w.setRow b cur).heap[q]? = w.heap[q]? := fun q hq => setRow_other w b q cur hq
  have hsame := setRow_heap w b c cur et fr hb
  have hw := t.wm hh
  have hl : ∀ q, q ≠ b → ((K.limAt b (K.lim b + us.length)).tokAt k W (some b)).lim q = K.lim q := fun q hq => by simp [GK.limAt, GK.tokAt, hq]
  have hlb : ((K.limAt b (K.lim b + us.length)).tokAt k W (some b)).lim b = K.lim b + us.length := by simp [GK.limAt, GK.tokAt]
  have s : Step K w ((K.limAt b (K.lim b + us.length)).tokAt k W (some b)) (w.setRow b cur) := by
    refine ⟨rfl, tk, rfl, by simp, fun q => ?_, fun i => ?_, fun i hi => ⟨?_, fun q hq => ?_⟩, fun _ _ h => h, fun x i v hi hcell => ?_, fun x n hr => ?_, fun q hq ho => ?_, fun x hx ho => ?_⟩
    · by_cases e : q = b
      · subst e; rw [hlb]; omega
      · rw [hl q e]; exact Nat.le_refl _
    · simp only [GK.tokAt, GK.limAt]; split
      · rename_i e; subst e; omega
      · exact Nat.le_refl _
    · simp only [GK.tokAt, GK.limAt] at hi ⊢
      split at hi
      · rename_i e; subst e; omega
      · rename_i e; rw [if_neg e]
    · have hne : i ≠ k := by
        intro e; subst e
        simp only [GK.tokAt, if_true] at hi
        omega
      refine hl q fun e => ?_
      subst e
      exact hne (hh.tinj i k q hq htb)
    · by_cases hx : x = b
      · subst hx
        rw [cell_of_row _ x i _ _ _ hsame, hcget i, if_pos hi]
        rw [cell_of_row _ x i _ _ _ hb] at hcell; exact hcell
      · rw [cell_setRow_other w b cur _ hx]; exact hcell
    · obtain ⟨c', e', fr', hb', hn⟩ := hr
      by_cases hx : x = b
      · subst hx
        rw [hb] at hb'
        injection hb' with hb'
        injection hb' with hb'
        subst hb'
        exact ⟨cur, et, fr, hsame, by omega⟩
      · exact ⟨c', e', fr', by rw [hoth x hx]; exact hb', hn⟩
    · rcases ho with ho | ⟨i, ho⟩
      · exact .inl ho
      · simp only [GK.tokAt, GK.limAt] at ho
        split at ho
        · injection ho with ho; subst ho; exact .inr ⟨k, htb⟩
        · exact .inr ⟨i, ho⟩
    · have hx' : x ≠ b := by intro e; subst e; exact ho (.inr ⟨k, htb⟩)
      exact ⟨hoth x hx', hl x hx'⟩
  refine ⟨w.setRow b cur, hrun, s, ⟨fun i b' hr => ?_, fun i j b' x y hi hj hx hy lx ly => ?_, fun i => ?_, fun i b' hi => ?_, fun i j b' hi hj => ?_, ⟨fun q hq => ?_, hh.limb.t.step s⟩⟩, cur, hsame, hcsz, fun j hj => by rw [hcget j, if_pos hj], fun j u hu => ?_⟩
  · obtain ⟨h1, o, h2, h3, h4⟩ := hh.obj i b' hr
    have hne : i ≠ k := by intro e; subst e; have hr2 : K.rho i = none := t.rho hh; rw [show K.rho i = some _ from hr] at hr2; cases hr2
    refine ⟨by simpa using h1, o, by rw [t.other hne]; exact h2, ?_, fun hlive => ?_⟩
    · by_cases hbb : b' = b
      · subst hbb
        have hdead := hnl i o hr h2
        cases o with
        | dead => trivial
        | cells _ => exact absurd trivial hdead
        | map _ _ => exact absurd trivial hdead
        | iter _ _ _ _ => exact absurd trivial hdead
        | siter _ _ => exact absurd trivial hdead
        | bld _ _ _ _ => exact absurd trivial hdead
        | brow _ _ _ => exact absurd trivial hdead
        | tok _ => exact h3.elim
        | res => exact h3.elim
      · exact h3.keep s (hoth b' hbb)
    · have hbb : b' ≠ b := by intro e; subst e; exact hnl i o hr h2 hlive
      rw [hl b' hbb]; exact h4 hlive
  · have key : ∀ {i : Nat} {x : HObj}, h'[i]? = some x → x.live → h[i]? = some x := by
      intro i x hx lx
      have : i ≠ k := by intro e; subst e; rw [t.get] at hx; injection hx with hx; subst hx; exact lx.elim
      rw [← t.other this]; exact hx
    exact hh.inj i j b' x y hi hj (key hx lx) (key hy ly) lx ly
  · simp only [GK.tokAt, GK.limAt]
    by_cases e : i = k
    · subst e; rw [if_pos rfl, t.get]
    · rw [if_neg e, t.other e]; exact hh.wm i
  · simp only [GK.tokAt, GK.limAt] at hi
    split at hi
    · rename_i e
      injection hi with hi
      subst hi; subst e
      refine ⟨by simpa using hblt, ⟨W, t.get⟩, fun id o hid ho => ?_, cur, et, fr, hsame, by rw [hlb]; omega, fun j hj => hfr j (by omega)⟩
      by_cases e2 : id = i
      · subst e2; rw [t.get] at ho; injection ho with ho; subst ho; exact fun h => h.elim
      · exact hnl id o hid (by rw [← t.other e2]; exact ho)
    · rename_i e
      obtain ⟨h1, ⟨q, h2⟩, h3, c', e', fr', h4, h5, h6⟩ := hh.tok i b' hi
      have hbb : b' ≠ b := by intro e'; subst e'; exact e (hh.tinj i k b' hi htb)
      refine ⟨by simpa using h1, ⟨q, by rw [t.other e]; exact h2⟩, fun id o hid ho => ?_, c', e', fr', by rw [hoth b' hbb]; exact h4, by rw [hl b' hbb]; exact h5, h6⟩
      by_cases e2 : id = k
      · subst e2; rw [t.get] at ho; injection ho with ho; subst ho; exact fun h => h.elim
      · exact h3 id o hid (by rw [← t.other e2]; exact ho)
  · simp only [GK.tokAt, GK.limAt] at hi hj
    split at hi <;> split at hj
    · simp_all
    · rename_i e1 e2
      injection hi with hi
      subst hi
      exact absurd (hh.tinj j k b hj htb) e2
    · rename_i e1 e2
      injection hj with hj
      subst hj
      exact absurd (hh.tinj i k b hi htb) e1
    · exact hh.tinj i j b' hi hj
  · have : q ≠ b := by simp at hq; omega
    rw [hl q this]
    exact hh.limb q (by simpa using hq)
  · rw [hcget, if_neg (by omega), if_pos (by have := lt_of_get hu; omega), Nat.add_sub_cancel_left]
    exact hu

end Go.Hw

set_option linter.unusedVariables false
set_option linter.unusedSimpArgs false
namespace Go.Hw
open Go

variable {P : Program}

structure Src (P : Program) (w : World) (sz m : Nat) (x : Value) (news : List Value) : Prop where
  len : ∀ w', (Builtin.lenOf x).run P w' = .ok m w'
  cells : ∀ w' : World, (∀ ad, w'.cell? ad = w.cell? ad) → (Builtin.firstCells sz m x).run P w' = .ok news.toArray w'
  size : news.length = m * sz

section
variable {w : World} {t u ty et : TypeId} {i : TypeInfo} {z : Value} {sz : Nat}

theorem run_append_zero {d : TypeDesc} (ht : P.underlying t = some (.slice et)) (hu : P.underlying u = some d) (hd : (∃ e, d = .slice e) ∨ d = .string) (hi : P.info? et = some i) (base : Option Addr) (n cap : Nat) (hcap : n ≤ cap) {x : Value} (hx : Src P w i.size 0 x []) :
    (Builtin.append_ #[t, u] ty #[.slice base n cap, x]).run P w = .ok (.slice base n cap) w := by
  have h1 := hx.len w
  have h2 := hx.cells w (fun _ => rfl)
  rcases hd with ⟨e, rfl⟩ | rfl <;> cases base <;>
    simp [Builtin.append_, run_underlying ht, run_underlying hu, sizeOf, typeInfo, hi, h1, h2, hcap, storeCells]

theorem run_append_fits {d : TypeDesc} (ht : P.underlying t = some (.slice et)) (hu : P.underlying u = some d) (hd : (∃ e, d = .slice e) ∨ d = .string) (hi : P.info? et = some i) (b o n cap m : Nat) (hcap : n + m ≤ cap) {x : Value} {news : List Value} (hx : Src P w i.size m x news)
    {w' : World} (hst : (storeCells ⟨b, o + n * i.size, none⟩ news).run P w = .ok () w') :
    (Builtin.append_ #[t, u] ty #[.slice (some ⟨b, o, none⟩) n cap, x]).run P w = .ok (.slice (some ⟨b, o, none⟩) (n + m) cap) w' := by
  have h1 := hx.len w
  have h2 := hx.cells w (fun _ => rfl)
  rcases hd with ⟨e, rfl⟩ | rfl <;>
    simp [Builtin.append_, run_underlying ht, run_underlying hu, sizeOf, typeInfo, hi, h1, h2, hcap, Addr.add_lit, hst]

theorem run_append_new {d : TypeDesc} (ht : P.underlying t = some (.slice et)) (hu : P.underlying u = some d) (hd : (∃ e, d = .slice e) ∨ d = .string) (hi : P.info? et = some i) (hz : i.zero = some z) (base : Option Addr) (n cap m : Nat) (hcap : cap < n + m) {x : Value} {news olds : List Value} (hx : Src P w i.size m x news)
    (hold : ∀ w' : World, (∀ ad, w'.cell? ad = w.cell? ad) → (Builtin.firstCells i.size n (.slice base n cap)).run P w' = .ok olds.toArray w') (hfit : (n + m) * i.bytes ≤ 140737488355328) (h63 : n + m ≤ 9223372036854775807) :
    (Builtin.append_ #[t, u] ty #[.slice base n cap, x]).run P w = .ok (.slice (some ⟨w.heap.size, 0, none⟩) (n + m) (grownCap w (n + m) cap et)) (w.drew.alloc (.cells (olds ++ news ++ (Builtin.zeroCells z.cells (grownCap w (n + m) cap et - (n + m))).toList).toArray et)) := by
  have h1 := hx.len w
  have h2 := hx.cells w.drew (fun _ => rfl)
  have h3 := hold w.drew (fun _ => rfl)
  have hn : ¬ (n + m ≤ cap) := by omega
  have h48 := growslice_fits hcap hfit
  have h48' : ¬ (281474976710656 < Builtin.nextslicecap (n + m) cap * i.bytes) := by omega
  have h63' : ¬ (9223372036854775807 < ((n : Int) + (m : Int))) := by omega
  rcases hd with ⟨e, rfl⟩ | rfl <;>
    (simp [Builtin.append_, run_underlying ht, run_underlying hu, sizeOf, typeInfo, zeroValue, hi, hz, h1, hn, h63', h48', Question.forced, h2, h3, newRow, grownCap]
     congr 2
     apply Array.ext'
     simp [List.append_assoc])
end

theorem grownCap_big (w : World) (n c : Nat) (e : TypeId) : n ≤ grownCap w n c e := grownCap_ge w n c e

section
variable {o : Oper} {a : Act} {K : GK} {w : World} {k : HV → Heap → Prop} {e : Env} {h : Heap} (base : Nat)

theorem src_list {ys : List HV} {tok : Tok} {v : Value} {sz : Nat} (hv : V K w (.list ys tok) v) (hw : ∀ y ∈ ys, y.cells.length = sz) :
    ∃ news, Src P w sz ys.length v news ∧ ∀ (j : Nat) (y : HV), (flat ys)[j]? = some y → y.leaf = true ∧ ∃ u, news[j]? = some u ∧ V K w y u := by
  cases hv with
  | nil _ _ => exact ⟨[], ⟨fun w' => by simp [Builtin.lenOf], fun w' _ => by simp [Builtin.firstCells], by simp⟩, fun j y hy => by simp [flat] at hy⟩
  | list0 _ _ ad =>
    refine ⟨[], ⟨fun w' => by simp [Builtin.lenOf], fun w' _ => ?_, by simp⟩, fun j y hy => by simp [flat] at hy⟩
    have := run_loadCells w' ad 0 (fun _ => (.bool false)) (P := P) (fun j hj => absurd hj (by omega))
    simpa [Builtin.firstCells] using this
  | list _ _ b of cap sz' vals hw' hleaf hvv hc hlim hcap htk =>
    have hfl := flat_length hw
    refine ⟨(List.range (flat ys).length).map vals, ⟨fun w' => by simp [Builtin.lenOf], fun w' hw' => ?_, by simp [hfl]⟩, fun j y hy => ?_⟩
    · simp only [Builtin.firstCells]
      rw [← hfl]
      exact run_loadCells w' ⟨b, of, none⟩ _ vals (fun j hj => by rw [Addr.add_lit, hw']; exact hc j hj)
    · exact ⟨hleaf y (List.mem_of_getElem? hy), vals j, by simp [lt_of_get hy], hvv j y hy⟩
theorem src_str (s : List UInt8) : Src P w 1 s.length (.string ⟨s.toArray⟩) (s.map fun c => .int .u8 c.toNat) := by
  refine ⟨fun w' => by simp [Builtin.lenOf, size_mk], fun w' _ => ?_, by simp⟩
  simp only [Builtin.firstCells, Sem.run_pure]
  congr 1
  apply Array.ext'
  simp [ByteArray.data_extract]
theorem flat_bytesOf (s : List UInt8) : flat (bytesOf s) = bytesOf s := by
  apply flat_bytes
  intro x hx
  simp only [bytesOf, List.mem_map] at hx
  obtain ⟨c, _, rfl⟩ := hx
  exact ⟨_, rfl⟩

theorem flat_strip1 {xs : List HV} (ht : ∀ x ∈ xs, isTuple x = false) : ∀ (j : Nat) (y : HV), (flat (xs.map HV.strip1))[j]? = some y → ∃ y0, (flat xs)[j]? = some y0 ∧ y.leaf = y0.leaf ∧ ∀ (K : GK) (w : World) (u : Value), V K w y0 u → V K w y u := by
  induction xs with
  | nil => intro j y hy; simp [flat] at hy
  | cons x r ih =>
    intro j y hy
    rw [List.map_cons, flat_cons, List.getElem?_append] at hy
    rw [flat_cons, List.getElem?_append, ← strip1_cells x]
    split at hy
    · rename_i hj
      rw [if_pos hj]
      cases x with
      | agg cs =>
        simp only [HV.strip1, HV.cells, List.getElem?_map, Option.map_eq_some_iff] at hy ⊢
        obtain ⟨y0, h0, rfl⟩ := hy
        exact ⟨y0, h0, leaf_strip y0, fun K w u hu => hu.strip⟩
      | tuple cs => have := ht _ List.mem_cons_self; simp [isTuple] at this
      | list hs tok =>
        simp only [HV.strip1, HV.cells] at hy ⊢
        cases j with
        | zero => simp at hy; subst hy; exact ⟨_, rfl, rfl, fun K w u hu => hu.strip⟩
        | succ j => simp at hy
      | _ =>
        simp only [HV.strip1, HV.cells] at hy ⊢
        exact ⟨y, hy, rfl, fun K w u hu => hu⟩
    · rename_i hj
      rw [if_neg hj]
      exact ih (fun z hz => ht z (List.mem_cons_of_mem _ hz)) _ y hy

theorem happend_sound {t u et : TypeId} {d : TypeDesc} {sz by_ : Nat} {z : HV} {hs ys : List HV} {tok : Tok} {sv xv : Value} {news : List Value} (ht : P.underlying t = some (.slice et)) (hu : P.underlying u = some d) (hd : (∃ e, d = .slice e) ∨ d = .string)
    (hsz : tsize P et = some sz) (hby : tbytes P et = some by_) (hz : tzero P et = some z) (hzl : z.cells.length = sz) (hsz0 : sz ≠ 0) (hby0 : by_ ≠ 0)
    (hs' : V K w (.list hs tok) sv) (hx : Src P w sz ys.length xv news) (hy : ∀ (j : Nat) (y : HV), (flat ys)[j]? = some y → y.leaf = true ∧ ∃ u, news[j]? = some u ∧ V K w y u)
    (hap : happend sz by_ h hs tok ys k) (hh : HeapRel K h w) (ty : TypeId) :
    ∃ x v K' w' h', (Builtin.append_ #[t, u] ty #[sv, xv]).run P w = .ok v w' ∧ Step K w K' w' ∧ HeapRel K' h' w' ∧ V K' w' x v ∧ k x h' := by
  obtain ⟨⟨hfit, hyw⟩, hap⟩ := hap
  obtain ⟨i, zu, hi, hzu, hzc⟩ := tzero_info hz
  have hisz : i.size = sz := by simp [tsize, hi] at hsz; exact hsz
  have hiby : i.bytes = by_ := by simp [tbytes, hi] at hby; exact hby
  have hzus : zu.cells.size = sz := by rw [← ((V_hconst (K := K) (w := w) hzc).cells (hconst_tuple hzc)).1]; exact hzl
  subst hisz; subst hiby
  have hyl := flat_length hyw
  have hnl := hx.size
  -- the two ends of a new block
  have newblock : ∀ {bs : Option Addr} {cap k0 W : Nat} {off : Nat} {h' : Heap} {olds : List Value}, sv = .slice bs hs.length cap → cap < hs.length + ys.length → (∀ x ∈ hs, x.cells.length = i.size) →
      (∀ w' : World, (∀ ad, w'.cell? ad = w.cell? ad) → (Builtin.firstCells i.size hs.length (.slice bs hs.length cap)).run P w' = .ok olds.toArray w') →
      olds.length = hs.length * i.size → (∀ (j : Nat) (y : HV), (flat hs)[j]? = some y → y.leaf = true ∧ ∃ u, olds[j]? = some u ∧ V K w y u) → TokPlace h h' k0 W → off + (hs.length + ys.length) = W → k (.list (hs ++ ys) (.own k0 off i.size)) h' →
      ∃ x v K' w' h', (Builtin.append_ #[t, u] ty #[sv, xv]).run P w = .ok v w' ∧ Step K w K' w' ∧ HeapRel K' h' w' ∧ V K' w' x v ∧ k x h' := by
    intro bs cap k0 W off h' olds hsv hcap hhw hold hol hoV htp hW hk
    subst hsv
    have h63 : hs.length + ys.length ≤ 9223372036854775807 := by
      have := Nat.le_mul_of_pos_right (hs.length + ys.length) (Nat.pos_of_ne_zero hby0)
      omega
    have hr := run_append_new (P := P) (w := w) (ty := ty) ht hu hd hi hzu bs hs.length cap ys.length hcap hx hold hfit h63
    have hcapge := grownCap_big w (hs.length + ys.length) cap et
    generalize hgc : grownCap w (hs.length + ys.length) cap et = gc at hr hcapge
    generalize hcells : (olds ++ news ++ (Builtin.zeroCells zu.cells (gc - (hs.length + ys.length))).toList).toArray = cells at hr
    have hcsz : cells.size = gc * i.size := by
      rw [← hcells]
      have := size_zeroCells zu.cells (gc - (hs.length + ys.length))
      simp only [List.size_toArray, List.length_append, hol, hnl, Array.length_toList, this, hzus]
      rw [Nat.sub_mul, Nat.add_mul]
      have := Nat.mul_le_mul_right i.size hcapge
      rw [Nat.add_mul] at this
      omega
    have hfl : (flat (hs ++ ys)).length = (hs.length + ys.length) * i.size := by
      rw [flat_append, List.length_append, flat_length hhw, hyl, Nat.add_mul]
    have hle : (hs.length + ys.length) * i.size ≤ cells.size := by rw [hcsz]; exact Nat.mul_le_mul_right _ hcapge
    obtain ⟨s, hh'⟩ := tok_push (w' := w.drew.alloc (.cells cells et)) (n := (hs.length + ys.length) * i.size) hh htp rfl rfl tk rfl hle
    have hV := V_newlist (K' := (K.limAt w.heap.size ((hs.length + ys.length) * i.size)).tokAt k0 W (some w.heap.size)) (w' := w.drew.alloc (.cells cells et)) (xs := hs ++ ys) (us := []) (sz := i.size) (b := w.heap.size) (cap := gc) (tok := .own k0 off i.size) (c := cells) (et := et) (fr := (0, 0))
      (fun x hx => by rcases List.mem_append.1 hx with h | h; exact hhw x h; exact hyw x h)
      (fun j y hjy => by
        rw [flat_append, List.getElem?_append, flat_length hhw] at hjy
        have hcg : ∀ q : Nat, cells[q]? = (olds ++ (news ++ (Builtin.zeroCells zu.cells (gc - (hs.length + ys.length))).toList))[q]? := fun q => by rw [← hcells]; simp only [List.getElem?_toArray, List.append_assoc]
        rw [hcg, List.getElem?_append, hol]
        split at hjy
        · rename_i hj
          obtain ⟨l, u', hu', hV⟩ := hoV j y hjy
          exact ⟨l, u', by rw [if_pos hj]; exact hu', hV.step s⟩
        · rename_i hj
          obtain ⟨l, u', hu', hV⟩ := hy _ y hjy
          exact ⟨l, u', by rw [if_neg hj, List.getElem?_append_left (lt_of_get hu')]; exact hu', hV.step s⟩)
      (heap_alloc_new w.drew _) (by rw [hfl]; simp [GK.limAt, GK.tokAt]) (by simpa using hcapge)
      (by
        refine ⟨by simp [GK.tokAt, ← hW], by rw [hfl]; simp, fun _ => .inr ⟨by simp [GK.tokAt, GK.limAt], by rw [hfl]; simp [GK.tokAt, GK.limAt], cells, et, (0, 0), heap_alloc_new w.drew _, by omega⟩⟩)
    refine ⟨_, _, _, _, _, hr, s, hh', ?_, hk⟩
    simpa using hV
  -- nothing is added
  have hnews0 : ys = [] → news = [] := fun e => List.eq_nil_of_length_eq_zero (by rw [hnl, e]; simp)
  have hslice : ∃ bs cap, sv = .slice bs hs.length cap ∧ hs.length ≤ cap := by
    cases hs' with
    | nil _ _ => exact ⟨none, 0, rfl, Nat.le_refl _⟩
    | list0 _ _ ad => exact ⟨some ad, 0, rfl, Nat.le_refl _⟩
    | list _ _ b of cap sz' vals hw' hleaf hvv hc hlim hcap htk => exact ⟨_, cap, rfl, hcap⟩
  have zero : ys = [] → (Builtin.append_ #[t, u] ty #[sv, xv]).run P w = .ok sv w := by
    intro e
    obtain ⟨bs, cap, rfl, hcap⟩ := hslice
    have hn := hnews0 e
    subst e; subst hn
    exact run_append_zero ht hu hd hi bs hs.length cap hcap hx
  -- the old cells
  have olds : ∀ {bs : Option Addr} {cap : Nat}, sv = .slice bs hs.length cap → (∀ x ∈ hs, x.cells.length = i.size) → ∃ os : List Value, (∀ w' : World, (∀ ad, w'.cell? ad = w.cell? ad) → (Builtin.firstCells i.size hs.length (.slice bs hs.length cap)).run P w' = .ok os.toArray w') ∧
      os.length = hs.length * i.size ∧ ∀ (j : Nat) (y : HV), (flat hs)[j]? = some y → y.leaf = true ∧ ∃ u, os[j]? = some u ∧ V K w y u := by
    intro bs cap hsv hhw
    subst hsv
    obtain ⟨os, h1, h2⟩ := src_list (P := P) hs' hhw
    exact ⟨os, h1.cells, h1.size, h2⟩
  cases tok with
  | none =>
    obtain ⟨hy0, hk⟩ := hap
    exact ⟨_, sv, K, w, h, zero hy0, .refl K w, hh, hs', hk⟩
  | full =>
    obtain ⟨hhw, hk⟩ := hap
    have htp : TokPlace h (h ++ [.tok (1 + (hs.length + ys.length))]) h.length (1 + (hs.length + ys.length)) := .inr ⟨rfl, rfl, by omega⟩
    obtain ⟨bs, cap, hsv, hcap⟩ := hslice
    have hcapn : cap = hs.length := by
      subst hsv
      cases hs' with
      | nil _ _ => rfl
      | list0 _ _ ad => rfl
      | list _ _ b of cap' sz' vals hw' hleaf hvv hc hlim hcap' htk => exact htk
    by_cases hy0 : ys = []
    · obtain ⟨s, hh'⟩ := tok_bare hh htp rfl
      refine ⟨_, sv, _, w, _, zero hy0, s, hh', ?_, hk⟩
      subst hy0
      simp only [List.append_nil, List.length_nil, Nat.add_zero]
      have hs2 := hs'.step s
      subst hsv
      cases hs2 with
      | nil _ _ => exact .nil _ (by simp [TokNil, GK.tokAt])
      | list0 _ _ ad => exact .list0 _ (by simp [TokNil, GK.tokAt]) ad
      | list _ _ b of cap' sz' vals hw' hleaf hvv hc hlim hcap' htk =>
        exact .list hs _ b of cap sz' vals hw' hleaf hvv hc hlim hcap' ⟨by simp [GK.tokAt], flat_length hhw, fun _ => .inl hcapn⟩
    · have hpos : 0 < ys.length := List.length_pos_iff.2 hy0
      obtain ⟨os, ho1, ho2, ho3⟩ := olds hsv hhw
      exact newblock hsv (by omega) hhw ho1 ho2 ho3 htp rfl hk
  | own k0 off sz' =>
    obtain ⟨rfl, htk0, hk⟩ := hap
    have hk0 : h[k0]? = some (.tok (off + hs.length)) := by
      unfold Heap.tokAt at htk0
      cases hg : h[k0]? with
      | none => simp [hg] at htk0
      | some ob => cases ob <;> simp [hg] at htk0; subst htk0; rfl
    have hwm : K.wm k0 = off + hs.length := by rw [hh.wm k0, hk0]
    by_cases hy0 : ys = []
    · subst hy0
      have hset : h.set k0 (.tok (off + (hs.length + 0))) = h := by
        apply List.ext_getElem?
        intro q
        by_cases hq : q = k0
        · subst hq; rw [List.getElem?_set_self (lt_of_get hk0), hk0]; rfl
        · rw [List.getElem?_set_ne (Ne.symm hq)]
      simp only [List.append_nil, List.length_nil, hset] at hk
      exact ⟨_, sv, K, w, h, zero rfl, .refl K w, hh, hs', hk⟩
    · have hpos : 0 < ys.length := List.length_pos_iff.2 hy0
      have htp : TokPlace h (h.set k0 (.tok (off + (hs.length + ys.length)))) k0 (off + (hs.length + ys.length)) := .inl ⟨_, hk0, by omega, rfl⟩
      obtain ⟨bs, cap, hsv, hcap⟩ := hslice
      -- the widths of what is there
      have hhw : ∀ x ∈ hs, x.cells.length = i.size := by
        cases hs' with
        | nil _ _ => intro x hx; simp at hx
        | list0 _ _ ad => intro x hx; simp at hx
        | list _ _ b of cap' sz'' vals hw' hleaf hvv hc hlim hcap' htk =>
          intro x hx
          have h1 := flat_length hw'
          have h2 := htk.2.1
          have hlp : 0 < hs.length := List.length_pos_of_mem hx
          rw [hw' x hx]
          exact Nat.eq_of_mul_eq_mul_left hlp (by rw [← h1, h2])
      by_cases hgrow : cap < hs.length + ys.length
      · obtain ⟨os, ho1, ho2, ho3⟩ := olds hsv hhw
        exact newblock hsv hgrow hhw ho1 ho2 ho3 htp rfl hk
      · subst hsv
        cases hs' with
        | nil _ _ => exact absurd (by simpa using hpos) hgrow
        | list0 _ _ ad => exact absurd (by simpa using hpos) hgrow
        | list _ _ b of cap' sz'' vals hw' hleaf hvv hc hlim hcap' htk =>
          obtain ⟨t1, t2, t3⟩ := htk
          rcases t3 (by omega) with t3 | ⟨t3, t4, c, et', fr, hb, hroom⟩
          · omega
          · have hone : ∀ v ∈ news, v.oneCell' = true := by
              intro v hv
              obtain ⟨q, hq⟩ := mem_get hv
              obtain ⟨y, hyq⟩ := get_of_lt (l := flat ys) (j := q) (by rw [hyl, ← hnl]; exact lt_of_get hq)
              obtain ⟨l, u', hu', hV⟩ := hy q y hyq
              rw [hq] at hu'
              injection hu' with hu'
              subst hu'
              exact hV.oneCell l
            have hfitc : K.lim b + news.length ≤ c.size := by
              rw [← t4, t2, hnl]
              have := Nat.mul_le_mul_right i.size (show hs.length + ys.length ≤ cap by omega)
              rw [Nat.add_mul] at this
              omega
            obtain ⟨w', hst, s, hh', c', hb', hcsz, hco, hcn⟩ := tok_fill (P := P) (K := K) (us := news) hh htp t3 hb hfitc hone
            have hst' : (storeCells ⟨b, of + hs.length * i.size, none⟩ news).run P w = .ok () w' := by rw [← t2, t4]; exact hst
            have hr := run_append_fits (P := P) (w := w) (ty := ty) ht hu hd hi b of hs.length cap ys.length (by omega) hx hst'
            have hfl : (flat (hs ++ ys)).length = (flat hs).length + news.length := by rw [flat_append, List.length_append, hyl, hnl]
            refine ⟨_, _, _, w', _, hr, s, hh', ?_, hk⟩
            have hcell' : ∀ j, j < (flat hs).length → w'.cell? ⟨b, of + j, none⟩ = some (vals j) := fun j hj => s.cell b _ _ (by omega) (hc j hj)
            have := V.list (K := (K.limAt b (K.lim b + news.length)).tokAt k0 (off + (hs.length + ys.length)) (some b)) (w := w') (hs ++ ys) (.own k0 off i.size) b of cap i.size
              (fun j => if j < (flat hs).length then vals j else (news[j - (flat hs).length]?).getD undef)
              (fun x hx => by rcases List.mem_append.1 hx with h | h; exact hhw x h; exact hyw x h)
              (fun x hx => by
                rw [flat_append] at hx
                rcases List.mem_append.1 hx with h | h
                · exact hleaf x h
                · obtain ⟨q, hq⟩ := mem_get h
                  exact (hy q x hq).1)
              (fun j y hj => by
                rw [flat_append, List.getElem?_append] at hj
                split at hj
                · rename_i hlt
                  simp only [if_pos hlt]
                  exact (hvv j y hj).step s
                · rename_i hlt
                  simp only [if_neg hlt]
                  obtain ⟨l, u', hu', hV⟩ := hy _ y hj
                  rw [hu']
                  exact hV.step s)
              (fun j hj => by
                rw [hfl] at hj
                by_cases hlt : j < (flat hs).length
                · simp only [if_pos hlt]; exact hcell' j hlt
                · simp only [if_neg hlt]
                  obtain ⟨v, hv⟩ := get_of_lt (l := news) (j := j - (flat hs).length) (by omega)
                  rw [cell_of_row _ b _ _ _ _ hb']
                  have := hcn _ v hv
                  rw [← t4] at this
                  rw [show of + (flat hs).length + (j - (flat hs).length) = of + j by omega] at this
                  rw [this, hv]; rfl)
              (fun _ => by rw [hfl]; simp [GK.limAt, GK.tokAt]; omega)
              (by simp; omega)
              (by
                refine ⟨by simp [GK.tokAt], by rw [hfl, t2, hnl, List.length_append, Nat.add_mul], fun _ => .inr ⟨by simp [GK.tokAt, GK.limAt], by rw [hfl]; simp [GK.tokAt, GK.limAt]; omega, c', et', fr, hb', by omega⟩⟩)
            simpa using this

end
end Go.Hw

