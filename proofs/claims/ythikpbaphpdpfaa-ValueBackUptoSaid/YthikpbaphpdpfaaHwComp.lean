/- From a function's code to the small code, with the types' data resolved. -/
import Derived.Test.YthikpbaphpdpfaaHwIr
set_option linter.unusedVariables false
namespace Go.Hw
open Go

def leafConst : Value → Option HV
  | .bool b => some (.bool b)
  | .int k n => some (.int k n)
  | .string s => some (.str s.data.toList)
  | .slice none 0 0 => some (.list [] .full)
  | .pointer none => some .nilptr
  | .map none => some .nilmap
  | .nilFunc => some .nilfunc
  | .nilIface => some .nilif
  | _ => none
def hconst : Value → Option HV
  | .agg cs => (cs.toList.mapM leafConst).map .agg
  | v => leafConst v

def cX : Operand → Option X
  | .tmp t => some (.t t)
  | .const v => (hconst v).map .c
  | .func f => some (.c (.func f []))
  | .global _ => none

def tsize (P : Program) (t : TypeId) : Option Nat := (P.info? t).map (·.size)
def tbytes (P : Program) (t : TypeId) : Option Nat := (P.info? t).map (·.bytes)
/-- some none: one cell; some (some n): an aggregate of n cells. -/
def tagg (P : Program) (t : TypeId) : Option (Option Nat) :=
  match P.underlying t with
  | some (.struct _) | some (.array _ _) => (tsize P t).map some
  | some _ => some none
  | none => none
def tzero (P : Program) (t : TypeId) : Option HV := do
  let i ← P.info? t
  hconst (← i.zero)
def scOf (P : Program) (t : TypeId) : Option Sc :=
  match P.underlying t with
  | some .bool => some .b
  | some (.int _) => some .i
  | some .string => some .s
  | _ => none
def scalarT (P : Program) (t : TypeId) : Bool :=
  match P.underlying t with
  | some .bool | some (.int _) | some .string => true
  | _ => false
def eqKind (P : Program) (t : TypeId) : Option EqK :=
  match P.underlying t with
  | some .bool => some .bool
  | some (.int _) => some .int
  | some .string => some .str
  | some (.pointer _) => some .ptr
  | some (.map _ _) => some .map
  | some (.func _ _ _) => some .func
  | some (.slice _) => some .slice
  | some (.struct fs) => if fs.toList.zipIdx.all (fun (f, i) => tsize P f.type == some 1 && f.offset == i && f.name != "_") && !P.stoodInHeld t && !P.eqGuardType P.depth t then (fs.toList.mapM fun f => scOf P f.type).map .agg else none
  | some (.array n e) => if !P.eqGuardType P.depth t && tsize P e == some 1 then (scOf P e).map fun k => .agg (List.replicate n k) else none
  | _ => none

/-- An operand of an equality: nil of a slice's type stays nil. -/
def cXe (x : Operand) : Option X :=
  match x with
  | .const (.slice none 0 0) => some (.c .nilslice)
  | x => cX x

def isIface : TypeDesc → Bool
  | .interface _ => true
  | _ => false
def cOpt : Option Operand → Option (Option X)
  | none => some none
  | some x => (cX x).map some

def cBuiltin (P : Program) (muts : Bool) (b : Builtin) (args : List X) (ts : Array TypeId) : Option O := do
  let t0 ← ts[0]?
  match b, args with
  | .len, [x] =>
    match P.underlying t0 with
    | some .string => some (.len true x)
    | some (.slice _) => some (.len false x)
    | some (.map _ _) => some (.maplen x)
    | some (.array n _) => some (.lenc n)
    | some (.pointer a) => match P.underlying a with
      | some (.array n _) => some (.lenc n)
      | _ => none
    | _ => none
  | .append, [s, x] => do
    let t1 ← ts[1]?
    match P.underlying t0 with
    | some (.slice e) => do
      let sz ← tsize P e
      let by_ ← tbytes P e
      let z ← tzero P e
      match P.underlying t1 with
      | some (.slice _) | some .string => if sz == 0 || by_ == 0 || z.cells.length != sz then none else if muts then some (.appendarr sz by_ s x) else some (.append sz by_ s x)
      | _ => none
    | _ => none
  | .copy, [d, s] => do
    match P.underlying t0 with
    | some (.slice e) => some (.copy (← tsize P e) d s)
    | _ => none
  | .delete, [m, k] =>
    match P.underlying t0 with
    | some (.map kt _) => (eqKind P kt).map fun kd => .mapdel kd m k
    | _ => none
  | .min, xs => some (.min xs)
  | .max, xs => some (.max xs)
  | _, _ => none

def cBin (P : Program) (op : BinOp) (t : TypeId) (x y : Operand) : Option O :=
  match op with
  | .eql => match P.underlying t, y with
    | some (.interface _), .const .nilIface => (cX x).map (.isnil false)
    | _, _ => do some (.eqv false (← eqKind P t) (← cXe x) (← cXe y))
  | .neq => match P.underlying t, y with
    | some (.interface _), .const .nilIface => (cX x).map (.isnil true)
    | _, _ => do some (.eqv true (← eqKind P t) (← cXe x) (← cXe y))
  | op => do some (.bin op (← cX x) (← cX y))
def cConv (P : Program) (src dst : TypeId) (x : Operand) : Option O := do
  let x ← cX x
  match P.underlying src, P.underlying dst with
  | some (.int _), some (.int k) => some (.conv (.int k) x)
  | some .string, some .string => some (.conv .same x)
  | some .string, some (.slice e) => if P.underlying e matches some (.int .u8) then some (.conv .toBytes x) else none
  | some (.slice e), some .string => if P.underlying e matches some (.int .u8) then some (.conv .ofBytes x) else none
  | _, _ => none
def cMkFunc (fn : Fn) (first caps : Array Operand) : Option O :=
  match fn with
  | .func f => do if first.size == 0 then some (.mkfunc f (← caps.toList.mapM cX)) else none
  | _ => none
def cCall (P : Program) (muts : Bool) (c : Call) : Option OC :=
  match c.callee with
  | .builtin b => (do cBuiltin P muts b (← c.args.toList.mapM cX) c.argTypes : Option O).map .op
  | .value (.func f) => do some (.call f (← c.args.toList.mapM cX))
  | .value f => do some (.callv (← cX f) (← c.args.toList.mapM cX))
  | .invoke _ _ => none

/-- r: the place that an operation which makes memory has within its region, if the region draws; muts: an append, or a make, that makes an array of its own. -/
def cOp (P : Program) (r : Option Nat) (muts : Bool) (o : Oper) : Option OC :=
  let p (x : Option O) : Option OC := x.map .op
  match o.op with
  | .move x | .assign x => p ((cX x).map .mv)
  | .pick c a b => p do some (.pick (← cX c) (← cX a) (← cX b))
  | .alloc e => p do some (.alloc r (← tzero P e).cells)
  | .box e x => p do some (.box r (← tsize P e) (← cX x))
  | .build t parts => p do
    let z ← tzero P t
    match P.underlying t with
    | some (.struct fs) =>
      let _ ← fs.toList.mapM fun f => tsize P f.type
      let ps ← parts.toList.mapM fun (i, x) => do
        let f ← fs[i]?
        some (f.offset, ← tsize P f.type, ← cX x)
      some (.build z.cells ps)
    | some (.array _ e) =>
      let n ← tsize P e
      let ps ← parts.toList.mapM fun (i, x) => do some (i * n, n, ← cX x)
      some (.build z.cells ps)
    | _ => none
  | .buildSlice t len parts => p do
    match P.underlying t with
    | some (.slice e) =>
      let n ← tsize P e
      let z ← tzero P e
      let xs ← (parts.toList.map (·.2)).mapM cX
      if n != 0 && z.cells.length == n && parts.toList.map (·.1) == List.range len && len * n ≤ 2 ^ 24 then some (.mklist n xs) else none
    | _ => none
  | .load t a => p do some (.load (← tagg P t) (← cX a))
  | .store t a x => p do some (.store (← tsize P t) (← cX a) (← cX x))
  | .nilCheck x => p do some (.nilck (← cX x))
  | .binOp op t x y _ => p (cBin P op t x y)
  | .unOp op t x => p do some (.un op (← cX x))
  | .convert src dst x => p (cConv P src dst x)
  | .makeFunc fn first caps => p (cMkFunc fn first caps)
  | .makeMap _ hint => p (match hint with
    | none => some (.mkmap r)
    | some _ => none)
  | .makeSlice t l c => p do
    match P.underlying t with
    | some (.slice e) =>
      let sz ← tsize P e
      if sz == 0 then none else some (.mkslice r sz (← tbytes P e) (← tzero P e).cells (← cX l) (← cX c))
    | _ => none
  | .slice t x lo hi mx => p do
    match P.underlying t with
    | some (.array n e) => match mx with
      | none => some (.slicearr n (← tsize P e) (← cX x) (← cOpt lo) (← cOpt hi))
      | some _ => none
    | some .string => match mx with
      | none => some (.sslice (← cX x) (← cOpt lo) (← cOpt hi))
      | some _ => none
    | some (.slice e) => some (.slice (← tsize P e) (← cX x) (← cOpt lo) (← cOpt hi) (← cOpt mx))
    | _ => none
  | .fieldAddr t x i => p do
    match P.underlying t with
    | some (.struct fs) => do
      let f ← fs[i]?
      let n ← tsize P f.type
      if n == 0 then none else some (.faddr f.offset n (← cX x))
    | _ => none
  | .field t x i => p do
    match P.underlying t with
    | some (.struct fs) => do
      let f ← fs[i]?
      some (.field f.offset (← tagg P f.type) (← cX x))
    | _ => none
  | .indexAddr t x i => p do
    match P.underlying t with
    | some (.slice e) => some (.iaddr (← tsize P e) (← cX x) (← cX i))
    | some (.array n e) => if n ≤ 1 then none else some (.iaddrarr n (← tsize P e) (← cX x) (← cX i))
    | _ => none
  | .index t x i => p do
    match P.underlying t with
    | some .string => some (.index (← cX x) (← cX i))
    | some (.array n e) => some (.indexarr n (← tsize P e) (← tagg P e).isSome (← cX x) (← cX i))
    | _ => none
  | .lookup t x i ok => p do
    match P.underlying t with
    | some (.map k e) => some (.lookup (← eqKind P k) (← tzero P e) ok (← cX x) (← cX i))
    | _ => none
  | .mapUpdate t m k x | .insert t m k x => p do
    match P.underlying t with
    | some (.map kt e) => some (.mapset (← eqKind P kt) (← cX m) (← cX k) (← cX x))
    | _ => none
  | .mapEntry t m k => p do
    match P.underlying t with
    | some (.map kt e) => some (.mapentry (← eqKind P kt) (← tzero P e) (← cX m) (← cX k))
    | _ => none
  | .entryStore t m s x => p do some (.entryset (← cX m) (← cX s) (← cX x))
  | .extract x i => p do some (.extract (← cX x) i)
  | .call c => cCall P muts c
  | .range t x => p do
    match P.underlying t with
    | some .string => some (.range true (← cX x))
    | some (.map _ _) => some (.range false (← cX x))
    | _ => none
  | .next x s => p do some (.next s (← cX x))
  | .entry x => p do some (.entry (← cX x))
  | .makeInterface t x => p do
    let d ← P.underlying t
    if isIface d then none else some (.mkif t (← cX x))
  | _ => none

def cGuard (ops : Array Oper) : Option (Nat × Bool) → Option (Option (Nat × Bool))
  | none => some none
  | some (j, b) => do
    let o ← ops[j]?
    let d ← o.dst
    some (some (d, b))

/-- The sites of a function where an append, or a make, is to make an array of its own: region, operation. And what is kept of the slots behind each region. -/
structure Ann where
  muts : List (Nat × Nat)
  acts : List FuncId
  keeps : List (Nat × List Nat)
  ords : List (Nat × List (Nat × Nat) × List (List Nat)) := []
  deriving Repr, Inhabited

def cOps (P : Program) (ann : Ann) (N : Nat) (id : Nat) (ops : Array Oper) (draw : Bool) : List Oper → Nat → Nat → Option (List Op × Nat)
  | [], _, r => some ([], r)
  | o :: rest, i, r => do
    let makes := draw && (match o.op with
      | .alloc _ | .box _ _ | .makeMap _ _ | .makeSlice .. => true
      | _ => false)
    let oc := (cOp P (if makes then some r else none) (ann.muts.contains (id, i)) o).getD (.op .bad)
    let g ← cGuard ops o.guard
    let (l, r') ← cOps P ann N id ops draw rest (i + 1) (if makes then r + 1 else r)
    if !(o.dst.all (· < N)) then none else some ({ dst := o.dst, o := oc, guard := g } :: l, r')

/-- Kinds of what an operation does to memory. -/
inductive Ef where
  | pure | read | rdmap | alloc | tok | pcall | act
  deriving DecidableEq, Repr

def efO : O → Ef
  | .alloc .. | .box .. | .mkmap .. | .mkslice .. => .alloc
  | .load .. | .slicearr .. | .conv .ofBytes _ => .read
  | .lookup .. | .maplen .. => .rdmap
  | .append .. => .tok
  | .store .. | .mapset .. | .mapentry .. | .entryset .. | .mapdel .. | .copy .. | .appendarr .. | .range .. | .next .. | .entry .. | .bad => .act
  | .conv .toBytes _ => .tok
  | _ => .pure
def efOC : OC → Ef
  | .op o => efO o
  | .call .. | .callv .. => .pcall

/-- May j, later in the text, be done ahead of i? -/
def swaps : Ef → Ef → Bool
  | .pure, _ | _, .pure => true
  | .act, _ | _, .act => false
  | .tok, .tok => false
  | .alloc, .read | .alloc, .rdmap => false
  | _, _ => true

/-- The slots that an operation reads. -/
def usesX : X → List Nat
  | .t n => [n]
  | .c _ => []
def usesO : O → List Nat
  | .mv x | .box _ _ x | .load _ x | .nilck x | .un _ x | .conv _ x | .faddr _ _ x | .field _ _ x | .extract x _ | .len _ x | .maplen x | .range _ x | .next _ x | .entry x | .mkif _ x | .isnil _ x => usesX x
  | .pick a b c | .mapset _ a b c | .entryset a b c => usesX a ++ usesX b ++ usesX c
  | .alloc .. | .mkmap .. | .lenc .. | .bad => []
  | .build _ ps => ps.flatMap fun p => usesX p.2.2
  | .mklist _ xs | .mkfunc _ xs | .min xs | .max xs => xs.flatMap usesX
  | .store _ a x | .bin _ a x | .eqv _ _ a x | .iaddr _ a x | .iaddrarr _ _ a x | .index a x | .indexarr _ _ _ a x | .lookup _ _ _ a x | .mapentry _ _ a x | .mapdel _ a x | .append _ _ a x | .appendarr _ _ a x | .copy _ a x => usesX a ++ usesX x
  | .mkslice _ _ _ _ l c => usesX l ++ usesX c
  | .slice _ x lo hi mx => usesX x ++ (lo.map usesX).getD [] ++ (hi.map usesX).getD [] ++ (mx.map usesX).getD []
  | .sslice x lo hi | .slicearr _ _ x lo hi => usesX x ++ (lo.map usesX).getD [] ++ (hi.map usesX).getD []
def usesOC : OC → List Nat
  | .op o => usesO o
  | .call _ xs => xs.flatMap usesX
  | .callv f xs => usesX f ++ xs.flatMap usesX
def usesOp (o : Op) : List Nat := (match o.guard with | some (t, _) => [t] | none => []) ++ usesOC o.o
def indep (x y : Op) : Bool :=
  (match x.dst with | some d => !(usesOp y).contains d && y.dst != some d | none => true) &&
  (match y.dst with | some d => !(usesOp x).contains d | none => true)
/-- A call that does more than compute. -/
def isAct (acts : List FuncId) : OC → Bool
  | .call f _ => acts.contains f
  | .callv _ _ => !acts.isEmpty
  | .op (.eqv _ .slice _ _) => true
  | .op (.next false _) => true
  | _ => false
/-- How many operations stand ahead of the first such call. -/
def quiets (acts : List FuncId) : List Op → Nat
  | [] => 0
  | o :: r => if isAct acts o.o then 0 else quiets acts r + 1
/-- What is made has its place. -/
def placedB : OC → Bool
  | .op (.alloc r _) | .op (.box r _ _) | .op (.mkmap r) | .op (.mkslice r ..) => r.isSome
  | _ => true
def drawOk (ops : Array Oper) (l : List Op) (q : Nat) : Bool :=
  let b := Region.before ops
  l.all (fun o => placedB o.o) && decide (l.length = ops.size) && (List.range l.length).all (fun j => (ops.getD j default).after.all fun ed => !Region.binds .any ed || decide (ed.on < j)) &&
  (List.range l.length).all fun j => (List.range j).all fun i =>
    (b.getD j 0).testBit i ||
    (decide (j < q) && (match l[i]?, l[j]? with
     | some x, some y => swaps (efOC x.o) (efOC y.o) && indep x y
     | _, _ => false))

/-- Only computes, and may stand later. -/
def pureQ : Op → Bool
  | ⟨_, .op o, _⟩ => efO o == .pure && (match o with | .eqv _ .slice _ _ => false | _ => true)
  | _ => false
def swap3 (acts : List FuncId) (x y : Op) : Bool :=
  indep x y && (pureQ x || (!isAct acts x.o && !isAct acts y.o && placedB x.o && placedB y.o && swaps (efOC x.o) (efOC y.o)))
def opOf (l : List Op) (i : Nat) : Op := l.getD i default
def pairs3 (ok : Nat → Nat → Bool) : List Nat → Bool
  | [] => true
  | x :: r => r.all (ok x) && pairs3 ok r
def cover3 (b : Array Nat) (ps : List (List Nat)) : List (Nat × Nat) → List (Nat × Nat) → Bool
  | [], dec => dec.any (fun p => dec.any fun q => (p.2 == q.1 || (b.getD q.1 0).testBit p.2) && (q.2 == p.1 || (b.getD p.1 0).testBit q.2)) || ps.any fun p => dec.all fun u => [u.1, u.2].isSublist p
  | (x, y) :: r, dec => cover3 b ps r ((x, y) :: dec) && cover3 b ps r ((y, x) :: dec)
/-- Orders that stand for all of them. -/
def drawOk3 (ops : Array Oper) (acts : List FuncId) (l : List Op) (us : List (Nat × Nat)) (ps : List (List Nat)) : Bool :=
  let b := Region.before ops
  decide (l.length = ops.size) && ((List.range l.length).all fun j => (ops.getD j default).after.all fun ed => !Region.binds .any ed || decide (ed.on < j)) &&
  (ps.all fun p => decide (p.length = ops.size) && decide p.Nodup && p.all (fun i => decide (i < ops.size)) &&
    pairs3 (fun x y => (b.getD y 0).testBit x || swap3 acts (opOf l x) (opOf l y) || us.contains (x, y) || us.contains (y, x)) p) &&
  us.all (fun u => decide (u.1 < ops.size) && decide (u.2 < ops.size) && u.1 != u.2) && cover3 b ps us []

def comp (P : Program) (ann : Ann) (N : Nat) : Code → Option C
  | .skip => some .skip
  | .region id ops draw => do
    let keep := ((ann.keeps.find? (·.1 == id)).map (·.2)).getD []
    let (l, r) ← cOps P ann N id ops draw ops.toList 0 0
    if draw then match ann.ords.find? (·.1 == id) with
     | some (_, us, ps) => if drawOk3 ops ann.acts l us ps then some (.dord ann.acts (ps.map fun p => p.map (opOf l)) r keep) else none
     | none =>
      let q := quiets ann.acts l
      if drawOk ops l q then
        some (.dreg (l.take q) (l.drop q) r keep)
      else none
    else some (.reg l keep)
  | .seq a b => do some (.seq (← comp P ann N a) (← comp P ann N b))
  | .cond c a b => do some (.cond (← cX c) (← comp P ann N a) (← comp P ann N b))
  | .block id c => do some (.block id (← comp P ann N c))
  | .loop c => do some (.loop (← comp P ann N c))
  | .exit id => some (.exit id)
  | .ret => some .ret
  | .rangeFunc .. => some (.bad 1)
  | .scope _ => some (.bad 2)
  | .label _ => some (.bad 3)
  | .goto _ => some (.bad 4)
  | .refuse _ => some (.bad 5)

/-! ### which slots are read behind -/
def Xr : Operand → List Nat
  | .tmp t => [t]
  | _ => []
def readsOf (ops : Array Oper) : List Nat := ops.toList.flatMap fun o => o.op.operands.toList.flatMap Xr
def ins (t : Nat) : List Nat → List Nat
  | [] => [t]
  | u :: r => if t = u then u :: r else if t < u then t :: u :: r else u :: ins t r
def uni (a b : List Nat) : List Nat := a.foldl (fun acc t => ins t acc) b
/-- Backwards through a region: what is wanted ahead of it. -/
def liveOps : List Oper → List Nat → List Nat
  | [], out => out
  | o :: r, out =>
    let l := liveOps r out
    let l := match o.dst with
      | some d => l.filter (· != d)
      | _ => l
    uni (o.op.operands.toList.flatMap Xr) l
/-- What is wanted ahead of a piece of code; what is wanted at the ends of blocks; and the keeps. -/
def live : Code → List Nat → List (Nat × List Nat) → List Nat → List Nat × List (Nat × List Nat)
  | .skip, out, _, _ => (out, [])
  | .region id ops _, out, _, _ => (liveOps ops.toList out, [(id, out)])
  | .seq a b, out, bl, rt =>
    let (x, k) := live b out bl rt
    let (y, l) := live a x bl rt
    (y, l ++ k)
  | .cond c a b, out, bl, rt =>
    let (x, k) := live a out bl rt
    let (y, l) := live b out bl rt
    (uni (Xr c) (uni x y), k ++ l)
  | .block id c, out, bl, rt => live c out ((id, out) :: bl) rt
  | .loop c, out, bl, rt =>
    -- three times through
    let (x, _) := live c [] bl rt
    let (y, _) := live c x bl rt
    let (z, k) := live c (uni x y) bl rt
    (uni z y, k)
  | .exit id, _, bl, _ => (((bl.find? (·.1 == id)).map (·.2)).getD [], [])
  | .ret, _, _, rt => (rt, [])
  | .rangeFunc .., out, _, _ => (out, [])
  | _, out, _, _ => (out, [])
def _root_.Go.Func.code (f : Func) : Code := f.body.getD .skip
def resSlots (f : Func) : List Nat := f.results.toList.filterMap fun | .tmp t => some t | _ => none
def annOf (f : Func) (muts : List (Nat × Nat)) (acts : List FuncId) : Ann :=
  match f.body with
  | some c => { muts, acts, keeps := (live c (resSlots f) [] (resSlots f)).2 }
  | none => { muts, acts, keeps := [] }

end Go.Hw
