/- The weakest precondition of the small code. -/
import Derived.Test.YthikpbaphpdpfaaHwComp
set_option linter.unusedVariables false
namespace Go.Hw
open Go

/-! ### 1. arithmetic -/
abbrev bytesLess := Op.bytesLess

/-- What a binary operation on whole numbers gives; its condition beside it. -/
def ibin (op : BinOp) (k : IntKind) (a b : Int) : Option HV :=
  match op with
  | .add => some (.int k (k.wrap (a + b)))
  | .sub => some (.int k (k.wrap (a - b)))
  | .mul => some (.int k (k.wrap (a * b)))
  | .quo => some (.int k (k.wrap (a.tdiv b)))
  | .rem => some (.int k (a.tmod b))
  | .and => some (.int k (k.wrap (BitVec.ofInt k.bits a &&& BitVec.ofInt k.bits b).toNat))
  | .or => some (.int k (k.wrap (BitVec.ofInt k.bits a ||| BitVec.ofInt k.bits b).toNat))
  | .xor => some (.int k (k.wrap (BitVec.ofInt k.bits a ^^^ BitVec.ofInt k.bits b).toNat))
  | .andNot => some (.int k (k.wrap (BitVec.ofInt k.bits a &&& ~~~ BitVec.ofInt k.bits b).toNat))
  | .shl => some (.int k (k.wrap (a * 2 ^ (min b.toNat k.bits))))
  | .shr => some (.int k (a.fdiv (2 ^ (min b.toNat k.bits))))
  | .eql => some (.bool (a == b))
  | .neq => some (.bool (a != b))
  | .lss => some (.bool (a < b))
  | .leq => some (.bool (a ≤ b))
  | .gtr => some (.bool (a > b))
  | .geq => some (.bool (a ≥ b))
def ibinOk (op : BinOp) (b : Int) : Prop :=
  match op with
  | .quo | .rem => b ≠ 0
  | .shl | .shr => 0 ≤ b
  | _ => True
def sbin (op : BinOp) (a b : List UInt8) : Option HV :=
  match op with
  | .add => some (.str (a ++ b))
  | .eql => some (.bool (a == b))
  | .neq => some (.bool (a != b))
  | .lss => some (.bool (bytesLess a b))
  | .leq => some (.bool (bytesLess a b || a == b))
  | .gtr => some (.bool (!(bytesLess a b || a == b)))
  | .geq => some (.bool (!bytesLess a b))
  | _ => none
def sbinOk (op : BinOp) (a b : List UInt8) : Prop :=
  match op with
  | .add => a.length + b.length ≤ 9223372036854775807
  | _ => True
def iun (op : UnOp) (k : IntKind) (n : Int) : Option HV :=
  match op with
  | .neg => some (.int k (k.wrap (-n)))
  | .xor => some (.int k (k.wrap (BitVec.ofInt k.bits (if k.signed then -1 else k.max) ^^^ BitVec.ofInt k.bits n).toNat))
  | _ => none

/-- Can two single cells be compared here? -/
def eqsOk : EqK → HV → HV → Prop
  | .bool, .bool _, .bool _ | .str, .str _, .str _ => True
  | .int, .int j _, .int k _ => j = k
  | .ptr, .nilptr, .nilptr | .ptr, .ptr _ _, .nilptr | .ptr, .nilptr, .ptr _ _ | .ptr, .rptr _, .nilptr | .ptr, .nilptr, .rptr _ => True
  | .map, .nilmap, .nilmap | .map, .map _, .nilmap | .map, .nilmap, .map _ => True
  | .func, .nilfunc, .nilfunc | .func, .func _ _, .nilfunc | .func, .nilfunc, .func _ _ => True
  | .slice, .list _ _, .nilslice | .slice, .nilslice, .list _ _ | .slice, .arr _ _ _ _, .nilslice | .slice, .nilslice, .arr _ _ _ _ => True
  | _, _, _ => False
/-- What their equality may come to. -/
def HV.eqs : HV → HV → Bool → Prop
  | .bool a, .bool b, t => t = (a == b)
  | .int _ a, .int _ b, t => t = (a == b)
  | .str a, .str b, t => t = (a == b)
  | .nilptr, .nilptr, t | .nilmap, .nilmap, t | .nilfunc, .nilfunc, t | .nilslice, .nilslice, t => t = true
  | .arr _ _ n _, .nilslice, t | .nilslice, .arr _ _ n _, t => n ≠ 0 → t = false
  | .list hs _, .nilslice, t | .nilslice, .list hs _, t => hs ≠ [] → t = false
  | _, _, t => t = false
/-- Equality of single cells. -/
def Sc.eq : Sc → HV → HV → Option Bool
  | .b, .bool x, .bool y => some (x == y)
  | .i, .int j x, .int k y => if j = k then some (x == y) else none
  | .s, .str x, .str y => some (x == y)
  | _, _, _ => none
def eqCells : List Sc → List HV → List HV → Option Bool
  | [], [], [] => some true
  | k :: ks, a :: x, b :: y => match Sc.eq k a b, eqCells ks x y with
    | some p, some q => some (p && q)
    | _, _ => none
  | _, _, _ => none
/-- Equality of map keys. -/
def keq (kd : EqK) (a b : HV) : Option Bool :=
  match kd, a, b with
  | .bool, a, b => Sc.eq .b a b
  | .int, a, b => Sc.eq .i a b
  | .str, a, b => Sc.eq .s a b
  | .agg ks, .agg x, .agg y => eqCells ks x y
  | _, _, _ => none

def isTuple : HV → Bool
  | .tuple _ => true
  | _ => false

/-! ### 2. memory -/
def Heap.cells (h : Heap) (id : Nat) : Option (List HV) :=
  match h[id]? with
  | some (.cells cs) => some cs
  | _ => none
def Heap.mapAt (h : Heap) (id : Nat) : Option (List (Nat × HV × HV) × Nat) :=
  match h[id]? with
  | some (.map es c) => some (es, c)
  | _ => none
def Heap.tokAt (h : Heap) (k : Nat) : Option Nat :=
  match h[k]? with
  | some (.tok n) => some n
  | _ => none
/-- n cells from off on become vs. -/
def putAt (cs : List HV) (off : Nat) (vs : List HV) : List HV := cs.take off ++ vs ++ cs.drop (off + vs.length)
/-- Where a key stands among the entries of a map. -/
def mfind (kd : EqK) (key : HV) : List (Nat × HV × HV) → Option (Option Nat)
  | [] => some none
  | (_, k, _) :: r => match keq kd key k with
    | some true => some (some 0)
    | some false => (mfind kd key r).map (·.map (· + 1))
    | none => none
def evAt (es : List (Nat × HV × HV)) (i : Nat) : Option HV := (es[i]?).map (·.2.2)

/-- A new block: at the end, or at the place that is kept for it. -/
def hnew (base : Nat) (r : Option Nat) (h : Heap) (o : HObj) (k : Nat → Heap → Prop) : Prop :=
  match r with
  | none => k h.length (h ++ [o])
  | some j => h[base + j]? = some .res ∧ k (base + j) (h.set (base + j) o)

def one? : List HV → Option HV
  | [v] => some v
  | _ => none
def atCells (n : Option Nat) (cs : List HV) : Option HV :=
  match n with
  | none => cs.head?
  | some m => if m ≤ cs.length then some (.agg (cs.take m)) else none

def fillCells (cs : List HV) : List (Nat × Nat × HV) → Option (List HV)
  | [] => some cs
  | (off, n, v) :: r => if v.cells.length = n ∧ off + n ≤ cs.length ∧ isTuple v = false then fillCells (putAt cs off v.cells) r else none

def evs (e : Env) : List X → Option (List HV)
  | [] => some []
  | x :: r => match x.ev e, evs e r with
    | some v, some vs => some (v :: vs)
    | _, _ => none
def evParts (e : Env) : List (Nat × Nat × X) → Option (List (Nat × Nat × HV))
  | [] => some []
  | (a, b, x) :: r => match x.ev e, evParts e r with
    | some v, some vs => some ((a, b, v) :: vs)
    | _, _ => none

/-- A bound of a slice: none: what stands there. -/
def bnd (e : Env) (d : Int) : Option X → Option Int
  | none => some d
  | some x => match x.ev e with
    | some (.int _ n) => some n
    | _ => none

def minInt (a b : Int) : Int := if b < a then b else a
def maxInt (a b : Int) : Int := if b > a then b else a
def numOf : HV → Int
  | .int _ n => n
  | _ => 0
def foldInt (g : Int → Int → Int) (a : Int) (r : List HV) : Int := r.foldl (fun m v => g m (numOf v)) a

def bytesOf (s : List UInt8) : List HV := s.map fun c => .int .u8 c.toNat
def strOf (hs : List HV) : List UInt8 := hs.map fun | .int _ n => UInt8.ofNat n.toNat | _ => 0
def isBytes (hs : List HV) : Prop := ∀ h ∈ hs, ∃ n, h = .int .u8 n

/-- What the slice may have appended with nothing lost: ys cells behind hs. -/
def happend (sz by_ : Nat) (h : Heap) (hs : List HV) (tok : Tok) (ys : List HV) (k : HV → Heap → Prop) : Prop :=
  ((hs.length + ys.length) * by_ ≤ 140737488355328 ∧ ∀ y ∈ ys, y.cells.length = sz) ∧
  match tok with
  | .none => ys = [] ∧ k (.list hs .none) h
  | .full => (∀ x ∈ hs, x.cells.length = sz) ∧ k (.list (hs ++ ys) (.own h.length 1 sz)) (h ++ [.tok (1 + (hs.length + ys.length))])
  | .own id off sz' => sz' = sz ∧ Heap.tokAt h id = some (off + hs.length) ∧ k (.list (hs ++ ys) (.own id off sz)) (h.set id (.tok (off + (hs.length + ys.length))))

/-- The token of a cut: it stays if the end stays. -/
def cutTok (toEnd : Bool) (p : Nat) : Tok → Tok
  | .full => if toEnd then .full else .none
  | .own i o z => if toEnd then .own i (o + p) z else .none
  | .none => .none

/-! ### 3. one operation -/
def hstep (base : Nat) (o : O) (e : Env) (h : Heap) (k : HV → Heap → Prop) : Prop :=
  match o with
  | .mv x => match x.ev e with
    | some v => k v h
    | _ => False
  | .pick c a b => match c.ev e, a.ev e, b.ev e with
    | some (.bool t), some x, some y => (t = true → k x h) ∧ (t = false → k y h)
    | _, _, _ => False
  | .alloc r z => hnew base r h (.cells z) fun i h' => k (.ptr i 0) h'
  | .box r n x => match x.ev e with
    | some v => (v.cells.length = n ∧ isTuple v = false) ∧ hnew base r h (.cells v.cells) fun i h' => k (.ptr i 0) h'
    | _ => False
  | .build z ps => match evParts e ps with
    | some l => match fillCells z l with
      | some cs => k (.agg cs) h
      | _ => False
    | _ => False
  | .mklist sz xs => match evs e xs with
    | some vs => (∀ v ∈ vs, v.cells.length = sz ∧ isTuple v = false) ∧ k (.list (vs.map HV.strip1) .full) h
    | _ => False
  | .load n x => match x.ev e with
    | some (.rptr cs) => match atCells n cs with
      | some v => k v h
      | _ => False
    | some (.ptr id off) => match Heap.cells h id with
      | some cs => match atCells n (cs.drop off) with
        | some v => k v h
        | _ => False
      | _ => False
    | _ => False
  | .store n a x => match a.ev e, x.ev e with
    | some (.ptr id off), some v => match Heap.cells h id with
      | some cs => (v.cells.length = n ∧ off + n ≤ cs.length ∧ isTuple v = false) ∧ k (.tuple []) (h.set id (.cells (putAt cs off v.cells)))
      | _ => False
    | _, _ => False
  | .nilck x => match x.ev e with
    | some (.ptr i o) => k (.ptr i o) h
    | some (.rptr cs) => k (.rptr cs) h
    | some (.func f cs) => k (.func f cs) h
    | _ => False
  | .bin op x y => match x.ev e, y.ev e with
    | some (.int i a), some (.int j b) => (i = j ∨ op = .shl ∨ op = .shr) ∧ ibinOk op b ∧ (match ibin op i a b with
      | some v => k v h
      | _ => False)
    | some (.str a), some (.str b) => sbinOk op a b ∧ (match sbin op a b with
      | some v => k v h
      | _ => False)
    | _, _ => False
  | .eqv neg kd x y => match x.ev e, y.ev e with
    | some a, some b => match kd with
      | .agg n => match a, b with
        | .agg cs, .agg ds => match eqCells n cs ds with
          | some t => k (.bool (if neg then !t else t)) h
          | _ => False
        | _, _ => False
      | kd => eqsOk kd a b ∧ ∀ t, HV.eqs a b t → k (.bool (if neg then !t else t)) h
    | _, _ => False
  | .un op x => match x.ev e with
    | some (.int i a) => match iun op i a with
      | some v => k v h
      | _ => False
    | some (.bool t) => op = .not ∧ k (.bool (!t)) h
    | _ => False
  | .conv c x => match c, x.ev e with
    | .int i, some (.int _ a) => k (.int i (i.wrap a)) h
    | .same, some (.str s) => k (.str s) h
    | .toBytes, some (.str s) => k (.list (bytesOf s) (.own h.length 1 1)) (h ++ [.tok (1 + s.length)])
    | .ofBytes, some (.list hs _) => isBytes hs ∧ k (.str (strOf hs)) h
    | .ofBytes, some (.arr id off n sz) => match Heap.cells h id with
      | some cs => (sz = 1 ∧ off + n ≤ cs.length ∧ isBytes ((cs.drop off).take n)) ∧ k (.str (strOf ((cs.drop off).take n))) h
      | _ => False
    | _, _ => False
  | .mkfunc f xs => match evs e xs with
    | some vs => k (.func f (vs.map HV.strip1)) h
    | _ => False
  | .mkmap r => hnew base r h (.map [] 0) fun i h' => k (.map i) h'
  | .mkslice r sz by_ z l c => match l.ev e, c.ev e with
    | some (.int .i64 n), some (.int .i64 m) => (n = m ∧ 0 ≤ n ∧ n ≤ 9223372036854775807 ∧ n * by_ ≤ 281474976710656 ∧ z.length = sz) ∧
      hnew base r h (.cells (List.replicate n.toNat z).flatten) fun i h' => k (.arr i 0 n.toNat sz) h'
    | _, _ => False
  | .sslice x lo hi => match x.ev e with
    | some (.str s) => match bnd e 0 lo, bnd e s.length hi with
      | some a, some b => (0 ≤ a ∧ a ≤ b ∧ b ≤ s.length) ∧ k (.str ((s.take b.toNat).drop a.toNat)) h
      | _, _ => False
    | _ => False
  | .slice sz x lo hi mx => match x.ev e with
    | some (.list hs tok) => match mx with
      | none => match bnd e 0 lo, bnd e hs.length hi with
        | some a, some b => (0 ≤ a ∧ a ≤ b ∧ b ≤ hs.length ∧ ∀ y ∈ hs, y.cells.length = sz) ∧
          k (.list ((hs.take b.toNat).drop a.toNat) (cutTok hi.isNone a.toNat tok)) h
        | _, _ => False
      | some m => match bnd e 0 lo, hi.bind fun y => bnd e 0 (some y), bnd e 0 (some m) with
        | some a, some b, some c => (0 ≤ a ∧ a ≤ b ∧ b = c ∧ c ≤ hs.length ∧ ∀ y ∈ hs, y.cells.length = sz) ∧ k (.list ((hs.take b.toNat).drop a.toNat) .full) h
        | _, _, _ => False
    | some (.arr id off n z) => match mx with
      | none => match bnd e 0 lo, bnd e n hi with
        | some a, some b => (z = sz ∧ 0 ≤ a ∧ a ≤ b ∧ b ≤ n) ∧ k (.arr id (off + a.toNat * sz) (b - a).toNat sz) h
        | _, _ => False
      | some _ => False
    | _ => False
  | .slicearr n sz x lo hi => match x.ev e with
    | some (.ptr id off) => match bnd e 0 lo, bnd e n hi, Heap.cells h id with
      | some a, some b, some cs => (0 ≤ a ∧ a ≤ b ∧ b ≤ n ∧ off + n * sz ≤ cs.length) ∧ k (.arr id (off + a.toNat * sz) (b - a).toNat sz) h
      | _, _, _ => False
    | _ => False
  | .faddr f n x => match x.ev e with
    | some (.ptr id off) => k (.ptr id (off + f)) h
    | some (.rptr cs) => f < cs.length ∧ k (.rptr (cs.drop f)) h
    | _ => False
  | .field f n x => match x.ev e with
    | some (.agg cs) => match atCells n (cs.drop f) with
      | some v => k v h
      | _ => False
    | _ => False
  | .iaddr sz x i => match x.ev e, i.ev e with
    | some (.list hs _), some (.int _ n) => (0 ≤ n ∧ n < hs.length) ∧ (match hs[n.toNat]? with
      | some v => v.cells.length = sz ∧ k (.rptr v.cells) h
      | _ => False)
    | some (.arr id off m z), some (.int _ n) => (0 ≤ n ∧ n < m ∧ z = sz) ∧ k (.ptr id (off + n.toNat * sz)) h
    | _, _ => False
  | .iaddrarr m sz x i => match x.ev e, i.ev e with
    | some (.ptr id off), some (.int _ n) => (0 ≤ n ∧ n < m) ∧ k (.ptr id (off + n.toNat * sz)) h
    | some (.rptr cs), some (.int _ n) => (0 ≤ n ∧ n < m ∧ n.toNat * sz < cs.length) ∧ k (.rptr (cs.drop (n.toNat * sz))) h
    | _, _ => False
  | .index x i => match x.ev e, i.ev e with
    | some (.str s), some (.int _ n) => (0 ≤ n ∧ n < s.length) ∧ k (.int .u8 (s.getD n.toNat 0).toNat) h
    | _, _ => False
  | .indexarr m sz ag x i => match x.ev e, i.ev e with
    | some (.agg cs), some (.int _ n) => (0 ≤ n ∧ n < m) ∧ (match atCells (if ag then some sz else none) (cs.drop (n.toNat * sz)) with
      | some v => k v h
      | _ => False)
    | _, _ => False
  | .lookup kd z ok x i => match x.ev e, i.ev e with
    | some (.map id), some key => match Heap.mapAt h id with
      | some (es, _) => keq kd key key = some true ∧ (match mfind kd key es with
        | some (some j) => match evAt es j with
          | some v => k (if ok then .tuple [v, .bool true] else v) h
          | none => False
        | some none => k (if ok then .tuple [z, .bool false] else z) h
        | none => False)
      | _ => False
    | some .nilmap, some key => keq kd key key = some true ∧ k (if ok then .tuple [z, .bool false] else z) h
    | _, _ => False
  | .mapset kd m key v => match m.ev e, key.ev e, v.ev e with
    | some (.map id), some a, some b => match Heap.mapAt h id with
      | some (es, c) => (keq kd a a = some true ∧ isTuple b = false) ∧ (match mfind kd a es with
        | some (some j) => match es[j]? with
          | some (n, _, _) => k (.tuple []) (h.set id (.map (es.set j (n, a, b)) c))
          | none => False
        | some none => k (.tuple []) (h.set id (.map (es ++ [(c, a, b)]) (c + 1)))
        | none => False)
      | _ => False
    | _, _, _ => False
  | .mapentry kd z m key => match m.ev e, key.ev e with
    | some (.map id), some a => match Heap.mapAt h id with
      | some (es, c) => keq kd a a = some true ∧ (match mfind kd a es with
        | some (some j) => match es[j]? with
          | some (n, _, v) => k (.tuple [v, .int .i64 n]) (h.set id (.map (es.set j (n, a, v)) c))
          | none => False
        | some none => k (.tuple [z, .int .i64 c]) (h.set id (.map (es ++ [(c, a, z)]) (c + 1)))
        | none => False)
      | _ => False
    | _, _ => False
  | .entryset m s v => match m.ev e, s.ev e, v.ev e with
    | some (.map id), some (.int .i64 n), some b => match Heap.mapAt h id with
      | some (es, c) => isTuple b = false ∧ (match es.findIdx? (fun p => (p.1 : Int) == n) with
        | some j => match es[j]? with
          | some (q, a, _) => k (.tuple []) (h.set id (.map (es.set j (q, a, b)) c))
          | none => False
        | none => False)
      | _ => False
    | _, _, _ => False
  | .mapdel kd m key => match m.ev e, key.ev e with
    | some (.map id), some a => match Heap.mapAt h id with
      | some (es, c) => keq kd a a = some true ∧ (match mfind kd a es with
        | some (some j) => k (.tuple []) (h.set id (.map (es.eraseIdx j) c))
        | some none => k (.tuple []) h
        | none => False)
      | _ => False
    | _, _ => False
  | .range st x => match st, x.ev e with
    | true, some (.str s) => k (.ptr h.length 0) (h ++ [.siter s 0])
    | false, some .nilmap => k (.ptr h.length 0) (h ++ [.iter none 0 [] 0])
    | false, some (.map id) => match Heap.mapAt h id with
      | some (_, c) => k (.ptr h.length 0) (h ++ [.iter (some id) c [] c])
      | none => False
    | _, _ => False
  | .next st x => match x.ev e with
    | some (.ptr i 0) => match st, h[i]? with
      | true, some (.siter s pos) => if pos < s.length then
          k (.tuple [.bool true, .int .i64 pos, .int .i32 (Utf8.decode ⟨s.toArray⟩ pos).1]) (h.set i (.siter s (pos + (Utf8.decode ⟨s.toArray⟩ pos).2)))
        else k (.tuple [.bool false]) h
      | false, some (.iter none _ _ _) => k (.tuple [.bool false]) h
      | false, some (.iter (some m) since seen last) => match Heap.mapAt h m with
        | some (es, c) => (seen = [] ∨ es = [] ∨ ∃ p ∈ es, p.1 < last) ∧
          (∀ (j : Nat) (p : Nat × HV × HV), es[j]? = some p → p.1 ∉ seen → k (.tuple [.bool true, p.2.1, p.2.2]) (h.set i (.iter (some m) since (seen ++ [p.1]) c))) ∧
          ((∀ p ∈ es, p.1 ∉ seen → since ≤ p.1) → k (.tuple [.bool false]) h)
        | none => False
      | _, _ => False
    | _ => False
  | .entry x => match x.ev e with
    | some (.ptr i 0) => match h[i]? with
      | some (.iter (some m) _ seen last) => match Heap.mapAt h m, seen.getLast? with
        | some (es, c), some n => c = last ∧ (match es.find? (fun p => p.1 == n) with
          | some p => k (.tuple [p.2.1, p.2.2]) h
          | none => False)
        | _, _ => False
      | _ => False
    | _ => False
  | .extract x i => match x.ev e with
    | some (.tuple vs) => match vs[i]? with
      | some v => k v h
      | _ => False
    | _ => False
  | .len st x => match st, x.ev e with
    | true, some (.str s) => k (.int .i64 s.length) h
    | false, some (.list hs _) => k (.int .i64 hs.length) h
    | false, some (.arr _ _ n _) => k (.int .i64 n) h
    | _, _ => False
  | .maplen x => match x.ev e with
    | some (.map id) => match Heap.mapAt h id with
      | some (es, _) => k (.int .i64 es.length) h
      | _ => False
    | some .nilmap => k (.int .i64 0) h
    | _ => False
  | .lenc n => k (.int .i64 n) h
  | .append sz by_ s x => match s.ev e, x.ev e with
    | some (.list hs tok), some (.list ys _) => happend sz by_ h hs tok (ys.map HV.strip1) k ∧ ∀ y ∈ ys, isTuple y = false
    | some (.list hs tok), some (.str ys) => sz = 1 ∧ happend 1 by_ h hs tok (bytesOf ys) k
    | _, _ => False
  | .appendarr sz by_ s x => False
  | .copy sz d s => False
  | .min xs => match evs e xs with
    | some (.int i a :: r) => (∀ v ∈ r, ∃ b, v = .int i b) ∧ k (.int i (foldInt minInt a r)) h
    | _ => False
  | .max xs => match evs e xs with
    | some (.int i a :: r) => (∀ v ∈ r, ∃ b, v = .int i b) ∧ k (.int i (foldInt maxInt a r)) h
    | _ => False
  | .mkif t x => match x.ev e with
    | some v => isTuple v = false ∧ k (.iface t v) h
    | _ => False
  | .isnil neg x => match x.ev e with
    | some .nilif => k (.bool !neg) h
    | some (.iface _ _) => k (.bool neg) h
    | _ => False
  | .bad => False

/-! ### 4. operations in a row, and code -/
def Env.put (e : Env) (dst : Option Nat) (v : HV) : Env :=
  match dst with
  | some d => (d, v) :: e
  | none => e
def prune (e : Env) : List Nat → Env
  | [] => []
  | t :: r => match e.get t with
    | some v => (t, v) :: prune e r
    | none => prune e r

/-- How a call is spoken of: the callee, its arguments, the memory, what is to hold of its result. -/
abbrev CallP := FuncId → List HV → Heap → (HV → Heap → Prop) → Prop

def hcall (S : CallP) (base : Nat) (o : OC) (e : Env) (h : Heap) (k : HV → Heap → Prop) : Prop :=
  match o with
  | .op o => hstep base o e h k
  | .call f xs => match evs e xs with
    | some vs => S f (vs.map HV.strip1) h k
    | _ => False
  | .callv f xs => match f.ev e, evs e xs with
    | some (.func g caps), some vs => S g (vs.map HV.strip1 ++ caps) h k
    | _, _ => False

def hops (S : CallP) (base : Nat) : List Op → Env → Heap → (Env → Heap → Prop) → Prop
  | [], e, h, Q => Q e h
  | o :: r, e, h, Q => match o.guard with
    | none => hcall S base o.o e h fun v h' => hops S base r (e.put o.dst v) h' Q
    | some (t, b) => match e.get t with
      | some (.bool c) => (c = b → hcall S base o.o e h fun v h' => hops S base r (e.put o.dst v) h' Q) ∧ (c ≠ b → hops S base r (e.put o.dst (.tuple [])) h Q)
      | some (.tuple []) => hops S base r (e.put o.dst (.tuple [])) h Q
      | _ => False

inductive Ex where
  | normal | exit (id : Nat) | ret
  deriving DecidableEq

def hwp (S D : CallP) (L : C → (Ex → Env → Heap → Prop) → Env → Heap → Prop) : C → (Ex → Env → Heap → Prop) → Env → Heap → Prop
  | .skip, Q, e, h => Q .normal e h
  | .reg ops keep, Q, e, h => hops S 0 ops e h fun e' h' => Q .normal (prune e' keep) h'
  | .dreg pre tail n keep, Q, e, h => hops D h.length pre e (h ++ List.replicate n .res) fun e' h' => hops S 0 tail e' h' fun e'' h'' => Q .normal (prune e'' keep) h''
  | .dord _ _ _ _, Q, e, h => False
  | .seq a b, Q, e, h => hwp S D L a (fun x e' h' => match x with
    | .normal => hwp S D L b Q e' h'
    | x => Q x e' h') e h
  | .cond c a b, Q, e, h => match c.ev e with
    | some (.bool t) => (t = true → hwp S D L a Q e h) ∧ (t = false → hwp S D L b Q e h)
    | _ => False
  | .block id c, Q, e, h => hwp S D L c (fun x e' h' => match x with
    | .exit i => if i = id then Q .normal e' h' else Q (.exit i) e' h'
    | x => Q x e' h') e h
  | .loop c, Q, e, h => L c Q e h
  | .exit id, Q, e, h => Q (.exit id) e h
  | .ret, Q, e, h => Q .ret e h
  | .bad _, Q, e, h => False

end Go.Hw
