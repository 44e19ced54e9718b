/-
  DERIVED. An abstract machine with VALUE semantics for slices, over the model's code: its values, its states, its operations, its evaluator. Nothing is claimed here: AbSound shows that what it answers is what the model's calls come to.
-/
import GoSem.Step
namespace Go.Ab

/-- What is known of a slice's room behind its end: nil itself; none; unknown; the name of an end at which alone may be appended in place. -/
inductive Tip where
  | nil | lit | full | no
  | at (n : Nat)
  deriving DecidableEq, Inhabited

inductive V where
  | bool (b : Bool)
  | int (k : IntKind) (n : Int)
  | str (s : List UInt8)
  | nilp
  | ptr (n off : Nat)
  | ip (cs : List V) (off : Nat)
  | sl (sz : Nat) (l : List V) (t : Tip)
  | rs (sz n off len : Nat) (cap : Option Nat)
  | nilm
  | map (n : Nat)
  | fn (f : Fn) (first caps : List V)
  | nilf
  | bm (name : String) (f : FuncId) (t : TypeId) (v : V)
  | iface (t : TypeId) (v : V)
  | nili
  | agg (cs : List V)
  | tup (vs : List V)
  deriving Inhabited

def undef : V := .tup []

def V.cells : V → List V
  | .agg cs => cs
  | v => [v]

/-- The value of one cell? -/
def V.isCell : V → Bool
  | .agg _ | .tup _ => false
  | _ => true

def V.isTup : V → Bool
  | .tup _ => true
  | _ => false

structure Ent where
  k : V
  v : V
  born : Nat
  deriving Inhabited

inductive O where
  | cells (cs : List V) (ro : Bool)
  | map (es : List Ent) (clock : Nat)
  | sit (s : List UInt8) (pos : Nat)
  | mit (m : Option Nat) (since : Nat) (seen : List Nat) (last : Nat)
  | tip
  deriving Inhabited

inductive Tr (α : Type) where
  | leaf
  | node (l : Tr α) (o : Option α) (r : Tr α)
  deriving Inhabited

def Tr.get {α : Type} : Tr α → Nat → Option α
  | .leaf, _ => none
  | .node l o r, n => match n with
    | 0 => o
    | m + 1 => if m % 2 = 0 then l.get (m / 2) else r.get (m / 2)

def Tr.put {α : Type} : Nat → Tr α → Nat → Option α → Tr α
  | 0, t, _, _ => t
  | _ + 1, .leaf, 0, o => .node .leaf o .leaf
  | f + 1, .leaf, m + 1, o => if m % 2 = 0 then .node (Tr.put f .leaf (m / 2) o) none .leaf else .node .leaf none (Tr.put f .leaf (m / 2) o)
  | _ + 1, .node l _ r, 0, o => .node l o r
  | f + 1, .node l x r, m + 1, o => if m % 2 = 0 then .node (Tr.put f l (m / 2) o) x r else .node l x (Tr.put f r (m / 2) o)

structure St where
  objs : Tr O
  next : Nat
  lim : Nat
  rd : List Nat
  wr : List Nat
  deriving Inhabited

def bits : Nat := 40

def St.get (s : St) (n : Nat) : Option O := s.objs.get n
def St.put (s : St) (n : Nat) (o : Option O) : St := { s with objs := Tr.put bits s.objs n o }

inductive R (α : Type) where
  | ok (a : α) (s : St)
  | pan (v : V) (s : St)
  | fail (why : String)
  | ch (n : Nat) (k : Nat → R α)

instance {α : Type} : Inhabited (R α) := ⟨.fail ""⟩

def R.bind {α β : Type} : R α → (α → St → R β) → R β
  | .ok a s, f => f a s
  | .pan v s, _ => .pan v s
  | .fail w, _ => .fail w
  | .ch n k, f => .ch n fun i => (k i).bind f

def M (α : Type) : Type := St → R α

instance {α : Type} : Inhabited (M α) := ⟨fun _ => .fail ""⟩

namespace M
def ret {α : Type} (a : α) : M α := fun s => .ok a s
def bind {α β : Type} (m : M α) (f : α → M β) : M β := fun s => (m s).bind f
def fail {α : Type} (w : String) : M α := fun _ => .fail w
def pan {α : Type} (v : V) : M α := fun s => .pan v s
def choose (n : Nat) : M Nat := fun s => .ch n fun i => .ok i s
end M

def getO (n : Nat) : M (Option O) := fun s => if n < s.next then .ok (s.get n) (if n < s.lim then { s with rd := n :: s.rd } else s) else .fail "getO"
def setO (n : Nat) (o : Option O) : M Unit := fun s => if n < s.next ∧ n + 2 < 2 ^ bits then .ok () (if n < s.lim then { s.put n o with wr := n :: s.wr } else s.put n o) else .fail "setO"
def newO (o : O) : M Nat := fun s => if s.next + 2 < 2 ^ bits then .ok s.next { s.put s.next (some o) with next := s.next + 1 } else .fail "newO"

/-- What an operation of a region that draws its order touches. -/
structure Log where
  rd : List Nat
  wr : List Nat
  lo : Nat
  hi : Nat

def logged {α : Type} (m : M α) : M (α × Log) := fun s =>
  match m { s with lim := s.next, rd := [], wr := [] } with
  | .ok a s1 => .ok (a, ⟨s1.rd, s1.wr, s.next, s1.next⟩) { s1 with lim := s.lim, rd := s1.rd.filter (· < s.lim) ++ s.rd, wr := s1.wr.filter (· < s.lim) ++ s.wr }
  | .pan _ _ => .fail "a panic in a region that draws its order"
  | .fail w => .fail w
  | .ch _ _ => .fail "a choice in a region that draws its order"

def Log.touches (l : Log) (n : Nat) : Bool := l.rd.contains n || l.wr.contains n
/-- May these two not be exchanged? (the first one came first) -/
def Log.meets (i j : Log) : Bool :=
  j.rd.any (fun n => (i.lo ≤ n && n < i.hi) || i.wr.contains n) || j.wr.any (fun n => (i.lo ≤ n && n < i.hi) || i.wr.contains n || i.rd.contains n)

structure Fr where
  t : List V
  d : List (V × List V)

def Fr.get (f : Fr) (i : Nat) : V := f.t.getD i undef
def Fr.put (f : Fr) (d : Option Nat) (v : V) : Fr := match d with
  | none => f
  | some i => { f with t := f.t.set i v }

inductive X where
  | t (i : Nat)
  | c (v : V)
  deriving Inhabited

def Fr.ev (f : Fr) : X → V
  | .t i => f.get i
  | .c v => v

/-- Kinds of keys. -/
inductive Kd where
  | int | str | bool
  deriving DecidableEq, Inhabited

/-- Kinds of comparison by == and !=. -/
inductive Ek where
  | none | bool | ptr | slice | map | func | iface
  | agg (offs : List (Nat × Kd))
  deriving Inhabited

inductive Cv where
  | toInt (k : IntKind)
  | strId | s2b | b2s | mark
  deriving Inhabited

/-- Of what a length is asked. -/
inductive Lk where
  | str | sl | map
  deriving DecidableEq, Inhabited

inductive Sk where
  | str
  | sl (agg : Bool) (size : Nat)
  | arr (n size : Nat)
  deriving Inhabited

inductive AOp where
  | mv (x : X)
  | pick (c a b : X)
  | new (zero : List V)
  | box (x : X)
  | build (zero : List V) (parts : List (Nat × Nat × X))
  | bsl (size n : Nat) (zero : V) (parts : List (Nat × X))
  | load (agg : Bool) (size : Nat) (x : X)
  | store (size : Nat) (a v : X)
  | nilck (x : X)
  | bin (op : BinOp) (ek : Ek) (cst : Bool) (x y : X)
  | un (op : UnOp) (x : X)
  | conv (c : Cv) (x : X)
  | mkif (t : TypeId) (x : X)
  | mkfn (f : Fn) (first caps : List X)
  | mkm (name : String) (ms : List (TypeId × FuncId)) (x : X)
  | mkmap (r : Option X)
  | mksl (size bytes : Nat) (zero : List V) (len cap : X)
  | slc (k : Sk) (x : X) (lo hi mx : Option X)
  | faddr (off : Nat) (x : X)
  | fld (agg : Bool) (size off : Nat) (x : X)
  | iaddr (arr : Option Nat) (size : Nat) (x i : X)
  | idxs (x i : X)
  | idxa (len : Nat) (agg : Bool) (size : Nat) (x i : X)
  | look (kd : Kd) (zero : V) (x k : X) (ok : Bool)
  | mapup (kd : Kd) (m k v : X)
  | range (isMap : Bool) (x : X)
  | next (isStr : Bool) (x : X)
  | entry (x : X)
  | tass (t : TypeId) (zero : V) (ok : Bool) (x : X)
  | tassi (yes no : List TypeId) (zero : V) (ok : Bool) (x : X)
  | ext (x : X) (i : Nat)
  | call (f : FuncId) (args : List X)
  | callv (x : X) (args : List X)
  | inv (ms : List (TypeId × FuncId)) (x : X) (args : List X)
  | app (mu agg : Bool) (size bytes : Nat) (s x : X)
  | len (k : Lk) (x : X)
  | cap (x : X)
  | copy (agg : Bool) (size : Nat) (d s : X)
  | del (kd : Kd) (m k : X)
  | mnx (mx : Bool) (xs : List X)
  | clr (zero : List V) (x : X)
  | panic (x : X)
  deriving Inhabited

structure AOper where
  dst : Option Nat
  g : Option (Nat × Bool)
  un : List Nat
  frz : Option (Bool × Nat)
  op : AOp
  deriving Inhabited

inductive AC where
  | skip
  | reg (draw : Bool) (ops : List AOper)
  | dfr (x : X) (args : List X)
  | seq (a b : AC)
  | cond (x : X) (a b : AC)
  | block (id : Nat) (b : AC)
  | loop (b : AC)
  | exit (id : Nat)
  | ret
  deriving Inhabited

inductive Res where
  | tmp (t : Nat)
  | cell (t : Nat) (agg : Bool) (size : Nat)
  deriving Inhabited

structure AF where
  ntmps : Nat
  res : List Res
  defers : Bool
  body : AC
  deriving Inhabited

/-! ### Pure parts -/

def mk (agg : Bool) (size : Nat) (cs : List V) (off : Nat) : Option V :=
  if agg then (if off + size ≤ cs.length then some (.agg ((cs.drop off).take size)) else none) else cs[off]?

/-- Cells written over others, from a place on. -/
def splice (cs : List V) (off : Nat) (vs : List V) : List V := cs.take off ++ (vs ++ cs.drop (off + vs.length))

def flat (l : List V) : List V := l.flatMap V.cells

/-- Cells as elements. -/
def regroup (agg : Bool) (size : Nat) : Nat → List V → Option (List V)
  | 0, _ => some []
  | n + 1, cs => match mk agg size cs 0 with
    | none => none
    | some v => (regroup agg size n (cs.drop size)).map (v :: ·)

def keq : Kd → V → V → Option Bool
  | .int, .int k a, .int k' b => if k = k' then some (a == b) else none
  | .str, .str a, .str b => some (a == b)
  | .bool, .bool a, .bool b => some (a == b)
  | _, _, _ => none

def findK (kd : Kd) (k : V) : List Ent → Nat → Option (Option (Nat × V))
  | [], _ => some none
  | e :: es, i => match keq kd k e.k with
    | some true => some (some (i, e.v))
    | some false => findK kd k es (i + 1)
    | none => none

def ibits (op : BinOp) (k : IntKind) (x y : Int) : Int :=
  let a := BitVec.ofInt k.bits x
  let b := BitVec.ofInt k.bits y
  k.wrap (match op with
    | .and => a &&& b
    | .or => a ||| b
    | .xor => a ^^^ b
    | _ => a &&& ~~~b).toNat

def ibin (op : BinOp) (k : IntKind) (a b : Int) : Option V :=
  match op with
  | .add => some (.int k (k.wrap (a + b)))
  | .sub => some (.int k (k.wrap (a - b)))
  | .mul => some (.int k (k.wrap (a * b)))
  | .quo => if b = 0 then none else some (.int k (k.wrap (a.tdiv b)))
  | .rem => if b = 0 then none else some (.int k (a.tmod b))
  | .and | .or | .xor | .andNot => some (.int k (ibits op k a b))
  | .eql => some (.bool (a == b))
  | .neq => some (.bool (a != b))
  | .lss => some (.bool (a < b))
  | .leq => some (.bool (a ≤ b))
  | .gtr => some (.bool (a > b))
  | .geq => some (.bool (a ≥ b))
  | _ => none

def ishift (op : BinOp) (k : IntKind) (x y : Int) : Option V :=
  if y < 0 then none else
  let n := min y.toNat k.bits
  match op with
  | .shl => some (.int k (k.wrap (x * 2 ^ n)))
  | .shr => some (.int k (x.fdiv (2 ^ n)))
  | _ => none

def sless : List UInt8 → List UInt8 → Bool
  | _, [] => false
  | [], _ :: _ => true
  | a :: x, b :: y => a < b || (a == b && sless x y)

def most : Nat := 2 ^ 40

def sbin (op : BinOp) (x y : List UInt8) : Option V :=
  match op with
  | .add => if x.length + y.length < most then some (.str (x ++ y)) else none
  | .eql => some (.bool (x == y))
  | .neq => some (.bool !(x == y))
  | .lss => some (.bool (sless x y))
  | .leq => some (.bool (sless x y || x == y))
  | .gtr => some (.bool !(sless x y || x == y))
  | .geq => some (.bool !(sless x y))
  | _ => none

def eqCells : List (Nat × Kd) → List V → List V → Option Bool
  | [], _, _ => some true
  | (o, kd) :: os, a, b => match a[o]?, b[o]? with
    | some x, some y => match keq kd x y with
      | some true => eqCells os a b
      | some false => some false
      | none => none
    | _, _ => none

def isNilSl : V → Option Bool
  | .sl _ [] .nil => some true
  | .sl _ _ .full | .sl _ _ .lit | .sl _ _ (.at _) => some false
  | .rs _ _ _ _ _ => some false
  | _ => none

def eqBool : V → V → Option Bool
  | .bool a, .bool b => some (a == b)
  | _, _ => none
def eqPtr : V → V → Option Bool
  | .nilp, .nilp => some true
  | .nilp, .ptr _ _ => some false
  | .nilp, .ip _ _ => some false
  | .ptr _ _, .nilp => some false
  | .ip _ _, .nilp => some false
  | _, _ => none
def eqSl (x y : V) : Option Bool := match isNilSl x with
  | some true => isNilSl y
  | _ => match isNilSl y with
    | some true => isNilSl x
    | _ => none
def eqMap : V → V → Option Bool
  | .nilm, .nilm => some true
  | .nilm, .map _ => some false
  | .map _, .nilm => some false
  | _, _ => none
def eqFn : V → V → Option Bool
  | .nilf, .nilf => some true
  | .nilf, .fn _ _ _ => some false
  | .fn _ _ _, .nilf => some false
  | _, _ => none
def eqIf (cst : Bool) : V → V → Option Bool
  | .nili, .nili => if cst then some true else none
  | .nili, .iface _ _ => some false
  | .iface _ _, .nili => some false
  | .iface t _, .iface u _ => if t = u then none else some false
  | _, _ => none
def eqAgg (offs : List (Nat × Kd)) : V → V → Option Bool
  | .agg a, .agg b => eqCells offs a b
  | _, _ => none

def veq (ek : Ek) (cst : Bool) (x y : V) : Option Bool :=
  match ek with
  | .none => none
  | .bool => eqBool x y
  | .ptr => eqPtr x y
  | .slice => eqSl x y
  | .map => eqMap x y
  | .func => eqFn x y
  | .iface => eqIf cst x y
  | .agg offs => eqAgg offs x y

def vbin (op : BinOp) (ek : Ek) (cst : Bool) (x y : V) : Option V :=
  match op, x, y with
  | .shl, .int k a, .int _ b | .shr, .int k a, .int _ b => ishift op k a b
  | _, .int k a, .int k' b => if k = k' then ibin op k a b else none
  | _, .str a, .str b => sbin op a b
  | .eql, x, y => (veq ek cst x y).map .bool
  | .neq, x, y => (veq ek cst x y).map fun b => .bool !b
  | _, _, _ => none

def vun (op : UnOp) (x : V) : Option V :=
  match op, x with
  | .neg, .int k n => some (.int k (k.wrap (0 - n)))
  | .xor, .int k n => some (.int k (ibits .xor k (if k.signed then -1 else k.max) n))
  | .not, .bool b => some (.bool !b)
  | _, _ => none

def ofBytes (s : List UInt8) : List V := s.map fun b => .int .u8 b.toNat
def toByte : V → Option UInt8
  | .int .u8 n => some (UInt8.ofNat n.toNat)
  | _ => none
def toBytes : List V → Option (List UInt8)
  | [] => some []
  | v :: l => match toByte v with
    | some b => (toBytes l).map (b :: ·)
    | none => none

def asNat? : V → Option Nat
  | .int _ n => if 0 ≤ n then some n.toNat else none
  | _ => none

/-- A bound of a slice expression, at most y; d where there is none. -/
def bnd (y : Nat) (o : Option V) (d : Nat) : Option Nat := match o with
  | none => some d
  | some v => match asNat? v with
    | some n => if n ≤ y then some n else none
    | none => none

/-- low, high, max of a slice expression, all in their bounds: the length that may be used is given. -/
def bounds (len : Nat) (lo hi mx : Option V) : Option (Nat × Nat × Option Nat) :=
  match mx with
  | none => match bnd len hi len with
    | none => none
    | some h => (bnd h lo 0).map fun l => (l, h, none)
  | some m => if hi.isNone then none else match bnd len (some m) 0 with
    | none => none
    | some m => match bnd m hi 0 with
      | none => none
      | some h => (bnd h lo 0).map fun l => (l, h, some m)

def need {α : Type} (w : String) (o : Option α) : M α := match o with
  | some a => .ret a
  | none => .fail w

/-! ### Operations -/
section
variable (call : FuncId → List V → M V)

def cellsOf (n : Nat) : M (List V × Bool) := (getO n).bind fun
  | some (.cells cs ro) => .ret (cs, ro)
  | _ => .fail "no such object"

def opLoad (agg : Bool) (size : Nat) : V → M V
  | .ptr n o => (cellsOf n).bind fun (cs, _) => need "load" (mk agg size cs o)
  | .ip cs o => need "load" (mk agg size cs o)
  | _ => .fail "load"

def opStore (size : Nat) (a v : V) : M V :=
  match a with
  | .ptr n o => (cellsOf n).bind fun (cs, ro) =>
    if !ro && v.cells.length == size && !v.isTup && o + size ≤ cs.length then
      (setO n (some (.cells (splice cs o v.cells) false))).bind fun _ => .ret undef
    else .fail "store"
  | _ => .fail "store"

def fillA (cells : List V) : List (Nat × Nat × V) → Option (List V)
  | [] => some cells
  | (off, size, v) :: r => if v.cells.length = size ∧ v.isTup = false ∧ off + size ≤ cells.length then fillA (splice cells off v.cells) r else none

def fillL (size : Nat) (l : List V) : List (Nat × V) → Option (List V)
  | [] => some l
  | (i, v) :: r => if v.cells.length = size ∧ v.isTup = false ∧ i < l.length then fillL size (l.set i v) r else none

/-- The elements of a slice, or of a string. -/
def elems (agg : Bool) (size : Nat) : V → M (List V)
  | .sl sz l _ => if sz = size ∨ l.isEmpty then .ret l else .fail "elems: size"
  | .str s => if size = 1 then .ret (ofBytes s) else .fail "elems: size"
  | .rs sz n off len _ => if sz = size ∧ (agg ∨ size = 1) then (cellsOf n).bind fun (cs, _) => need "elems" (regroup agg size len (cs.drop off)) else .fail "elems: size"
  | _ => .fail "elems"

def opApp (mu agg : Bool) (size bytes : Nat) (s x : V) : M V :=
  (elems agg size x).bind fun m =>
  if m.isEmpty then (match s with
    | .sl _ _ _ => .ret s
    | .rs _ _ _ _ _ => .ret s
    | _ => .fail "append") else
  match s with
  | .sl sz l tp =>
    if (l.length + m.length) * (bytes + size + 1) ≥ most ∨ bytes ≥ 65536 ∨ (sz ≠ size ∧ tp ≠ .nil) then .fail "append: size" else
    match tp with
    | .no => .fail "append: room unknown"
    | .at n => if mu then .fail "append: mut" else
      (getO n).bind fun
      | some .tip => (setO n none).bind fun _ => (newO .tip).bind fun n' => .ret (.sl size (l ++ m) (.at n'))
      | _ => .fail "append: the end is gone"
    | _ =>
      if mu then (newO (.cells (flat (l ++ m)) false)).bind fun n' => .ret (.rs size n' 0 (l.length + m.length) none)
      else (newO .tip).bind fun n' => .ret (.sl size (l ++ m) (.at n'))
  | .rs sz n off len cap =>
    if (len + m.length) * (bytes + size + 1) ≥ most ∨ bytes ≥ 65536 ∨ sz ≠ size then .fail "append: size" else
    (cellsOf n).bind fun (cs, ro) =>
    if ro then .fail "append: ro" else
    match cap with
    | some c =>
      if len + m.length ≤ c then
        (if off + (len + m.length) * size ≤ cs.length then (setO n (some (.cells (splice cs (off + len * size) (flat m)) false))).bind fun _ => .ret (.rs size n off (len + m.length) (some c)) else .fail "append: cells")
      else (if off + len * size ≤ cs.length then (newO (.cells ((cs.drop off).take (len * size) ++ flat m) false)).bind fun n' => .ret (.rs size n' 0 (len + m.length) none) else .fail "append: cells")
    | none =>
      if off = 0 ∧ len * size ≤ cs.length then (setO n none).bind fun _ => (newO (.cells (cs.take (len * size) ++ flat m) false)).bind fun n' => .ret (.rs size n' 0 (len + m.length) none)
      else .fail "append: off"
  | _ => .fail "append"

def cutTip (tp : Tip) (len h : Nat) (m : Option Nat) : Tip :=
  if tp = .nil then .nil else match m with
  | none => if h = len then (if tp = .lit then .full else tp) else .no
  | some m => if m = h then .full else .no

def opSlice (k : Sk) (x : V) (lo hi mx : Option V) : M V :=
  match k, x with
  | .str, .str s => (need "slice" (bounds s.length lo hi mx)).bind fun
    | (l, h, none) => .ret (.str ((s.take h).drop l))
    | _ => .fail "slice"
  | .sl _ size, .sl sz xs tp => if sz ≠ size ∧ !xs.isEmpty then .fail "slice: size" else
    (need "slice" (bounds xs.length lo hi mx)).bind fun (l, h, m) =>
    .ret (.sl sz ((xs.take h).drop l) (cutTip tp xs.length h m))
  | .sl _ size, .rs sz n off len cap => if sz ≠ size then .fail "slice: size" else
    (need "slice" (bounds (match cap with | some c => (if hi.isNone then len else c) | none => len) lo hi mx)).bind fun (l, h, m) =>
    match (match m with | some m => some m | none => cap) with
    | some c => .ret (.rs sz n (if c = l then off else off + l * size) (h - l) (some (c - l)))
    | none => if l = 0 then .ret (.rs sz n off h none) else .fail "slice: rs"
  | .arr a size, .ptr n o => (need "slice" (bounds a lo hi mx)).bind fun (l, h, m) =>
    let c := m.getD a
    .ret (.rs size n (if c = l then o else o + l * size) (h - l) (some (c - l)))
  | _, _ => .fail "slice"

def opIaddr (arr : Option Nat) (size : Nat) (x i : V) : M V :=
  (need "index" (asNat? i)).bind fun i =>
  match arr, x with
  | none, .sl sz l _ => if sz ≠ size then .fail "index: size" else match l[i]? with
    | some v => .ret (.ip v.cells 0)
    | none => .fail "index out of range"
  | none, .rs sz n off len _ => if sz ≠ size then .fail "index: size" else if i < len then .ret (.ptr n (off + i * size)) else .fail "index out of range"
  | some a, .ptr n o => if i < a then .ret (.ptr n (o + i * size)) else .fail "index out of range"
  | some a, .ip cs o => if i < a then .ret (.ip cs (o + i * size)) else .fail "index out of range"
  | _, _ => .fail "indexAddr"

def opFaddr (off : Nat) (x : V) : M V := match x with
  | .ptr n o => .ret (.ptr n (o + off))
  | .ip cs o => .ret (.ip cs (o + off))
  | _ => .fail "fieldAddr"

def opFld (agg : Bool) (size off : Nat) (x : V) : M V := match x with
  | .agg cs => need "field" (mk agg size cs off)
  | _ => .fail "field"

def opIdxs (x i : V) : M V := match x with
  | .str s => (need "index" (asNat? i)).bind fun i => (need "index out of range" s[i]?).bind fun b => .ret (.int .u8 b.toNat)
  | _ => .fail "index"

def opIdxa (len : Nat) (agg : Bool) (size : Nat) (x i : V) : M V := match x with
  | .agg cs => (need "index" (asNat? i)).bind fun i => if i < len then need "index" (mk agg size cs (i * size)) else .fail "index out of range"
  | _ => .fail "index"

def mapOf : V → M (List Ent × Nat)
  | .nilm => .ret ([], 0)
  | .map n => (getO n).bind fun
    | some (.map es c) => .ret (es, c)
    | _ => .fail "no such map"
  | _ => .fail "map"

def opLook (kd : Kd) (zero : V) (x k : V) (ok : Bool) : M V :=
  (mapOf x).bind fun (es, _) =>
  (need "lookup: key" (findK kd k es 0)).bind fun r =>
  let (v, b) := match r with
    | some (_, v) => (v, true)
    | none => (zero, false)
  .ret (if ok then .tup [v, .bool b] else v)

def setAt (es : List Ent) (i : Nat) (k v : V) : List Ent := es.modify i fun e => { e with k := k, v := v }

def opMapup (kd : Kd) (m k v : V) : M V :=
  match m with
  | .map n => (mapOf m).bind fun (es, c) =>
    (need "map: key" (findK kd k es 0)).bind fun
    | some (i, _) => (setO n (some (.map (setAt es i k v) c))).bind fun _ => .ret undef
    | none => (setO n (some (.map (es ++ [⟨k, v, c⟩]) (c + 1)))).bind fun _ => .ret undef
  | _ => .fail "assignment to a nil map"

def opDel (kd : Kd) (m k : V) : M V :=
  match m with
  | .nilm => .ret undef
  | .map n => (mapOf m).bind fun (es, c) =>
    (need "map: key" (findK kd k es 0)).bind fun
    | some (i, _) => (setO n (some (.map (es.eraseIdx i) c))).bind fun _ => .ret undef
    | none => (setO n (some (.map es c))).bind fun _ => .ret undef
  | _ => .fail "delete"

def opNext (isStr : Bool) (x : V) : M V :=
  match x with
  | .ptr r 0 => (getO r).bind fun
    | some (.sit s pos) => if !isStr then .fail "next" else
      if pos < s.length then
        let (c, width) := Utf8.decode ⟨s.toArray⟩ pos
        (setO r (some (.sit s (pos + width)))).bind fun _ => .ret (.tup [.bool true, .int .i64 pos, .int .i32 c])
      else .ret (.tup [.bool false])
    | some (.mit none _ _ _) => if isStr then .fail "next" else .ret (.tup [.bool false])
    | some (.mit (some m) since seen last) => if isStr then .fail "next" else
      (mapOf (.map m)).bind fun (es, clock) =>
      if !seen.isEmpty && !es.isEmpty && es.all (fun e => e.born ≥ last) then .fail "next: all gone" else
      let left := es.filter fun e => !seen.contains e.born
      let old := left.filter fun e => decide (e.born < since)
      let new := left.filter fun e => decide (e.born ≥ since)
      let cands := (if old.isEmpty then [none] else []) ++ (old ++ new).map some
      (if cands.length ≤ 1 then .ret 0 else M.choose cands.length).bind fun i =>
      match cands[i]? with
      | some (some e) => (setO r (some (.mit (some m) since (seen ++ [e.born]) clock))).bind fun _ => .ret (.tup [.bool true, e.k, e.v])
      | some none => .ret (.tup [.bool false])
      | none => .fail "next"
    | _ => .fail "next"
  | _ => .fail "next"

def opEntry (x : V) : M V :=
  match x with
  | .ptr r 0 => (getO r).bind fun
    | some (.mit (some m) _ seen last) => (mapOf (.map m)).bind fun (es, clock) =>
      if clock ≠ last then .fail "entry" else
      match seen.getLast? with
      | none => .fail "entry"
      | some b => match es.find? (fun e => e.born == b) with
        | some e => .ret (.tup [e.k, e.v])
        | none => .fail "entry"
    | _ => .fail "entry"
  | _ => .fail "entry"

def opConv (c : Cv) (x : V) : M V :=
  match c, x with
  | .toInt k, .int _ n => .ret (.int k (k.wrap n))
  | .strId, .str s => .ret (.str s)
  | .mark, .sl sz l .lit => .ret (.sl sz l .full)
  | .s2b, .str s => if s.length < most then (newO .tip).bind fun n => .ret (.sl 1 (ofBytes s) (.at n)) else .fail "conv: size"
  | .b2s, .sl _ l _ => (need "conv" (toBytes l)).bind fun b => .ret (.str b)
  | .b2s, .rs _ n off len _ => (cellsOf n).bind fun (cs, _) => if off + len ≤ cs.length then (need "conv" (toBytes ((cs.drop off).take len))).bind fun b => .ret (.str b) else .fail "conv"
  | _, _ => .fail "conv"

def mm2 (mx : Bool) (x y : V) : Option V :=
  match x, y with
  | .int k x, .int _ y => some (.int k (if mx then (if y > x then y else x) else (if y < x then y else x)))
  | _, _ => none

def mmAll (mx : Bool) : V → List V → Option V
  | x, [] => some x
  | x, y :: r => match mm2 mx x y with
    | some z => mmAll mx z r
    | none => none

def opCopy (agg : Bool) (size : Nat) (d s : V) : M V :=
  (elems agg size s).bind fun m =>
  match d with
  | .sl _ [] _ => .ret (.int .i64 0)
  | .rs sz n off len _ => (cellsOf n).bind fun (cs, ro) =>
    let m := m.take len
    if sz != size || ro || off + len * size > cs.length then .fail "copy" else
    (setO n (some (.cells (splice cs off (flat m)) false))).bind fun _ => .ret (.int .i64 m.length)
  | _ => .fail "copy"

def opClr (zero : List V) (x : V) : M V :=
  match x with
  | .nilm | .sl _ [] _ => .ret undef
  | .map n => (mapOf x).bind fun (_, c) => (setO n (some (.map [] c))).bind fun _ => .ret undef
  | .rs _ n off len _ => (cellsOf n).bind fun (cs, ro) =>
    if ro || len == 0 || zero.isEmpty || off + len * zero.length > cs.length then .fail "clear" else
    (setO n (some (.cells (splice cs off ((List.replicate len zero).flatten)) false))).bind fun _ => .ret undef
  | _ => .fail "clear"

def opLen : Lk → V → M V
  | .sl, .sl _ l _ => .ret (.int .i64 l.length)
  | .sl, .rs _ _ _ n _ => .ret (.int .i64 n)
  | .str, .str s => .ret (.int .i64 s.length)
  | .map, .nilm => .ret (.int .i64 0)
  | .map, .map n => (mapOf (.map n)).bind fun (es, _) => .ret (.int .i64 es.length)
  | _, _ => .fail "len"

def opTass (yes : Bool) (zero : V) (ok : Bool) (v : V) : M V :=
  if yes then .ret (if ok then .tup [v, .bool true] else v)
  else if ok then .ret (.tup [zero, .bool false]) else .fail "type assertion"

def opTassC (t : TypeId) (zero : V) (ok : Bool) (x : V) : M V := match x with
  | .iface u v => opTass (u == t) zero ok v
  | .nili => opTass false zero ok .nili
  | _ => .fail "typeAssert"

def opTassI (yes no : List TypeId) (zero : V) (ok : Bool) (x : V) : M V := match x with
  | .iface u v => if yes.contains u then opTass true zero ok (.iface u v) else if no.contains u then opTass false zero ok (.iface u v) else .fail "typeAssert"
  | .nili => opTass false zero ok .nili
  | _ => .fail "typeAssert"

def opRange (isMap : Bool) (x : V) : M V := match isMap, x with
  | false, .str s => (newO (.sit s 0)).bind fun n => .ret (.ptr n 0)
  | true, .nilm => (newO (.mit none 0 [] 0)).bind fun n => .ret (.ptr n 0)
  | true, .map m => (mapOf (.map m)).bind fun (_, c) => (newO (.mit (some m) c [] c)).bind fun n => .ret (.ptr n 0)
  | _, _ => .fail "range"

def opMksl (size bytes : Nat) (zero : List V) (len cap : V) : M V :=
  match asNat? len, asNat? cap with
    | some l, some c => if l ≤ c ∧ c * (bytes + size + 1) < most ∧ zero.length = size then (newO (.cells ((List.replicate c zero).flatten) false)).bind fun n => .ret (.rs size n 0 l (some c)) else .fail "makeSlice"
    | _, _ => .fail "makeSlice"

def opCap (x : V) : M V := match x with
  | .sl _ l .full => .ret (.int .i64 l.length)
  | .sl _ l .lit => .ret (.int .i64 l.length)
  | .sl _ l .nil => .ret (.int .i64 l.length)
  | .rs _ _ _ _ (some c) => .ret (.int .i64 c)
  | _ => .fail "cap"

def opMkmap (r : Option V) : M V := match r with
  | none | some (.int _ _) => (newO (.map [] 0)).bind fun n => .ret (.map n)
  | _ => .fail "makeMap"

def xop (ρ : X → V) : AOp → M V
  | .mv x => .ret (ρ x)
  | .pick c a b => match ρ c with
    | .bool t => .ret (if t then ρ a else ρ b)
    | _ => .fail "pick"
  | .new zero => (newO (.cells zero false)).bind fun n => .ret (.ptr n 0)
  | .box x => if (ρ x).isTup then .fail "box" else (newO (.cells (ρ x).cells false)).bind fun n => .ret (.ptr n 0)
  | .build zero parts => (need "build" (fillA zero (parts.map fun (o, s, x) => (o, s, ρ x)))).bind fun cs => .ret (.agg cs)
  | .bsl size n zero parts => (need "buildSlice" (fillL size (List.replicate n zero) (parts.map fun (i, x) => (i, ρ x)))).bind fun l => .ret (.sl size l .lit)
  | .load agg size x => opLoad agg size (ρ x)
  | .store size a v => opStore size (ρ a) (ρ v)
  | .nilck x => match ρ x with
    | .nilp => .fail "nil"
    | .nili => .fail "nil"
    | .nilf => .fail "nil"
    | .fn (.method _) _ _ => .fail "nilCheck"
    | v => .ret v
  | .bin op ek cst x y => need "binOp" (vbin op ek cst (ρ x) (ρ y))
  | .un op x => need "unOp" (vun op (ρ x))
  | .conv c x => opConv c (ρ x)
  | .mkif t x => .ret (.iface t (ρ x))
  | .mkfn f first caps => .ret (.fn f (first.map ρ) (caps.map ρ))
  | .mkm name ms x => match ρ x with
    | .iface t v => match ms.lookup t with
      | some f => .ret (.bm name f t v)
      | none => .fail "method value"
    | _ => .fail "method value"
  | .mkmap r => opMkmap (r.map ρ)
  | .mksl size bytes zero len cap => opMksl size bytes zero (ρ len) (ρ cap)
  | .slc k x lo hi mx => opSlice k (ρ x) (lo.map ρ) (hi.map ρ) (mx.map ρ)
  | .faddr off x => opFaddr off (ρ x)
  | .fld agg size off x => opFld agg size off (ρ x)
  | .iaddr arr size x i => opIaddr arr size (ρ x) (ρ i)
  | .idxs x i => opIdxs (ρ x) (ρ i)
  | .idxa len agg size x i => opIdxa len agg size (ρ x) (ρ i)
  | .look kd zero x k ok => opLook kd zero (ρ x) (ρ k) ok
  | .mapup kd m k v => opMapup kd (ρ m) (ρ k) (ρ v)
  | .range isMap x => opRange isMap (ρ x)
  | .next isStr x => opNext isStr (ρ x)
  | .entry x => opEntry (ρ x)
  | .tass t zero ok x => opTassC t zero ok (ρ x)
  | .tassi yes no zero ok x => opTassI yes no zero ok (ρ x)
  | .ext x i => match ρ x with
    | .tup vs => need "extract" vs[i]?
    | _ => .fail "extract"
  | .call f args => call f (args.map ρ)
  | .callv x args => match ρ x with
    | .fn (.func f) first caps => call f (first ++ args.map ρ ++ caps)
    | .bm _ f _ v => call f (v :: args.map ρ)
    | _ => .fail "call"
  | .inv ms x args => match ρ x with
    | .iface t v => match ms.lookup t with
      | some f => call f (v :: args.map ρ)
      | none => .fail "invoke"
    | _ => .fail "invoke"
  | .app mu agg size bytes s x => opApp mu agg size bytes (ρ s) (ρ x)
  | .len k x => opLen k (ρ x)
  | .cap x => opCap (ρ x)
  | .copy agg size d s => opCopy agg size (ρ d) (ρ s)
  | .del kd m k => opDel kd (ρ m) (ρ k)
  | .mnx mx xs => match xs.map ρ with
    | [] => .fail "min, max"
    | x :: r => need "min, max" (mmAll mx x r)
  | .clr zero x => opClr zero (ρ x)
  | .panic x => match ρ x with
    | .iface t v => .pan (.iface t v)
    | _ => .fail "panic"

def Fr.wants (f : Fr) (g : Option (Nat × Bool)) : Bool := match g with
  | none => true
  | some (t, w) => match f.get t with
    | .bool b => b == w
    | _ => false

def freeze (h : Option (Bool × Nat)) (v : V) : M V :=
  match h, v with
  | some (agg, size), .rs sz n off len _ => (cellsOf n).bind fun (cs, ro) =>
    if ro ∨ sz ≠ size ∨ (agg = false ∧ size ≠ 1) then .fail "freeze" else
    (need "freeze" (regroup agg size len (cs.drop off))).bind fun l =>
    (setO n none).bind fun _ => .ret (.sl size l .no)
  | _, v => .ret v

def evOp (f : Fr) (o : AOper) : M V :=
  if f.wants o.g then (xop call f.ev o.op).bind (freeze o.frz) else .ret undef

def evOps : List AOper → Fr → M Fr
  | [], f => .ret f
  | o :: r, f => (evOp call f o).bind fun v => evOps r (f.put o.dst v)

def evDraw : List AOper → List Log → Fr → M Fr
  | [], _, f => .ret f
  | o :: r, logs, f => (logged (evOp call f o)).bind fun (v, g) =>
    if o.un.all (fun i => match logs[i]? with
      | some h => !h.meets g
      | none => false) then evDraw r (logs ++ [g]) (f.put o.dst v) else .fail "operations of a region that draws its order meet"

inductive E where
  | norm
  | exit (id : Nat)
  | ret
  deriving DecidableEq, Inhabited

def evLoop (body : Fr → M (E × Fr)) : Nat → Fr → M (E × Fr)
  | 0, _ => .fail "out of fuel"
  | n + 1, f => (body f).bind fun
    | (.norm, f) => evLoop body n f
    | (e, f) => .ret (e, f)

def evC (fuel : Nat) : AC → Fr → M (E × Fr)
  | .skip, f => .ret (.norm, f)
  | .reg false ops, f => (evOps call ops f).bind fun f => .ret (.norm, f)
  | .reg true ops, f => (evDraw call ops [] f).bind fun f => .ret (.norm, f)
  | .dfr x args, f => .ret (.norm, { f with d := (f.ev x, args.map f.ev) :: f.d })
  | .seq a b, f => (evC fuel a f).bind fun
    | (.norm, f) => evC fuel b f
    | (e, f) => .ret (e, f)
  | .cond x a b, f => match f.ev x with
    | .bool true => evC fuel a f
    | .bool false => evC fuel b f
    | _ => .fail "cond"
  | .block id b, f => (evC fuel b f).bind fun
    | (.exit i, f) => if i = id then .ret (.norm, f) else .ret (.exit i, f)
    | (e, f) => .ret (e, f)
  | .loop b, f => evLoop (evC fuel b) fuel f
  | .exit id, f => .ret (.exit id, f)
  | .ret, f => .ret (.ret, f)

def evRes (f : Fr) : List Res → M (List V)
  | [] => .ret []
  | .tmp t :: r => (evRes f r).bind fun vs => .ret (f.get t :: vs)
  | .cell t agg size :: r => (opLoad agg size (f.get t)).bind fun v => (evRes f r).bind fun vs => .ret (v :: vs)

def one : List V → V
  | [v] => v
  | vs => .tup vs
end

/-- A program: its functions, and what is known of some. -/
structure Tbl where
  fn : FuncId → Option AF
  sum : FuncId → Option (List V → M V)

def evF (T : Tbl) (loops : Nat) : Nat → FuncId → List V → M V
  | 0, _, _ => .fail "out of fuel"
  | n + 1, f, args => match T.sum f with
    | some s => s args
    | none => match T.fn f with
      | none => .fail "no such function"
      | some a => if a.defers then .fail "defers" else
        (evC (evF T loops n) loops a.body { t := args ++ List.replicate (a.ntmps - args.length) undef, d := [] }).bind fun
        | (.exit _, _) => .fail "exit"
        | (_, f) => (evRes f a.res).bind fun vs => .ret (one vs)

end Go.Ab
