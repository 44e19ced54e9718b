/-
  DERIVED. From the model's code to the abstract machine's: types are resolved here. What has no meaning there is refused (none).
-/
import Derived.Test.YtopdplibpganbaaGreatDoorAbCore
import GoSem.Core.Region
import Derived.Orders
namespace Go.Ab

def absV : Nat → Value → Option V
  | 0, _ => none
  | n + 1, v => match v with
    | .bool b => some (.bool b)
    | .int k i => some (.int k i)
    | .string s => some (.str s.data.toList)
    | .pointer none => some .nilp
    | .slice none 0 0 => some (.sl 0 [] .nil)
    | .map none => some .nilm
    | .nilFunc => some .nilf
    | .nilIface => some .nili
    | .agg cs => do
      let l ← cs.toList.mapM (absV n)
      if l.all V.isCell then some (.agg l) else none
    | .tuple cs => (cs.toList.mapM (absV n)).map .tup
    | _ => none

section
variable (P : Program)
def cX (x : Operand) : Option X :=
  match x with
  | .tmp t => some (.t t)
  | .const v => (absV 4 v).map .c
  | .global g => if g < P.globals.size then some (.c (.ptr g 0)) else none
  | .func f => some (.c (.fn (.func f) [] []))

def cXs (xs : Array Operand) : Option (List X) := xs.toList.mapM (cX P)
def cXo (x : Option Operand) : Option (Option X) := match x with
  | none => some none
  | some x => (cX P x).map some

def isAggD : TypeDesc → Bool
  | .struct _ => true
  | .array _ _ => true
  | _ => false

/-- Is a variable of this type several cells; how many cells has it? -/
def sh (t : TypeId) : Option (Bool × Nat) := do
  let i ← P.info? t
  let d ← P.underlying t
  if isAggD d || i.size == 1 then pure (isAggD d, i.size) else none

def zeroA (t : TypeId) : Option V := do
  let i ← P.info? t
  let z ← i.zero
  let v ← absV 4 z
  if v.isTup then none else some v

/-- The places of a comparable struct's cells, all of them of kinds that are compared at once. -/
def eqOffs (fields : List Field) : Option (List (Nat × Kd)) := match fields with
  | [] => some []
  | f :: r => if f.name = "_" then eqOffs r else match P.underlying f.type with
    | some (.int _) => (eqOffs r).map ((f.offset, .int) :: ·)
    | some .string => (eqOffs r).map ((f.offset, .str) :: ·)
    | some .bool => (eqOffs r).map ((f.offset, .bool) :: ·)
    | _ => none

def ekOf (t : TypeId) : Option Ek :=
  match P.underlying t with
  | some (.int _) | some .string => some .none
  | some .bool => some .bool
  | some (.pointer _) => some .ptr
  | some (.slice _) => some .slice
  | some (.map _ _) => some .map
  | some (.func _ _ _) => some .func
  | some (.interface _) => some .iface
  | some (.struct fields) => if P.eqGuardType P.depth t || P.stoodInHeld t then none else (eqOffs P fields.toList).map .agg
  | _ => none

def isConst : Operand → Bool
  | .const _ => true
  | _ => false

def keyOk (t : TypeId) : Option Kd := match P.underlying t with
  | some (.int _) => some .int
  | some .string => some .str
  | some .bool => some .bool
  | _ => none

def methsOf (name : String) : List (TypeId × FuncId) :=
  (List.range P.types.size).filterMap fun t => do
    let i ← P.info? t
    let m ← i.methods.find? (·.name == name)
    let (f, ptr) ← m.func
    if !m.path.isEmpty then none else
    match P.underlying t with
    | some (.pointer _) => if ptr then some (t, f) else none
    | some _ => if ptr then none else some (t, f)
    | none => none

def cConv (src dst : TypeId) : Option Cv := do
  let s ← P.underlying src
  let d ← P.underlying dst
  match s, d with
  | .int _, .int k => some (.toInt k)
  | .string, .string => some .strId
  | .slice e, .string => match P.underlying e with
    | some (.int .u8) => some .b2s
    | _ => none
  | .string, .slice e => match P.underlying e with
    | some (.int .u8) => some .s2b
    | _ => none
  | .slice _, .slice e => match decide (src = dst), P.underlying e with
    | true, some (.int .u8) => some .mark
    | _, _ => none
  | _, _ => none

def cBuiltin (mu : Bool) (b : Builtin) (ts : Array TypeId) (xs : List X) : Option AOp :=
  match b, xs with
  | .len, [x] => do
    match P.underlying (← ts[0]?) with
    | some (.array n _) => pure (.mv (.c (.int .i64 n)))
    | some .string => pure (.len .str x)
    | some (.slice _) => pure (.len .sl x)
    | some (.map _ _) => pure (.len .map x)
    | _ => none
  | .cap, [x] => do
    match P.underlying (← ts[0]?) with
    | some (.slice _) => pure (.cap x)
    | _ => none
  | .append, [s, x] => do
    let .slice e ← P.underlying (← ts[0]?) | none
    match P.underlying (← ts[1]?) with
    | some (.slice _) | some .string =>
      let (agg, size) ← sh P e
      let i ← P.info? e
      let z ← zeroA P e
      if size = 0 ∨ z.cells.length ≠ size ∨ ts.size ≠ 2 then none else pure (.app mu agg size i.bytes s x)
    | _ => none
  | .copy, [d, s] => do
    let .slice e ← P.underlying (← ts[0]?) | none
    let (agg, size) ← sh P e
    if size = 0 then none else pure (.copy agg size d s)
  | .delete, [m, k] => do
    let .map kt _ ← P.underlying (← ts[0]?) | none
    pure (.del (← keyOk P kt) m k)
  | .max, xs => pure (.mnx true xs)
  | .min, xs => pure (.mnx false xs)
  | .clear, [x] => do
    match P.underlying (← ts[0]?) with
    | some (.map _ _) => pure (.clr [] x)
    | some (.slice e) => pure (.clr (← zeroA P e).cells x)
    | _ => none
  | .panic, [x] => pure (.panic x)
  | _, _ => none

def cMkf (fn : Fn) (a b : Array Operand) : Option AOp := match fn with
  | .func f => do pure (.mkfn (.func f) (← cXs P a) (← cXs P b))
  | .method name => (match a.toList, b.toList with
    | [x], [] => do pure (.mkm name (methsOf P name) (← cX P x))
    | _, _ => none)
  | _ => none

def cOp (mu : Bool) (op : Op) : Option AOp :=
  match op with
  | .move x | .assign x => do pure (.mv (← cX P x))
  | .pick c a b => do pure (.pick (← cX P c) (← cX P a) (← cX P b))
  | .alloc e => do pure (.new (← zeroA P e).cells)
  | .box _ v => do pure (.box (← cX P v))
  | .build t parts => do
    let z ← zeroA P t
    let d ← P.underlying t
    match d with
    | .struct fields =>
      let places ← fields.toList.mapM fun f => (sh P f.type).map fun (_, s) => (f.offset, s)
      let ps ← parts.toList.mapM fun (i, x) => do
        let (o, s) ← places[i]?
        pure (o, s, ← cX P x)
      pure (.build z.cells ps)
    | .array _ e =>
      let (_, s) ← sh P e
      let ps ← parts.toList.mapM fun (i, x) => do pure (i * s, s, ← cX P x)
      pure (.build z.cells ps)
    | _ => none
  | .buildSlice t len parts => do
    let .slice e ← P.underlying t | none
    let (_, size) ← sh P e
    let z ← zeroA P e
    if len * size > 2 ^ 20 ∨ z.cells.length ≠ size then none else
    let ps ← parts.toList.mapM fun (i, x) => do pure (i, ← cX P x)
    pure (.bsl size len z ps)
  | .load t a => do let (agg, size) ← sh P t; pure (.load agg size (← cX P a))
  | .store t a v => do let (_, size) ← sh P t; pure (.store size (← cX P a) (← cX P v))
  | .nilCheck x => do pure (.nilck (← cX P x))
  | .binOp op t x y _ => do
    let ek ← (if op matches .eql | .neq then ekOf P t else some .none)
    pure (.bin op ek (isConst x || isConst y) (← cX P x) (← cX P y))
  | .unOp op _ x => do pure (.un op (← cX P x))
  | .convert s d x => do pure (.conv (← cConv P s d) (← cX P x))
  | .makeInterface t x => do
    match P.underlying t with
    | some (.interface _) | none => none
    | some _ => pure (.mkif t (← cX P x))
  | .makeFunc fn a b => cMkf P fn a b
  | .makeMap t r => do
    let .map _ _ ← P.underlying t | none
    pure (.mkmap (← cXo P r))
  | .makeSlice t l c => do
    let .slice e ← P.underlying t | none
    let (_, size) ← sh P e
    let z ← zeroA P e
    let i ← P.info? e
    if z.cells.length ≠ size then none else
    pure (.mksl size i.bytes z.cells (← cX P l) (← cX P c))
  | .slice t x lo hi mx => do
    let k ← (match P.underlying t with
      | some .string => some Sk.str
      | some (.slice e) => (sh P e).map fun (a, s) => Sk.sl a s
      | some (.array n e) => (sh P e).map fun (_, s) => Sk.arr n s
      | _ => none)
    pure (.slc k (← cX P x) (← cXo P lo) (← cXo P hi) (← cXo P mx))
  | .fieldAddr s x f => do
    let .struct fields ← P.underlying s | none
    let f ← fields[f]?
    let (_, size) ← sh P f.type
    if size = 0 then none else pure (.faddr f.offset (← cX P x))
  | .field t x f => do
    let .struct fields ← P.underlying t | none
    let f ← fields[f]?
    let (agg, size) ← sh P f.type
    pure (.fld agg size f.offset (← cX P x))
  | .indexAddr t x i => do
    match P.underlying t with
    | some (.array n e) => let (_, size) ← sh P e; pure (.iaddr (some n) size (← cX P x) (← cX P i))
    | some (.slice e) => let (_, size) ← sh P e; pure (.iaddr none size (← cX P x) (← cX P i))
    | _ => none
  | .index t x i => do
    match P.underlying t with
    | some .string => pure (.idxs (← cX P x) (← cX P i))
    | some (.array n e) => let (agg, size) ← sh P e; pure (.idxa n agg size (← cX P x) (← cX P i))
    | _ => none
  | .lookup t x k ok => do
    let .map kt e ← P.underlying t | none
    pure (.look (← keyOk P kt) (← zeroA P e) (← cX P x) (← cX P k) ok)
  | .mapUpdate t m k v | .insert t m k v => do
    let .map kt _ ← P.underlying t | none
    pure (.mapup (← keyOk P kt) (← cX P m) (← cX P k) (← cX P v))
  | .range t x => do
    match P.underlying t with
    | some .string => pure (.range false (← cX P x))
    | some (.map _ _) => pure (.range true (← cX P x))
    | _ => none
  | .next x isStr => do pure (.next isStr (← cX P x))
  | .entry x => do pure (.entry (← cX P x))
  | .typeAssert x _ t ok => do
    let z ← zeroA P t
    match P.underlying t with
    | some (.interface want) =>
      let all := List.range P.types.size
      let miss := fun t => ((P.info? t).map fun i => (Instr.missingMethod want i.methods).isNone)
      pure (.tassi (all.filter fun t => miss t == some true) (all.filter fun t => miss t == some false) z ok (← cX P x))
    | some _ => pure (.tass t z ok (← cX P x))
    | none => none
  | .extract x i => do pure (.ext (← cX P x) i)
  | .call c => do
    let xs ← cXs P c.args
    match c.callee with
    | .value (.func f) => pure (.call f xs)
    | .value x => pure (.callv (← cX P x) xs)
    | .invoke r name => pure (.inv (methsOf P name) (← cX P r) xs)
    | .builtin b => cBuiltin P mu b c.argTypes xs
  | .panic x => do pure (.panic (← cX P x))
  | _ => none

/-- Marks of one function: (region, operation): an append that makes a row that may be written; a row that is never written from here on. -/
structure Hints where
  mu : List (Nat × Nat)
  frz : List (Nat × Nat)
  deriving Inhabited

def cOper (H : Hints) (id : Nat) (draw : Bool) (ops : Array Oper) (b : Array Nat) (j : Nat) (o : Oper) : Option AOper := do
  let op ← cOp P (H.mu.contains (id, j)) o.op
  let g ← (match o.guard with
    | none => some none
    | some (i, w) => do
      let oi ← ops[i]?
      let t ← oi.dst
      pure (some (t, w)))
  let frz ← (if H.frz.contains (id, j) then (match P.underlying o.type with
      | some (.slice e) => do let (a, s) ← sh P e; if s = 0 then none else pure (some (a, s))
      | _ => none) else some none)
  let un := if draw then (List.range j).filter fun i => !(b.getD j 0).testBit i else []
  if un.all (fun i => match ops[i]? with | some oi => oi.apart ops o | none => false) then
    pure { dst := o.dst, g := g, un := un, frz := frz, op := op }
  else none

/-- What an abstract operation looks at. -/
def AOp.xs : AOp → List X
  | .mv x => [x]
  | .pick c a b => [c, a, b]
  | .new _ => []
  | .box x => [x]
  | .build _ ps => ps.map fun p => p.2.2
  | .bsl _ _ _ ps => ps.map fun p => p.2
  | .load _ _ x => [x]
  | .store _ a v => [a, v]
  | .nilck x => [x]
  | .bin _ _ _ x y => [x, y]
  | .un _ x => [x]
  | .conv _ x => [x]
  | .mkif _ x => [x]
  | .mkfn _ a b => a ++ b
  | .mkm _ _ x => [x]
  | .mkmap r => r.toList
  | .mksl _ _ _ a b => [a, b]
  | .slc _ x lo hi mx => x :: (lo.toList ++ hi.toList ++ mx.toList)
  | .faddr _ x => [x]
  | .fld _ _ _ x => [x]
  | .iaddr _ _ x i => [x, i]
  | .idxs x i => [x, i]
  | .idxa _ _ _ x i => [x, i]
  | .look _ _ x k _ => [x, k]
  | .mapup _ m k v => [m, k, v]
  | .range _ x => [x]
  | .next _ x => [x]
  | .entry x => [x]
  | .tass _ _ _ x => [x]
  | .tassi _ _ _ _ x => [x]
  | .ext x _ => [x]
  | .call _ args => args
  | .callv x args => x :: args
  | .inv _ x args => x :: args
  | .app _ _ _ _ s x => [s, x]
  | .len _ x => [x]
  | .cap x => [x]
  | .copy _ _ d s => [d, s]
  | .del _ m k => [m, k]
  | .mnx _ xs => xs
  | .clr _ x => [x]
  | .panic x => [x]

/-- Does the operation look at this temporary? -/
def AOper.uses (o : AOper) (t : Nat) : Bool :=
  (o.op.xs.any fun
    | .t i => i == t
    | .c _ => false) || (match o.g with
    | some (i, _) => i == t
    | none => false)

/-- May these two, the first one earlier in the list, be run in either order, as far as temporaries go? -/
def AOper.free (i j : AOper) : Bool :=
  (match i.dst with
    | some d => !j.uses d && j.dst != some d
    | none => true) &&
  (match j.dst with
    | some d => !i.uses d
    | none => true)

def drawOk (l : List AOper) : Bool := l.all fun j => j.un.all fun i => match l[i]? with
  | some oi => oi.free j
  | none => false

/-- Orders that point back. -/
def edgesOk (ops : Array Oper) : Bool := ops.toList.zipIdx.all fun (o, j) => o.after.all fun e => !Region.binds .any e || decide (e.on < j)

def cRegion (H : Hints) (id : Nat) (ops : Array Oper) (draw : Bool) : Option AC := do
  let b := if draw then Region.before ops else #[]
  match ops.back? with
  | some { op := .defer { callee := .value f, args := xs, .. }, guard := none, .. } =>
    if draw then none else
    let l ← (ops.pop.toList.zipIdx).mapM fun (o, j) => cOper P H id draw ops b j o
    pure (.seq (.reg false l) (.dfr (← cX P f) (← cXs P xs)))
  | _ =>
    let l ← (ops.toList.zipIdx).mapM fun (o, j) => cOper P H id draw ops b j o
    if draw && !(drawOk l && edgesOk ops) then none else pure (.reg draw l)

def cCode (H : Hints) : Code → Option AC
  | .skip => some .skip
  | .region id ops draw => cRegion P H id ops draw
  | .seq a b => do pure (.seq (← cCode H a) (← cCode H b))
  | .cond c a b => do pure (.cond (← cX P c) (← cCode H a) (← cCode H b))
  | .block id b => do pure (.block id (← cCode H b))
  | .loop b => do pure (.loop (← cCode H b))
  | .exit id => some (.exit id)
  | .ret => some .ret
  | _ => none

def hasDfr : AC → Bool
  | .dfr _ _ => true
  | .seq a b | .cond _ a b => hasDfr a || hasDfr b
  | .block _ b | .loop b => hasDfr b
  | _ => false

def cFunc (H : Hints) (fn : Func) : Option AF := do
  let body ← fn.body
  let c ← cCode P H body
  let res ← fn.results.toList.mapM fun
    | .tmp t => some (Res.tmp t)
    | .cell t ty => (sh P ty).map fun (a, s) => Res.cell t a s
  pure { ntmps := fn.ntmps, res := res, defers := hasDfr c, body := c }

def cTbl (H : FuncId → Hints) (f : FuncId) : Option AF := do
  let fn ← P.funcs[f]?
  cFunc P (H f) fn
end
end Go.Ab
