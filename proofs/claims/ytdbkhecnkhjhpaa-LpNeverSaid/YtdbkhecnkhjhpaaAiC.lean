/- From the model's code to resolved code. Definitions alone. -/
import Derived.Test.YtdbkhecnkhjhpaaAi0
namespace Go.Ai

def okO : Operand → Bool
  | .tmp _ => true
  | .const v => plain v
  | .func _ => true
  | .global _ => false

def guardB (b : Bool) : Option Unit := if b then some () else none

/-- How many cells a variable of a type takes where it is a struct or an array; 'none': it is one cell. -/
def aggN (P : Program) (t : TypeId) : Option (Option Nat) :=
  match P.underlying t with
  | some (.struct _) | some (.array _ _) => (P.info? t).map fun i => some i.size
  | some _ => some none
  | none => none
def sizeC (P : Program) (t : TypeId) : Option Nat := (P.info? t).map (·.size)
def bytesC (P : Program) (t : TypeId) : Option Nat := (P.info? t).map (·.bytes)
/-- The cells of a type's zero value. -/
def zeroC (P : Program) (t : TypeId) : Option (List Value) :=
  match (P.info? t).map (·.zero) with
  | some (some z) => if z.cells.toList.all plain then some z.cells.toList else none
  | _ => none
/-- A type's zero value. -/
def zeroVC (P : Program) (t : TypeId) : Option Value :=
  match (P.info? t).map (·.zero) with
  | some (some z) => if z.cells.toList.all plain && (match z with | .tuple _ => false | _ => true) then some z else none
  | _ => none

def shapeFs (P : Program) (sh : TypeId → Option (List (Option IntKind))) : Nat → List Field → Option (List (Option IntKind))
  | _, [] => some []
  | off, f :: fs =>
    match sh f.type with
    | some m => if f.name != "_" && f.offset == off && sizeC P f.type == some m.length then (shapeFs P sh (off + m.length) fs).map (m ++ ·) else none
    | none => none

/-- The shape of a type whose values are compared cell by cell. -/
def shapeC (P : Program) : Nat → TypeId → Option (List (Option IntKind))
  | 0, _ => none
  | d + 1, t =>
    match P.underlying t with
    | some (.int k) => some [some k]
    | some .bool => some [none]
    | some (.struct fs) => if P.stoodInHeld t then none else shapeFs P (shapeC P d) 0 fs.toList
    | some (.array n e) => match shapeC P d e with
      | some m => if sizeC P e == some m.length then some ((List.replicate n m).flatten) else none
      | none => none
    | _ => none

def isAggT (P : Program) (t : TypeId) : Option Bool := (aggN P t).map (·.isSome)
def keyC (P : Program) (t : TypeId) : Option (List (Option IntKind) × Bool) :=
  match shapeC P 8 t, isAggT P t with
  | some s, some a => some (s, a)
  | _, _ => none

/-- The nil of a kind of type: 0 pointers, 1 slices, 2 maps, 3 functions, 4 interfaces. -/
def nilK (P : Program) (t : TypeId) (y : Operand) : Option Nat :=
  match P.underlying t, y with
  | some (.pointer _), .const (.pointer none) => some 0
  | some (.slice _), .const (.slice none 0 0) => some 1
  | some (.map _ _), .const (.map none) => some 2
  | some (.func _ _ _), .const .nilFunc => some 3
  | some (.interface _), .const .nilIface => some 4
  | _, _ => none

def cbin (P : Program) (op : BinOp) (t : TypeId) (x y : Operand) : Option ROp :=
  match P.underlying t with
  | some (.int _) | some .string => some (.bin op x y)
  | some .bool => some (.binB op x y)
  | some (.struct _) | some (.array _ _) =>
    if P.eqGuardType P.depth t then none else
    match op, shapeC P 8 t with
    | .eql, some s => some (.eqAgg s false x y)
    | .neq, some s => some (.eqAgg s true x y)
    | _, _ => none
  | _ =>
    match op, nilK P t y with
    | .eql, some k => some (.eqNil k false x)
    | .neq, some k => some (.eqNil k true x)
    | _, _ => none

def cpart (size : Nat) (p : Nat × Operand) : Nat × Nat × Operand := (p.1 * size, size, p.2)

def cbuild (P : Program) (t : TypeId) (parts : Array (Nat × Operand)) : Option ROp :=
  match zeroC P t, P.underlying t with
  | some zero, some (.struct fields) =>
    match fields.toList.mapM (fun f => (P.info? f.type).map fun i => (f.offset, i.size)) with
    | some places => (parts.toList.mapM fun p => (places[p.1]?).map fun q => (q.1, q.2, p.2)).map (.build zero)
    | none => none
  | some zero, some (.array _ elem) => (sizeC P elem).map fun size => .build zero (parts.toList.map (cpart size))
  | _, _ => none

def cop (P : Program) (o : Oper) : Option ROp :=
  if !o.op.operands.all okO then none else
  match o.op with
  | .move x | .assign x => some (.mv x)
  | .pick c a b => some (.pick c a b)
  | .alloc elem => (zeroC P elem).map fun z => .new elem z
  | .box elem x => some (.box elem x)
  | .build t parts => cbuild P t parts
  | .buildSlice t len parts =>
    match P.underlying t with
    | some (.slice elem) =>
      match sizeC P elem, zeroC P elem with
      | some size, some z => if 0 < size && len * size ≤ 2 ^ 24 && z.length == size && (len != 0 || parts.isEmpty) then some (.buildSlice elem (rep len z) len (parts.toList.map (cpart size))) else none
      | _, _ => none
    | _ => none
  | .load t a => (aggN P t).map fun n => .load n a
  | .store t a x => (sizeC P t).map fun n => .store n a x
  | .nilCheck x => some (.nilchk x)
  | .binOp op t x y _ => cbin P op t x y
  | .unOp op _ x => some (.un op x)
  | .convert src dst x =>
    match P.underlying src, P.underlying dst with
    | some (.int _), some (.int k) => some (.conv k x)
    | _, _ => none
  | .makeInterface t x =>
    match P.underlying t with
    | some (.interface _) | none => none
    | some _ => some (.mkIface t x)
  | .makeFunc (.func f) first captured => if first.isEmpty then some (.mkf f captured.toList) else none
  | .makeMap _ none => some .mkMap
  | .makeSlice t l c =>
    match P.underlying t with
    | some (.slice elem) =>
      match sizeC P elem, zeroC P elem, bytesC P elem with
      | some size, some z, some b => if 0 < size && z.length == size then some (.mkSlice elem z b l c) else none
      | _, _, _ => none
    | _ => none
  | .slice t x lo hi mx =>
    match P.underlying t with
    | some (.slice elem) => match sizeC P elem with
      | some size => if 0 < size then some (.slice size x lo hi mx) else none
      | none => none
    | _ => none
  | .fieldAddr s x f =>
    match P.underlying s with
    | some (.struct fields) => match fields[f]? with
      | some fd => match sizeC P fd.type with
        | some n => if 0 < n then some (.faddr fd.offset x) else none
        | none => none
      | none => none
    | _ => none
  | .field s x f =>
    match P.underlying s with
    | some (.struct fields) => match fields[f]? with
      | some fd => (aggN P fd.type).map fun n => .field fd.offset n x
      | none => none
    | _ => none
  | .indexAddr t x i =>
    match P.underlying t with
    | some (.slice elem) => (sizeC P elem).map fun n => .iaddrS n x i
    | some (.array len elem) => if 1 < len then (sizeC P elem).map fun n => .iaddrA len n x i else none
    | _ => none
  | .index t x i =>
    match P.underlying t with
    | some (.array len elem) => match sizeC P elem, aggN P elem with
      | some size, some n => some (.indexA len size n x i)
      | _, _ => none
    | _ => none
  | .lookup t x k ok =>
    match P.underlying t with
    | some (.map key elem) => match keyC P key, zeroVC P elem with
      | some (s, a), some z => some (.lookup s a z x k ok)
      | _, _ => none
    | _ => none
  | .mapUpdate t m k v | .insert t m k v =>
    match P.underlying t with
    | some (.map key _) => (keyC P key).map fun sa => .mapUpd sa.1 sa.2 m k v
    | _ => none
  | .mapEntry t m k =>
    match P.underlying t with
    | some (.map key elem) => match keyC P key, zeroVC P elem with
      | some (s, a), some z => some (.mapEntry s a z m k)
      | _, _ => none
    | _ => none
  | .entryStore _ m s v => some (.entryStore m s v)
  | .range t x =>
    match P.underlying t with
    | some (.map _ _) => some (.range x)
    | _ => none
  | .next it false => some (.next it)
  | .entry it => some (.entry it)
  | .typeAssert x _ t true =>
    match P.underlying t with
    | some (.interface _) | none => none
    | some _ => (zeroVC P t).map fun z => .assert t z x
  | .extract x i => some (.extract x i)
  | .call { callee := .value f, args, .. } => some (.call f args.toList)
  | .call { callee := .builtin .len, args, argTypes } =>
    match args.toList, argTypes.toList with
    | [x], [t] => match P.underlying t with
      | some (.slice _) => some (.len 0 x)
      | some .string => some (.len 1 x)
      | some (.map _ _) => some (.len 2 x)
      | some (.array n _) => some (.mv (.const (.int .i64 n)))
      | some (.pointer a) => match P.underlying a with
        | some (.array n _) => some (.mv (.const (.int .i64 n)))
        | _ => none
      | _ => none
    | _, _ => none
  | .call { callee := .builtin .append, args, argTypes } =>
    match args.toList, argTypes.toList with
    | [s, x], [st, xt] => match P.underlying st with
      | some (.slice elem) => match sizeC P elem, bytesC P elem, zeroC P elem with
        | some size, some b, some z => if 0 < size && 0 < b && z.length == size then
            match P.underlying xt with
            | some (.slice _) => some (.append elem size b s x)
            | some (.int _) => some (.appendZ elem size b z s x)
            | _ => none
          else none
        | _, _, _ => none
      | _ => none
    | _, _ => none
  | .call { callee := .builtin .copy, args, argTypes } =>
    match args.toList, argTypes.toList with
    | [d, s], [dt, _] => match P.underlying dt with
      | some (.slice elem) => match sizeC P elem with
        | some size => if 0 < size then some (.copy size d s) else none
        | none => none
      | _ => none
    | _, _ => none
  | .call { callee := .builtin .max, args, .. } => some (.maxmin true args.toList)
  | .call { callee := .builtin .min, args, .. } => some (.maxmin false args.toList)
  | .call { callee := .builtin .delete, args, argTypes } =>
    match args.toList, argTypes.toList with
    | [m, k], [t, _] => match P.underlying t with
      | some (.map key _) => (keyC P key).map fun sa => .delete sa.1 sa.2 m k
      | _ => none
    | _, _ => none
  | .panic x => some (.panic x)
  | _ => none

/-- The slots that an operation names. -/
def slots (ops : Array Oper) (o : Oper) : List Nat :=
  o.dst.toList ++ (o.op.operands.toList.filterMap fun | .tmp t => some t | _ => none) ++
    (match o.guard with | some (j, _) => (((ops[j]?).bind (·.dst)).toList) | none => [])

/-- Of two operations that name a slot which one of them writes, the elder one is an ancestor of the other. -/
def slotsOk (ops : Array Oper) (b : Array Nat) : Bool :=
  (List.range ops.size).all fun j => (List.range j).all fun i =>
    match ops[i]?, ops[j]? with
    | some x, some y => (b.getD j 0).testBit i ||
        (x.dst.toList.all fun d => !(slots ops y).contains d) && (y.dst.toList.all fun d => !(slots ops x).contains d)
    | _, _ => false

/-- The edges go back. -/
def edgesOk (ops : Array Oper) : Bool :=
  (List.range ops.size).all fun i => match ops[i]? with
    | some o => o.after.all fun e => !Region.binds .any e || decide (e.on < i)
    | none => true

def coper (P : Program) (nt : Nat) (ops : Array Oper) (b : Array Nat) (draw : Bool) (i : Nat) : Option ROper := do
  let o ← ops[i]?
  let r ← cop P o
  let g ← match o.guard with
    | none => some none
    | some (j, w) => match (ops[j]?).bind (·.dst) with
      | some d => if j < i then some (some (d, w)) else none
      | none => none
  guardB (o.dst.toList.all (· < nt))
  pure { dst := o.dst, guard := g, op := r, anc := if draw then b.getD i 0 else 0 }

def cops (P : Program) (nt : Nat) (ops : Array Oper) (draw : Bool) : Option (List ROper) := do
  let b := if draw then Region.before ops else #[]
  guardB (!draw || (slotsOk ops b && edgesOk ops))
  (List.range ops.size).mapM (coper P nt ops b draw)

def compile (P : Program) (nt : Nat) : Code → Option R
  | .skip => some .skip
  | .seq a b => match compile P nt a, compile P nt b with
    | some x, some y => some (.seq x y)
    | _, _ => none
  | .cond c t e => match compile P nt t, compile P nt e with
    | some x, some y => some (.cond c x y)
    | _, _ => none
  | .block id b => (compile P nt b).map (.block id)
  | .loop b => (compile P nt b).map .loop
  | .exit id => some (.exit id)
  | .ret => some .ret
  | .region _ ops draw => (cops P nt ops draw).map (.ops draw)
  | _ => none

def cres (P : Program) : ResultVar → Option RRes
  | .tmp t => some (.tmp t)
  | .cell a t => (aggN P t).map (.cell a)

def compileF (P : Program) (f : FuncId) : Option RFun :=
  match P.funcs[f]? with
  | some fn => match fn.body with
    | some c => match compile P fn.ntmps c, fn.results.toList.mapM (cres P) with
      | some r, some rs => some { body := r, res := rs }
      | _, _ => none
    | none => none
  | none => none

end Go.Ai
