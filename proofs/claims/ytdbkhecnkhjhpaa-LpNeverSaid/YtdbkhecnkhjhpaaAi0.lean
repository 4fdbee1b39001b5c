/- The abstract run of a Go function: resolved code, canonical memory. Definitions alone. -/
import GoSem.Step
namespace Go.Ai

/-! ### Canonical memory -/
inductive O where
  | cells (c : List Value) (elem : TypeId) (own : Option Nat)   -- 'none': it is only read; 'some s': the call's own; made by append, for elements of s cells; 0: not made by append
  | map (es : List MapEntry) (clock : Nat)
  | iter (m : Option Nat) (since : Nat) (seen : List Nat) (stepped : Nat)
  | dead
  deriving Inhabited

/-- The canonical state: blocks; the least block written since the call began. -/
structure St where
  h : List O
  fl : Nat
  deriving Inhabited

abbrev Fr := List Value
def get (fr : Fr) (i : Nat) : Value := fr.getD i undef
def put : Fr → Nat → Value → Fr
  | [], 0, v => [v]
  | [], i + 1, v => undef :: put [] i v
  | _ :: l, 0, v => v :: l
  | x :: l, i + 1, v => x :: put l i v

def ev (fr : Fr) : Operand → Value
  | .tmp t => get fr t
  | .const v => v
  | .global _ => undef
  | .func f => .func (.func f) #[] #[]

/-- No address in it (a flat value). -/
def flat : Value → Bool
  | .bool _ | .int _ _ | .string _ | .nilFunc | .nilIface | .pointer none | .map none | .slice none 0 0 => true
  | .func (.func _) first captured => first.isEmpty && captured.isEmpty
  | .slice (some ⟨0, 0, some 0⟩) 0 0 => true
  | _ => false
/-- A slice that is not nil and has no room. -/
def emptyS : Value := .slice (some ⟨0, 0, some 0⟩) 0 0
/-- Flat, and no slice without room: it stands for itself. -/
def plain (v : Value) : Bool := flat v && match v with | .slice (some _) _ _ => false | _ => true
def plain1 : Value → Bool
  | .agg cs => cs.toList.all plain
  | v => plain v
def flat1 : Value → Bool
  | .agg cs => cs.toList.all flat
  | v => flat v
/-- No address in it. -/
def scalar : Value → Bool
  | .tuple vs => vs.toList.all flat1
  | .iface _ v => flat1 v
  | v => flat1 v

def rdN (h : List O) (b i n : Nat) : Option (List Value) :=
  match h[b]? with
  | some (.cells c _ _) => if i + n ≤ c.length then some ((c.drop i).take n) else none
  | _ => none
def rd (h : List O) (b i : Nat) : Option Value :=
  match h[b]? with
  | some (.cells c _ _) => c[i]?
  | _ => none
def setL : List Value → Nat → List Value → List Value
  | c, _, [] => c
  | c, i, v :: vs => setL (c.set i v) (i + 1) vs
/-- A value that one cell holds. -/
def one1 : Value → Bool
  | .agg _ | .tuple _ => false
  | _ => true
def wrN (h : List O) (b i : Nat) (vs : List Value) : Option (List O) :=
  match h[b]? with
  | some (.cells c e (some s)) => if i + vs.length ≤ c.length ∧ vs.all one1 = true then some (h.set b (.cells (setL c i vs) e (some s))) else none
  | _ => none
def rep (n : Nat) : List Value → List Value
  | [z] => List.replicate n z
  | zs => (List.replicate n zs).flatten

/-! ### Resolved code -/
inductive ROp where
  | mv (x : Operand)
  | pick (c a b : Operand)
  | new (elem : TypeId) (zero : List Value)
  | box (elem : TypeId) (x : Operand)
  | build (zero : List Value) (parts : List (Nat × Nat × Operand))
  | buildSlice (elem : TypeId) (cells : List Value) (len : Nat) (parts : List (Nat × Nat × Operand))
  | load (n : Option Nat) (a : Operand)
  | store (n : Nat) (a x : Operand)
  | nilchk (x : Operand)
  | bin (op : BinOp) (x y : Operand)
  | binB (op : BinOp) (x y : Operand)
  | eqNil (kind : Nat) (neg : Bool) (x : Operand)
  | eqAgg (shape : List (Option IntKind)) (neg : Bool) (x y : Operand)
  | un (op : UnOp) (x : Operand)
  | conv (k : IntKind) (x : Operand)
  | mkIface (t : TypeId) (x : Operand)
  | mkf (f : FuncId) (cap : List Operand)
  | mkMap
  | mkSlice (elem : TypeId) (zero : List Value) (bytes : Nat) (len cap : Operand)
  | slice (size : Nat) (x : Operand) (lo hi mx : Option Operand)
  | faddr (off : Nat) (x : Operand)
  | field (off : Nat) (n : Option Nat) (x : Operand)
  | iaddrS (size : Nat) (x i : Operand)
  | iaddrA (len size : Nat) (x i : Operand)
  | indexA (len size : Nat) (n : Option Nat) (x i : Operand)
  | lookup (shape : List (Option IntKind)) (agg : Bool) (zero : Value) (x k : Operand) (ok : Bool)
  | mapUpd (shape : List (Option IntKind)) (agg : Bool) (m k v : Operand)
  | mapEntry (shape : List (Option IntKind)) (agg : Bool) (zero : Value) (m k : Operand)
  | entryStore (m s v : Operand)
  | delete (shape : List (Option IntKind)) (agg : Bool) (m k : Operand)
  | range (x : Operand)
  | next (it : Operand)
  | entry (it : Operand)
  | assert (t : TypeId) (zero : Value) (x : Operand)
  | extract (x : Operand) (i : Nat)
  | call (f : Operand) (args : List Operand)
  | len (kind : Nat) (x : Operand)
  | append (elem : TypeId) (size bytes : Nat) (s x : Operand)
  | appendZ (elem : TypeId) (size bytes : Nat) (zero : List Value) (s x : Operand)
  | copy (size : Nat) (d s : Operand)
  | maxmin (isMax : Bool) (xs : List Operand)
  | panic (x : Operand)
  deriving Inhabited

structure ROper where
  dst : Option Nat
  guard : Option (Nat × Bool)
  op : ROp
  anc : Nat := 0
  deriving Inhabited

inductive R where
  | skip
  | seq (a b : R)
  | cond (c : Operand) (t e : R)
  | block (id : Nat) (b : R)
  | loop (b : R)
  | exit (id : Nat)
  | ret
  | ops (draw : Bool) (l : List ROper)
  deriving Inhabited

inductive RRes where
  | tmp (t : Nat)
  | cell (a : Nat) (n : Option Nat)
  deriving Inhabited

structure RFun where
  body : R
  res : List RRes
  deriving Inhabited

/-! ### The operations on canonical memory -/
inductive Res where
  | val (v : Value)
  | pan (v : Value)

def intBin (op : BinOp) (k : IntKind) (a b : Int) : Option Value :=
  match op with
  | .add => some (.int k (k.wrap (a + b)))
  | .sub => some (.int k (k.wrap (a - b)))
  | .mul => some (.int k (k.wrap (a * b)))
  | .quo => if b = 0 then none else some (.int k (k.wrap (a.tdiv b)))
  | .rem => if b = 0 then none else some (.int k (a.tmod b))
  | .and => some (.int k (k.wrap (BitVec.ofInt k.bits a &&& BitVec.ofInt k.bits b).toNat))
  | .or => some (.int k (k.wrap (BitVec.ofInt k.bits a ||| BitVec.ofInt k.bits b).toNat))
  | .xor => some (.int k (k.wrap (BitVec.ofInt k.bits a ^^^ BitVec.ofInt k.bits b).toNat))
  | .andNot => some (.int k (k.wrap (BitVec.ofInt k.bits a &&& ~~~ BitVec.ofInt k.bits b).toNat))
  | .eql => some (.bool (a == b))
  | .neq => some (.bool (a != b))
  | .lss => some (.bool (a < b))
  | .leq => some (.bool (a ≤ b))
  | .gtr => some (.bool (a > b))
  | .geq => some (.bool (a ≥ b))
  | _ => none

def binV (op : BinOp) (x y : Value) : Option Value :=
  match x, y with
  | .int k a, .int yk b =>
    match op with
    | .shl => if b < 0 then none else some (.int k (k.wrap (a * 2 ^ min b.toNat k.bits)))
    | .shr => if b < 0 then none else some (.int k (a.fdiv (2 ^ min b.toNat k.bits)))
    | op => if k = yk then intBin op k a b else none
  | .string a, .string b =>
    match op with
    | .eql => some (.bool (a.toList == b.toList))
    | .neq => some (.bool (!(a.toList == b.toList)))
    | _ => none
  | _, _ => none

def binBV (op : BinOp) (x y : Value) : Option Value :=
  match op, x, y with
  | .eql, .bool a, .bool b => some (.bool (a == b))
  | .neq, .bool a, .bool b => some (.bool (!(a == b)))
  | _, _, _ => none

def isNil : Nat → Value → Option Bool
  | 0, .pointer a => some a.isNone
  | 1, .slice a _ _ => some a.isNone
  | 2, .map a => some a.isNone
  | 3, .nilFunc => some true
  | 3, .func (.func _) _ _ => some false
  | 4, .nilIface => some true
  | 4, .iface _ _ => some false
  | _, _ => none

/-- A cell of a shape: 'some k': an integer of kind k; 'none': a bool. -/
def fits : Option IntKind → Value → Bool
  | some k, .int k' _ => k == k'
  | none, .bool _ => true
  | _, _ => false
def fitsAll : List (Option IntKind) → List Value → Bool
  | [], [] => true
  | s :: ss, v :: vs => fits s v && fitsAll ss vs
  | _, _ => false
def eqCell : Value → Value → Bool
  | .int _ a, .int _ b => a == b
  | .bool a, .bool b => a == b
  | _, _ => false
def eqCells : List Value → List Value → Bool
  | [], [] => true
  | x :: xs, y :: ys => eqCell x y && eqCells xs ys
  | _, _ => false
/-- The cells of a key of a shape. -/
def keyCells (shape : List (Option IntKind)) (agg : Bool) (v : Value) : Option (List Value) :=
  match agg, v with
  | true, .agg cs => if fitsAll shape cs.toList then some cs.toList else none
  | false, .agg _ => none
  | false, v => if fitsAll shape [v] then some [v] else none
  | _, _ => none
/-- The first entry with a key: its index, and its value. -/
def findE (cs : List Value) : List MapEntry → Nat → Option (Nat × Value)
  | [], _ => none
  | e :: es, i => if eqCells cs e.key.cells.toList then some (i, e.val) else findE cs es (i + 1)
/-- The keys of a map are of a shape. -/
def keysOk (shape : List (Option IntKind)) (agg : Bool) (es : List MapEntry) : Bool := es.all fun e => (keyCells shape agg e.key).isSome
def findK (shape : List (Option IntKind)) (agg : Bool) (k : Value) (es : List MapEntry) : Option (Option (Nat × Value)) :=
  match keyCells shape agg k with
  | some cs => if keysOk shape agg es then some (findE cs es 0) else none
  | none => none

def unV (op : UnOp) (x : Value) : Option Value :=
  match op, x with
  | .neg, .int k n => some (.int k (k.wrap (0 - n)))
  | .not, .bool b => some (.bool !b)
  | _, _ => none

def fillL (cells : List Value) : List (Nat × Nat × Value) → Option (List Value)
  | [] => some cells
  | (off, size, v) :: rest =>
    if v.cells.toList.length = size ∧ off + size ≤ cells.length then fillL (setL cells off v.cells.toList) rest else none

def partL (cs : List Value) (off : Nat) : Option Nat → Option Value
  | some n => some (.agg ((cs.drop off).take n).toArray)
  | none => cs[off]?

def bound (x : Value) (y : Nat) : Option Nat :=
  match x with
  | .int _ i => if 0 ≤ i ∧ i ≤ y then some i.toNat else none
  | _ => none

def mxB (cap : Nat) : Option Value → Option Nat
  | some v => bound v cap
  | none => some cap
def hiB (len m : Nat) (mx : Bool) : Option Value → Option Nat
  | some v => bound v m
  | none => if mx then none else some len
def loB (h : Nat) : Option Value → Option Nat
  | some v => bound v h
  | none => some 0
/-- A part of a block may be taken by elements of a size. -/
def tagOk (h : List O) (size : Nat) (b : Nat) : Bool :=
  match h[b]? with
  | some (.cells _ _ (some s)) => s == 0 || s == size
  | some (.cells _ _ none) => true
  | _ => false
def sliceA (size l h m : Nat) (mem : List O) : Option Addr → Option Value
  | none => some (.slice none (h - l) (m - l))
  | some ⟨b, o, none⟩ => if tagOk mem size b then some (.slice (some (if m = l then ⟨b, o, none⟩ else ⟨b, o + l * size, none⟩)) (h - l) (m - l)) else none
  | some a => if m = l then some (.slice (some a) (h - l) (m - l)) else none
def sliceV (mem : List O) (size : Nat) (x : Value) (lo hi mx : Option Value) : Option Value :=
  match x with
  | .slice a len cap => (mxB cap mx).bind fun m => (hiB len m mx.isSome hi).bind fun h => (loB h lo).bind fun l => sliceA size l h m mem a
  | _ => none

def readSlice (h : List O) (size n : Nat) : Option Addr → Option (List Value)
  | some ⟨b, o, none⟩ => if n * size = 0 then some [] else rdN h b o (n * size)
  | _ => if n * size = 0 then some [] else none

def roomMax : Nat := 2 ^ 47

/-- The block of a slice that is given up: it must be the call's own. -/
def kill (st : St) (elem : TypeId) (size : Nat) : Option Addr → Option St
  | none => some st
  | some ⟨b, _, none⟩ =>
    match st.h[b]? with
    | some (.cells _ e (some s)) => if (s = 0 ∨ s = size) ∧ e = elem then some { st with h := st.h.set b .dead, fl := min st.fl b } else none
    | _ => none
  | some _ => some st

/-- Put new cells behind a slice. -/
def appendCells (elem : TypeId) (size bytes : Nat) (base : Option Addr) (sLen sCap n : Nat) (new : List Value) (st : St) : Option (Value × St) :=
  if n = 0 then some (.slice base sLen sCap, st) else
  if sLen + n ≤ sCap then
    match base with
    | some ⟨b, o, none⟩ => do
      let h ← wrN st.h b (o + sLen * size) new
      some (.slice base (sLen + n) sCap, { st with h, fl := min st.fl b })
    | _ => none
  else if (sLen + n) * bytes ≤ roomMax ∧ new.all one1 = true then do
    let old ← readSlice st.h size sLen base
    let st' ← kill st elem size base
    some (.slice (some ⟨st'.h.length, 0, none⟩) (sLen + n) (sLen + n), { st' with h := st'.h ++ [.cells (old ++ new) elem (some size)] })
  else none

def appendV (elem : TypeId) (size bytes : Nat) (s x : Value) (st : St) : Option (Value × St) :=
  match s, x with
  | .slice base sLen sCap, .slice xb n _ => do
    let new ← readSlice st.h size n xb
    appendCells elem size bytes base sLen sCap n new st
  | _, _ => none

def appendZV (elem : TypeId) (size bytes : Nat) (zero : List Value) (s x : Value) (st : St) : Option (Value × St) :=
  match s, x with
  | .slice base sLen sCap, .int .i64 n =>
    if 0 ≤ n ∧ n * bytes ≤ 2 ^ 47 then appendCells elem size bytes base sLen sCap n.toNat (rep n.toNat zero) st else none
  | _, _ => none

def maxmin2 (isMax : Bool) (x : Value) : List Value → Option Value
  | [] => some x
  | .int _ b :: rest => match x with
    | .int k a => maxmin2 isMax (.int k (if isMax then (if b > a then b else a) else (if b < a then b else a))) rest
    | _ => none
  | _ => none
def maxminV (isMax : Bool) : List Value → Option Value
  | [] => none
  | x :: rest => maxmin2 isMax x rest

/-- The candidates of a step through a map. -/
def nextL (es : List MapEntry) (clock since : Nat) (seen : List Nat) : Option (List MapEntry) :=
  if clock = since ∧ es.all (fun e => plain1 e.key) = true then some (es.filter fun e => !seen.contains e.born) else none
/-- A step through a map: the iterator's block, the map's, and the candidates. -/
def nextC (it : Value) (st : St) : Option (Nat × Nat × Nat × List Nat × List MapEntry) :=
  match it with
  | .pointer (some ⟨r, 0, none⟩) => match st.h[r]? with
    | some (.iter (some b) since seen stepped) => match st.h[b]? with
      | some (.map es clock) => if stepped = since then (nextL es clock since seen).map fun l => (r, b, since, seen, l) else none
      | _ => none
    | _ => none
  | _ => none
def nextOver : Value := .tuple #[.bool false]
def nextTo (r b since : Nat) (seen : List Nat) (en : MapEntry) (st : St) : Value × St :=
  (.tuple #[.bool true, en.key, en.val], { st with h := st.h.set r (.iter (some b) since (seen ++ [en.born]) since), fl := min st.fl r })

/-- One operation that calls nothing. -/
def step (o : ROp) (e : Operand → Value) (st : St) : Option (Res × St) :=
  let ok (v : Option Value) : Option (Res × St) := v.map fun v => (.val v, st)
  match o with
  | .mv x => some (.val (e x), st)
  | .pick c a b => match e c with | .bool t => some (.val (if t then e a else e b), st) | _ => none
  | .new elem zero => some (.val (.pointer (some ⟨st.h.length, 0, none⟩)), { st with h := st.h ++ [.cells zero elem (some 0)] })
  | .box elem x => some (.val (.pointer (some ⟨st.h.length, 0, none⟩)), { st with h := st.h ++ [.cells (e x).cells.toList elem (some 0)] })
  | .build zero parts => ok ((fillL zero (parts.map fun p => (p.1, p.2.1, e p.2.2))).map fun l => .agg l.toArray)
  | .buildSlice elem cells len parts => if len = 0 then some (.val emptyS, st) else do
    let l ← fillL cells (parts.map fun p => (p.1, p.2.1, e p.2.2))
    some (.val (.slice (some ⟨st.h.length, 0, none⟩) len len), { st with h := st.h ++ [.cells l elem (some 0)] })
  | .load none a => match e a with
    | .pointer (some ⟨b, i, none⟩) => ok (rd st.h b i)
    | _ => none
  | .load (some n) a => match e a with
    | .pointer (some ⟨b, i, none⟩) => ok ((rdN st.h b i n).map fun l => .agg l.toArray)
    | _ => none
  | .store n a x => match e a with
    | .pointer (some ⟨b, i, none⟩) => do
      if (e x).cells.toList.length = n then
        let h ← wrN st.h b i (e x).cells.toList
        some (.val undef, { st with h, fl := min st.fl b })
      else none
    | _ => none
  | .nilchk x => match e x with
    | .pointer (some a) => some (.val (.pointer (some a)), st)
    | _ => none
  | .bin op x y => ok (binV op (e x) (e y))
  | .binB op x y => ok (binBV op (e x) (e y))
  | .eqNil k neg x => ok ((isNil k (e x)).map fun b => .bool (neg != b))
  | .eqAgg shape neg x y => do
    let a ← keyCells shape true (e x)
    let b ← keyCells shape true (e y)
    some (.val (.bool (neg != eqCells a b)), st)
  | .un op x => ok (unV op (e x))
  | .conv k x => match e x with | .int _ n => some (.val (.int k (k.wrap n)), st) | _ => none
  | .mkIface t x => some (.val (.iface t (e x)), st)
  | .mkf f cap => some (.val (.func (.func f) #[] (cap.map e).toArray), st)
  | .mkMap => some (.val (.map (some st.h.length)), { st with h := st.h ++ [.map [] 0] })
  | .mkSlice elem zero bytes len cap => match e len, e cap with
    | .int .i64 l, .int .i64 c =>
      if 0 ≤ l ∧ l ≤ c ∧ c * bytes ≤ 2 ^ 47 ∧ c < 2 ^ 62 then some (.val (.slice (some ⟨st.h.length, 0, none⟩) l.toNat c.toNat), { st with h := st.h ++ [.cells (rep c.toNat zero) elem (some 0)] }) else none
    | _, _ => none
  | .slice size x lo hi mx => ok (sliceV st.h size (e x) (lo.map e) (hi.map e) (mx.map e))
  | .faddr off x => match e x with
    | .pointer (some ⟨b, i, none⟩) => some (.val (.pointer (some ⟨b, i + off, none⟩)), st)
    | _ => none
  | .field off n x => match e x with
    | .agg cs => ok (partL cs.toList off n)
    | _ => none
  | .iaddrS size x i => match e x, e i with
    | .slice (some ⟨b, o, none⟩) n _, .int _ j => if 0 ≤ j ∧ j < n then some (.val (.pointer (some ⟨b, o + j.toNat * size, none⟩)), st) else none
    | _, _ => none
  | .iaddrA len size x i => match e x, e i with
    | .pointer (some ⟨b, o, none⟩), .int _ j => if 0 ≤ j ∧ j < len then some (.val (.pointer (some ⟨b, o + j.toNat * size, none⟩)), st) else none
    | _, _ => none
  | .indexA len size n x i => match e x, e i with
    | .agg cs, .int _ j => if 0 ≤ j ∧ j < len then ok (partL cs.toList (j.toNat * size) n) else none
    | _, _ => none
  | .lookup shape agg zero x k wok => match e x with
    | .map (some b) => match st.h[b]? with
      | some (.map es _) => do
        let f ← findK shape agg (e k) es
        let (v, ok) := match f with | some (_, v) => (v, true) | none => (zero, false)
        some (.val (if wok then .tuple #[v, .bool ok] else v), st)
      | _ => none
    | _ => none
  | .mapUpd shape agg m k v => match e m with
    | .map (some b) => match st.h[b]? with
      | some (.map es clock) => do
        let f ← findK shape agg (e k) es
        let st' : St := match f with
          | some (i, _) => { st with h := st.h.set b (.map (es.modify i fun en => { en with val := e v }) clock), fl := min st.fl b }
          | none => { st with h := st.h.set b (.map (es ++ [{ key := e k, val := e v, born := clock }]) (clock + 1)), fl := min st.fl b }
        some (.val undef, st')
      | _ => none
    | _ => none
  | .mapEntry shape agg zero m k => match e m with
    | .map (some b) => match st.h[b]? with
      | some (.map es clock) => do
        let f ← findK shape agg (e k) es
        match f with
        | some (i, v) => some (.val (.tuple #[v, .int .i64 (((es[i]?).map (·.born)).getD 0)]), { st with fl := min st.fl b })
        | none => some (.val (.tuple #[zero, .int .i64 clock]), { st with h := st.h.set b (.map (es ++ [{ key := e k, val := zero, born := clock }]) (clock + 1)), fl := min st.fl b })
      | _ => none
    | _ => none
  | .entryStore m s v => match e m, e s with
    | .map (some b), .int .i64 born => match st.h[b]? with
      | some (.map es clock) => match es.findIdx? (fun en => (en.born : Int) == born) with
        | some i => some (.val undef, { st with h := st.h.set b (.map (es.modify i fun en => { en with val := e v }) clock), fl := min st.fl b })
        | none => none
      | _ => none
    | _, _ => none
  | .delete shape agg m k => match e m with
    | .map (some b) => match st.h[b]? with
      | some (.map es clock) => do
        let f ← findK shape agg (e k) es
        let es' := match f with | some (i, _) => es.eraseIdx i | none => es
        some (.val undef, { st with h := st.h.set b (.map es' clock), fl := min st.fl b })
      | _ => none
    | _ => none
  | .range x => match e x with
    | .map (some b) => match st.h[b]? with
      | some (.map _ clock) => some (.val (.pointer (some ⟨st.h.length, 0, none⟩)), { st with h := st.h ++ [.iter (some b) clock [] clock] })
      | _ => none
    | _ => none
  | .next it => match nextC (e it) st with
    | some (_, _, _, _, []) => some (.val nextOver, st)
    | some (r, b, since, seen, [en]) => let q := nextTo r b since seen en st; some (.val q.1, q.2)
    | _ => none
  | .entry it => match e it with
    | .pointer (some ⟨r, 0, none⟩) => match st.h[r]? with
      | some (.iter (some b) _ seen stepped) => match st.h[b]? with
        | some (.map es clock) =>
          if clock = stepped then
            match seen.getLast? with
            | some stamp => if es.all (fun e => plain1 e.key) then ok ((es.find? (·.born == stamp)).map fun en => .tuple #[en.key, en.val]) else none
            | none => none
          else none
        | _ => none
      | _ => none
    | _ => none
  | .assert t zero x => match e x with
    | .iface u v => some (.val (if u = t then .tuple #[v, .bool true] else .tuple #[zero, .bool false]), st)
    | .nilIface => some (.val (.tuple #[zero, .bool false]), st)
    | _ => none
  | .extract x i => match e x with | .tuple vs => ok (vs.toList[i]?) | _ => none
  | .call _ _ => none
  | .len kind x => match kind, e x with
    | 0, .slice _ n _ => some (.val (.int .i64 n), st)
    | 1, .string s => some (.val (.int .i64 s.size), st)
    | 2, .map none => some (.val (.int .i64 0), st)
    | 2, .map (some b) => match st.h[b]? with
      | some (.map es _) => some (.val (.int .i64 es.length), st)
      | _ => none
    | _, _ => none
  | .append elem size bytes s x => (appendV elem size bytes (e s) (e x) st).map fun r => (.val r.1, r.2)
  | .appendZ elem size bytes zero s x => (appendZV elem size bytes zero (e s) (e x) st).map fun r => (.val r.1, r.2)
  | .copy size d s => match e d, e s with
    | .slice da dn _, .slice sa sn _ => do
      let l ← readSlice st.h size (min sn dn) sa
      if l = [] then some (.val (.int .i64 (min sn dn : Nat)), st) else
      match da with
      | some ⟨b, o, none⟩ => do
        let h ← wrN st.h b o l
        some (.val (.int .i64 (min sn dn : Nat)), { st with h, fl := min st.fl b })
      | _ => none
    | _, _ => none
  | .maxmin isMax xs => ok (maxminV isMax (xs.map e))
  | .panic x => match e x with
    | .iface t v => some (.pan (.iface t v), st)
    | _ => none

/-! ### Running -/
inductive Ex where
  | normal
  | exit (id : Nat)
  | ret
  | pan (v : Value)

inductive Out where
  | ret (v : Value)
  | pan (v : Value)

def Out.scalar : Out → Bool
  | .ret v => Ai.scalar v
  | .pan v => Ai.scalar v

def wanted (fr : Fr) : Option (Nat × Bool) → Bool
  | none => true
  | some (s, want) => match get fr s with | .bool b => b == want | _ => false

def putD (fr : Fr) : Option Nat → Value → Fr
  | some d, v => put fr d v
  | none, _ => fr

abbrev CallF := FuncId → List Value → St → Option (Out × St)

def target (v : Value) (args : List Value) : Option (FuncId × List Value) :=
  match v with
  | .func (.func f) first captured => some (f, first.toList ++ args ++ captured.toList)
  | _ => none

/-- What an operation looks at and writes: blocks by their numbers; 'all': whatever there is is looked at; 'bad': whatever there is may be written. -/
structure FP where
  all : Bool := false
  bad : Bool := false
  r : List Nat := []
  w : List Nat := []
  al : Bool := false

def blk : Value → List Nat
  | .pointer (some ⟨b, _, none⟩) => [b]
  | .slice (some ⟨b, _, none⟩) _ _ => [b]
  | .map (some b) => [b]
  | _ => []

def iterMap (h : List O) : List Nat → List Nat
  | [r] => match h[r]? with | some (.iter (some b) _ _ _) => [r, b] | _ => [r]
  | l => l

def fpOf (o : ROp) (e : Operand → Value) (st : St) : FP :=
  match o with
  | .load _ a => { r := blk (e a) }
  | .store _ a _ => { w := blk (e a) }
  | .lookup _ _ _ x _ _ => { r := blk (e x) }
  | .mapUpd _ _ m _ _ => { w := blk (e m) }
  | .mapEntry _ _ _ m _ => { w := blk (e m) }
  | .entryStore m _ _ => { w := blk (e m) }
  | .delete _ _ m _ => { w := blk (e m) }
  | .range x => { r := blk (e x) }
  | .next it => { r := iterMap st.h (blk (e it)), w := blk (e it) }
  | .entry it => { r := iterMap st.h (blk (e it)) }
  | .len _ x => { r := blk (e x) }
  | .slice _ x _ _ _ => { r := blk (e x) }
  | .append _ _ _ s x => { r := blk (e x), w := blk (e s) }
  | .appendZ _ _ _ _ s _ => { w := blk (e s) }
  | .copy _ d s => { r := blk (e s), w := blk (e d) }
  | _ => {}

def FP.touches (x : FP) : Bool := x.all || x.bad || !x.r.isEmpty || !x.w.isEmpty
def FP.hits (x y : FP) : Bool := (x.bad && y.touches) || (x.all && !y.w.isEmpty) || (x.bad && y.al) || x.w.any fun k => y.r.contains k || y.w.contains k
def FP.clash (x y : FP) : Bool := x.hits y || y.hits x
def clashes (acc : List (Nat × FP)) (anc : Nat) (fp : FP) : Bool := acc.any fun q => !anc.testBit q.1 && q.2.clash fp

/-- A call's floor is its own: at least as great as the memory's size where it has written nothing that was there. -/
def joined (st st' : St) : St := { st' with fl := if st'.fl < st.h.length then min st.fl st'.fl else st.fl }

def doCall (call : CallF) (f : Operand) (args : List Operand) (e : Operand → Value) (st : St) : Option (Out × St) :=
  match target (e f) (args.map e) with
  | some (f, vs) => call f vs { st with fl := st.h.length }
  | none => none

def runOps (call : CallF) : List ROper → Fr → St → Option (Ex × Fr × St)
  | [], fr, st => some (.normal, fr, st)
  | o :: os, fr, st =>
    if wanted fr o.guard then
      match o.op with
      | .call f args => match doCall call f args (ev fr) st with
        | some (.ret v, st') => runOps call os (putD fr o.dst v) (joined st st')
        | some (.pan v, st') => some (.pan v, fr, joined st st')
        | none => none
      | op => match step op (ev fr) st with
        | some (.val v, st') => runOps call os (putD fr o.dst v) st'
        | some (.pan v, st') => some (.pan v, fr, st')
        | none => none
    else runOps call os (putD fr o.dst undef) st

/-- One operation of a region that draws its order. -/
def opD (call : CallF) (o : ROp) (e : Operand → Value) (st : St) : Option (Value × St × FP) :=
  match o with
  | .call f args => match doCall call f args e st with
    | some (.ret v, st') => some (v, joined st st', { all := true, bad := decide (st'.fl < st.h.length), al := st'.h.length != st.h.length })
    | _ => none
  | op => match step op e st with
    | some (.val v, st') => some (v, st', { fpOf op e st with al := st'.h.length != st.h.length })
    | _ => none

def runOpsD (call : CallF) : Nat → List (Nat × FP) → List ROper → Fr → St → Option (Ex × Fr × St)
  | _, _, [], fr, st => some (.normal, fr, st)
  | i, acc, o :: os, fr, st =>
    if wanted fr o.guard then
      match opD call o.op (ev fr) st with
      | some (v, st', fp) => if clashes acc o.anc fp then none else runOpsD call (i + 1) ((i, fp) :: acc) os (putD fr o.dst v) st'
      | none => none
    else runOpsD call (i + 1) acc os (putD fr o.dst undef) st

def resOne (fr : Fr) (h : List O) : RRes → Option Value
  | .tmp t => some (get fr t)
  | .cell a n => match get fr a with
    | .pointer (some ⟨b, i, none⟩) => match n with
      | none => rd h b i
      | some n => (rdN h b i n).map fun l => .agg l.toArray
    | _ => none
def resAll (fr : Fr) (h : List O) : List RRes → Option (List Value)
  | [] => some []
  | r :: rs => match resOne fr h r, resAll fr h rs with
    | some v, some vs => some (v :: vs)
    | _, _ => none
def resV (fr : Fr) (h : List O) (rs : List RRes) : Option Value :=
  match resAll fr h rs with
  | some [v] => some v
  | some vs => some (.tuple vs.toArray)
  | none => none

/-- Back from a call: where it has written nothing that was there, and hands back no address, its memory is forgotten. -/
def back (st : St) (out : Out) (st' : St) : Out × St :=
  if out.scalar && decide (st.h.length ≤ st'.fl) then (out, st) else (out, st')

def callOf (F : FuncId → Option RFun) (X : R → Fr → St → Option (Ex × Fr × St)) : CallF := fun f args st =>
  match F f with
  | none => none
  | some rf =>
    match X rf.body args st with
    | some (.normal, fr, st') => (resV fr st'.h rf.res).map fun v => back st (.ret v) st'
    | some (.ret, fr, st') => (resV fr st'.h rf.res).map fun v => back st (.ret v) st'
    | some (.pan v, _, st') => some (back st (.pan v) st')
    | _ => none

structure Env where
  F : FuncId → Option RFun
  S : FuncId → Option (List Value → St → Option (Out × St))

/-- A function of which a summary is known is not entered. -/
def callSig (S : FuncId → Option (List Value → St → Option (Out × St))) (c : CallF) : CallF := fun f args st =>
  match S f with
  | some s => s args st
  | none => c f args st

def exec (E : Env) : Nat → R → Fr → St → Option (Ex × Fr × St)
  | 0, _, _, _ => none
  | _ + 1, .skip, fr, st => some (.normal, fr, st)
  | n + 1, .seq a b, fr, st =>
    match exec E n a fr st with
    | some (.normal, fr', st') => exec E n b fr' st'
    | r => r
  | n + 1, .cond c t e, fr, st =>
    match ev fr c with
    | .bool b => if b then exec E n t fr st else exec E n e fr st
    | _ => none
  | n + 1, .block id b, fr, st =>
    match exec E n b fr st with
    | some (.exit id', fr', st') => if id' = id then some (.normal, fr', st') else some (.exit id', fr', st')
    | r => r
  | n + 1, .loop b, fr, st =>
    match exec E n b fr st with
    | some (.normal, fr', st') => exec E n (.loop b) fr' st'
    | r => r
  | _ + 1, .exit id, fr, st => some (.exit id, fr, st)
  | _ + 1, .ret, fr, st => some (.ret, fr, st)
  | n + 1, .ops false l, fr, st => runOps (callSig E.S (callOf E.F (exec E n))) l fr st
  | n + 1, .ops true l, fr, st => runOpsD (callSig E.S (callOf E.F (exec E n))) 0 [] l fr st

def call (E : Env) (n : Nat) : CallF := callSig E.S (callOf E.F (exec E n))

end Go.Ai
