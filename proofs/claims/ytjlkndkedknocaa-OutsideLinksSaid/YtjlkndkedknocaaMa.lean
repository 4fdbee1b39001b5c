/- Texts that were built one by one: Ai0, AiC, Ai1, Ai2, Ai3, Ai4, Ai5, Ai6, Ai7, Ai8. -/
import GoSem.Step
import Derived.WalkKit
set_option linter.unusedSimpArgs false
set_option linter.unusedVariables false
namespace Go.Ai
inductive O where
 | cells (c : List Value) (elem : TypeId) (own : Option Nat)   -- 'none': it is only read; 'some s': the call's own; made by append, for elements of s cells; 0: not made by append
 | map (es : List MapEntry) (clock : Nat)
 | iter (m : Option Nat) (since : Nat) (seen : List Nat) (stepped : Nat)
 | loop (busy : Bool) (nt : Nat) (fr : List Value) (ps : List Nat) (assign body : Code)   -- a range over a function that is under way
 | dead
 deriving Inhabited
structure St where
 h : List O
 fl : Nat
 deriving Inhabited
abbrev Fr := List Value
def get (fr : Fr) (i : Nat) : Value := fr.getD i undef
def put : Fr → Nat → Value → Fr
 | [], 0, v => [v]
 | [], i + 1, v => undef :: put [] i v
 | _ :: l, 0, v => v :: l
 | x :: l, i + 1, v => x :: put l i v
def ev (fr : Fr) : Operand → Value
 | .tmp t => get fr t
 | .const v => v
 | .global _ => undef
 | .func f => .func (.func f) #[] #[]
def flat : Value → Bool
 | .bool _ | .int _ _ | .string _ | .nilFunc | .nilIface | .pointer none | .map none | .slice none 0 0 => true
 | .func (.func _) first captured => first.isEmpty && captured.isEmpty
 | .slice (some ⟨0, 0, some 0⟩) 0 0 => true
 | _ => false
def emptyS : Value := .slice (some ⟨0, 0, some 0⟩) 0 0
def plain (v : Value) : Bool := flat v && match v with | .slice (some _) _ _ => false | _ => true
def plain1 : Value → Bool
 | .agg cs => cs.toList.all plain
 | v => plain v
def flat1 : Value → Bool
 | .agg cs => cs.toList.all flat
 | v => flat v
def scalar : Value → Bool
 | .tuple vs => vs.toList.all flat1
 | .iface _ v => flat1 v
 | v => flat1 v
def rdN (h : List O) (b i n : Nat) : Option (List Value) :=
 match h[b]? with
 | some (.cells c _ _) => if i + n ≤ c.length then some ((c.drop i).take n) else none
 | _ => none
def rd (h : List O) (b i : Nat) : Option Value :=
 match h[b]? with
 | some (.cells c _ _) => c[i]?
 | _ => none
def setL : List Value → Nat → List Value → List Value
 | c, _, [] => c
 | c, i, v :: vs => setL (c.set i v) (i + 1) vs
def one1 : Value → Bool
 | .agg _ | .tuple _ => false
 | _ => true
def wrN (h : List O) (b i : Nat) (vs : List Value) : Option (List O) :=
 match h[b]? with
 | some (.cells c e (some s)) => if i + vs.length ≤ c.length ∧ vs.all one1 = true then some (h.set b (.cells (setL c i vs) e (some s))) else none
 | _ => none
def rep (n : Nat) : List Value → List Value
 | [z] => List.replicate n z
 | zs => (List.replicate n zs).flatten
inductive ROp where
 | mv (x : Operand)
 | pick (c a b : Operand)
 | new (elem : TypeId) (zero : List Value)
 | box (elem : TypeId) (x : Operand)
 | build (zero : List Value) (parts : List (Nat × Nat × Operand))
 | buildSlice (elem : TypeId) (cells : List Value) (len : Nat) (parts : List (Nat × Nat × Operand))
 | load (n : Option Nat) (a : Operand)
 | store (n : Nat) (a x : Operand)
 | nilchk (x : Operand)
 | bin (op : BinOp) (x y : Operand)
 | binB (op : BinOp) (x y : Operand)
 | eqNil (kind : Nat) (neg : Bool) (x : Operand)
 | eqAgg (shape : List (Option IntKind)) (neg : Bool) (x y : Operand)
 | un (op : UnOp) (x : Operand)
 | conv (k : IntKind) (x : Operand)
 | mkIface (t : TypeId) (x : Operand)
 | mkf (f : FuncId) (cap : List Operand)
 | mkMap
 | mkSlice (elem : TypeId) (zero : List Value) (bytes : Nat) (len cap : Operand)
 | slice (size : Nat) (x : Operand) (lo hi mx : Option Operand)
 | sliceA (len size : Nat) (x : Operand) (lo hi mx : Option Operand)
 | faddr (off : Nat) (x : Operand)
 | field (off : Nat) (n : Option Nat) (x : Operand)
 | iaddrS (size : Nat) (x i : Operand)
 | iaddrA (len size : Nat) (x i : Operand)
 | indexA (len size : Nat) (n : Option Nat) (x i : Operand)
 | strIdx (x i : Operand)
 | strSl (x : Operand) (lo hi : Option Operand)
 | strOf (x : Operand)
 | lookup (shape : List (Option IntKind)) (agg : Bool) (zero : Value) (x k : Operand) (ok : Bool)
 | mapUpd (shape : List (Option IntKind)) (agg : Bool) (m k v : Operand)
 | mapEntry (shape : List (Option IntKind)) (agg : Bool) (zero : Value) (m k : Operand)
 | entryStore (m s v : Operand)
 | delete (shape : List (Option IntKind)) (agg : Bool) (m k : Operand)
 | range (x : Operand)
 | next (it : Operand)
 | entry (it : Operand)
 | assert (t : TypeId) (zero : Value) (x : Operand)
 | extract (x : Operand) (i : Nat)
 | call (f : Operand) (args : List Operand)
 | len (kind : Nat) (x : Operand)
 | append (elem : TypeId) (size bytes : Nat) (s x : Operand)
 | appendZ (elem : TypeId) (size bytes : Nat) (zero : List Value) (s x : Operand)
 | copy (size : Nat) (d s : Operand)
 | maxmin (isMax : Bool) (xs : List Operand)
 | panic (x : Operand)
 deriving Inhabited
structure ROper where
 dst : Option Nat
 guard : Option (Nat × Bool)
 op : ROp
 anc : Nat := 0
 deriving Inhabited
inductive R where
 | skip
 | seq (a b : R)
 | cond (c : Operand) (t e : R)
 | block (id : Nat) (b : R)
 | loop (b : R)
 | exit (id : Nat)
 | ret
 | ops (draw : Bool) (l : List ROper)
 | rangeF (g : Operand) (ps : List Nat) (nt : Nat) (assign body : Code)
 deriving Inhabited
inductive RRes where
 | tmp (t : Nat)
 | cell (a : Nat) (n : Option Nat)
 deriving Inhabited
structure RFun where
 body : R
 res : List RRes
 deriving Inhabited
inductive Res where
 | val (v : Value)
 | pan (v : Value)
def intBin (op : BinOp) (k : IntKind) (a b : Int) : Option Value :=
 match op with
 | .add => some (.int k (k.wrap (a + b)))
 | .sub => some (.int k (k.wrap (a - b)))
 | .mul => some (.int k (k.wrap (a * b)))
 | .quo => if b = 0 then none else some (.int k (k.wrap (a.tdiv b)))
 | .rem => if b = 0 then none else some (.int k (a.tmod b))
 | .and => some (.int k (k.wrap (BitVec.ofInt k.bits a &&& BitVec.ofInt k.bits b).toNat))
 | .or => some (.int k (k.wrap (BitVec.ofInt k.bits a ||| BitVec.ofInt k.bits b).toNat))
 | .xor => some (.int k (k.wrap (BitVec.ofInt k.bits a ^^^ BitVec.ofInt k.bits b).toNat))
 | .andNot => some (.int k (k.wrap (BitVec.ofInt k.bits a &&& ~~~ BitVec.ofInt k.bits b).toNat))
 | .eql => some (.bool (a == b))
 | .neq => some (.bool (a != b))
 | .lss => some (.bool (a < b))
 | .leq => some (.bool (a ≤ b))
 | .gtr => some (.bool (a > b))
 | .geq => some (.bool (a ≥ b))
 | _ => none
def binV (op : BinOp) (x y : Value) : Option Value :=
 match x, y with
 | .int k a, .int yk b =>
  match op with
  | .shl => if b < 0 then none else some (.int k (k.wrap (a * 2 ^ min b.toNat k.bits)))
  | .shr => if b < 0 then none else some (.int k (a.fdiv (2 ^ min b.toNat k.bits)))
  | op => if k = yk then intBin op k a b else none
 | .string a, .string b =>
  match op with
  | .eql => some (.bool (a.toList == b.toList))
  | .neq => some (.bool (!(a.toList == b.toList)))
  | .add => if a.size + b.size ≤ 9223372036854775807 then some (.string (a ++ b)) else none
  | _ => none
 | _, _ => none
def binBV (op : BinOp) (x y : Value) : Option Value :=
 match op, x, y with
 | .eql, .bool a, .bool b => some (.bool (a == b))
 | .neq, .bool a, .bool b => some (.bool (!(a == b)))
 | _, _, _ => none
def isNil : Nat → Value → Option Bool
 | 0, .pointer a => some a.isNone
 | 1, .slice a _ _ => some a.isNone
 | 2, .map a => some a.isNone
 | 3, .nilFunc => some true
 | 3, .func (.func _) _ _ => some false
 | 4, .nilIface => some true
 | 4, .iface _ _ => some false
 | _, _ => none
def fits : Option IntKind → Value → Bool
 | some k, .int k' _ => k == k'
 | none, .bool _ => true
 | _, _ => false
def fitsAll : List (Option IntKind) → List Value → Bool
 | [], [] => true
 | s :: ss, v :: vs => fits s v && fitsAll ss vs
 | _, _ => false
def eqCell : Value → Value → Bool
 | .int _ a, .int _ b => a == b
 | .bool a, .bool b => a == b
 | _, _ => false
def eqCells : List Value → List Value → Bool
 | [], [] => true
 | x :: xs, y :: ys => eqCell x y && eqCells xs ys
 | _, _ => false
def keyCells (shape : List (Option IntKind)) (agg : Bool) (v : Value) : Option (List Value) :=
 match agg, v with
 | true, .agg cs => if fitsAll shape cs.toList then some cs.toList else none
 | false, .agg _ => none
 | false, v => if fitsAll shape [v] then some [v] else none
 | _, _ => none
def findE (cs : List Value) : List MapEntry → Nat → Option (Nat × Value)
 | [], _ => none
 | e :: es, i => if eqCells cs e.key.cells.toList then some (i, e.val) else findE cs es (i + 1)
def keysOk (shape : List (Option IntKind)) (agg : Bool) (es : List MapEntry) : Bool := es.all fun e => (keyCells shape agg e.key).isSome
def findK (shape : List (Option IntKind)) (agg : Bool) (k : Value) (es : List MapEntry) : Option (Option (Nat × Value)) :=
 match keyCells shape agg k with
 | some cs => if keysOk shape agg es then some (findE cs es 0) else none
 | none => none
def unV (op : UnOp) (x : Value) : Option Value :=
 match op, x with
 | .neg, .int k n => some (.int k (k.wrap (0 - n)))
 | .not, .bool b => some (.bool !b)
 | _, _ => none
def fillL (cells : List Value) : List (Nat × Nat × Value) → Option (List Value)
 | [] => some cells
 | (off, size, v) :: rest =>
  if v.cells.toList.length = size ∧ off + size ≤ cells.length then fillL (setL cells off v.cells.toList) rest else none
def partL (cs : List Value) (off : Nat) : Option Nat → Option Value
 | some n => some (.agg ((cs.drop off).take n).toArray)
 | none => cs[off]?
def bound (x : Value) (y : Nat) : Option Nat :=
 match x with
 | .int _ i => if 0 ≤ i ∧ i ≤ y then some i.toNat else none
 | _ => none
def mxB (cap : Nat) : Option Value → Option Nat
 | some v => bound v cap
 | none => some cap
def hiB (len m : Nat) (mx : Bool) : Option Value → Option Nat
 | some v => bound v m
 | none => if mx then none else some len
def loB (h : Nat) : Option Value → Option Nat
 | some v => bound v h
 | none => some 0
def tagOk (h : List O) (size : Nat) (b : Nat) : Bool :=
 match h[b]? with
 | some (.cells _ _ (some s)) => s == 0 || s == size
 | some (.cells _ _ none) => true
 | _ => false
def sliceA (size l h m : Nat) (mem : List O) : Option Addr → Option Value
 | none => some (.slice none (h - l) (m - l))
 | some ⟨b, o, none⟩ => if tagOk mem size b then some (.slice (some (if m = l then ⟨b, o, none⟩ else ⟨b, o + l * size, none⟩)) (h - l) (m - l)) else none
 | some a => if m = l then some (.slice (some a) (h - l) (m - l)) else none
def sliceV (mem : List O) (size : Nat) (x : Value) (lo hi mx : Option Value) : Option Value :=
 match x with
 | .slice a len cap => (mxB cap mx).bind fun m => (hiB len m mx.isSome hi).bind fun h => (loB h lo).bind fun l => sliceA size l h m mem a
 | _ => none
def byteS : List Value → Option Value
 | [.int .u8 n] => some (.string (ByteArray.empty.push (UInt8.ofNat n.toNat)))
 | _ => none
def strIdxV (x i : Value) : Option Value :=
 match x, i with
 | .string s, .int _ j => if 0 ≤ j then (s[j.toNat]?).map fun b => .int .u8 b.toNat else none
 | _, _ => none
def strSlV (x : Value) (lo hi : Option Value) : Option Value :=
 match x with
 | .string s => (hiB s.size s.size false hi).bind fun h => (loB h lo).map fun l => .string (s.extract l h)
 | _ => none
def strOfV (mem : List O) (x : Value) : Option Value :=
 match x with
 | .slice (some ⟨b, i, none⟩) 1 _ => (rdN mem b i 1).bind byteS
 | _ => none
def readSlice (h : List O) (size n : Nat) : Option Addr → Option (List Value)
 | some ⟨b, o, none⟩ => if n * size = 0 then some [] else rdN h b o (n * size)
 | _ => if n * size = 0 then some [] else none
def roomMax : Nat := 2 ^ 47
def kill (st : St) (elem : TypeId) (size : Nat) : Option Addr → Option St
 | none => some st
 | some ⟨b, _, none⟩ =>
  match st.h[b]? with
  | some (.cells _ e (some s)) => if (s = 0 ∨ s = size) ∧ e = elem then some { st with h := st.h.set b .dead, fl := min st.fl b } else none
  | _ => none
 | some _ => some st
def appendCells (elem : TypeId) (size bytes : Nat) (base : Option Addr) (sLen sCap n : Nat) (new : List Value) (st : St) : Option (Value × St) :=
 if n = 0 then some (.slice base sLen sCap, st) else
 if sLen + n ≤ sCap then
  match base with
  | some ⟨b, o, none⟩ => do
   let h ← wrN st.h b (o + sLen * size) new
   some (.slice base (sLen + n) sCap, { st with h, fl := min st.fl b })
  | _ => none
 else if (sLen + n) * bytes ≤ roomMax ∧ new.all one1 = true then do
  let old ← readSlice st.h size sLen base
  let st' ← kill st elem size base
  some (.slice (some ⟨st'.h.length, 0, none⟩) (sLen + n) (sLen + n), { st' with h := st'.h ++ [.cells (old ++ new) elem (some size)] })
 else none
def appendV (elem : TypeId) (size bytes : Nat) (s x : Value) (st : St) : Option (Value × St) :=
 match s, x with
 | .slice base sLen sCap, .slice xb n _ => do
  let new ← readSlice st.h size n xb
  appendCells elem size bytes base sLen sCap n new st
 | _, _ => none
def appendZV (elem : TypeId) (size bytes : Nat) (zero : List Value) (s x : Value) (st : St) : Option (Value × St) :=
 match s, x with
 | .slice base sLen sCap, .int .i64 n =>
  if 0 ≤ n ∧ n * bytes ≤ 2 ^ 47 then appendCells elem size bytes base sLen sCap n.toNat (rep n.toNat zero) st else none
 | _, _ => none
def maxmin2 (isMax : Bool) (x : Value) : List Value → Option Value
 | [] => some x
 | .int _ b :: rest => match x with
  | .int k a => maxmin2 isMax (.int k (if isMax then (if b > a then b else a) else (if b < a then b else a))) rest
  | _ => none
 | _ => none
def maxminV (isMax : Bool) : List Value → Option Value
 | [] => none
 | x :: rest => maxmin2 isMax x rest
def nextL (es : List MapEntry) (clock since : Nat) (seen : List Nat) : Option (List MapEntry) :=
 if clock = since ∧ es.all (fun e => plain1 e.key) = true then some (es.filter fun e => !seen.contains e.born) else none
def nextC (it : Value) (st : St) : Option (Nat × Nat × Nat × List Nat × List MapEntry) :=
 match it with
 | .pointer (some ⟨r, 0, none⟩) => match st.h[r]? with
  | some (.iter (some b) since seen stepped) => match st.h[b]? with
   | some (.map es clock) => if stepped = since then (nextL es clock since seen).map fun l => (r, b, since, seen, l) else none
   | _ => none
  | _ => none
 | _ => none
def nextOver : Value := .tuple #[.bool false]
def nextEnd (r : Nat) (st : St) : St := { st with h := st.h.set r .dead, fl := min st.fl r }
def nextTo (r b since : Nat) (seen : List Nat) (en : MapEntry) (st : St) : Value × St :=
 (.tuple #[.bool true, en.key, en.val], { st with h := st.h.set r (.iter (some b) since (seen ++ [en.born]) since), fl := min st.fl r })
def step (o : ROp) (e : Operand → Value) (st : St) : Option (Res × St) :=
 let ok (v : Option Value) : Option (Res × St) := v.map fun v => (.val v, st)
 match o with
 | .mv x => some (.val (e x), st)
 | .pick c a b => match e c with | .bool t => some (.val (if t then e a else e b), st) | _ => none
 | .new elem zero => some (.val (.pointer (some ⟨st.h.length, 0, none⟩)), { st with h := st.h ++ [.cells zero elem (some 0)] })
 | .box elem x => some (.val (.pointer (some ⟨st.h.length, 0, none⟩)), { st with h := st.h ++ [.cells (e x).cells.toList elem (some 0)] })
 | .build zero parts => ok ((fillL zero (parts.map fun p => (p.1, p.2.1, e p.2.2))).map fun l => .agg l.toArray)
 | .buildSlice elem cells len parts => if len = 0 then some (.val emptyS, st) else do
  let l ← fillL cells (parts.map fun p => (p.1, p.2.1, e p.2.2))
  some (.val (.slice (some ⟨st.h.length, 0, none⟩) len len), { st with h := st.h ++ [.cells l elem (some 0)] })
 | .load none a => match e a with
  | .pointer (some ⟨b, i, none⟩) => ok (rd st.h b i)
  | _ => none
 | .load (some n) a => match e a with
  | .pointer (some ⟨b, i, none⟩) => ok ((rdN st.h b i n).map fun l => .agg l.toArray)
  | _ => none
 | .store n a x => match e a with
  | .pointer (some ⟨b, i, none⟩) => do
   if (e x).cells.toList.length = n then
    let h ← wrN st.h b i (e x).cells.toList
    some (.val undef, { st with h, fl := min st.fl b })
   else none
  | _ => none
 | .nilchk x => match e x with
  | .pointer (some a) => some (.val (.pointer (some a)), st)
  | _ => none
 | .bin op x y => ok (binV op (e x) (e y))
 | .binB op x y => ok (binBV op (e x) (e y))
 | .eqNil k neg x => ok ((isNil k (e x)).map fun b => .bool (neg != b))
 | .eqAgg shape neg x y => do
  let a ← keyCells shape true (e x)
  let b ← keyCells shape true (e y)
  some (.val (.bool (neg != eqCells a b)), st)
 | .un op x => ok (unV op (e x))
 | .conv k x => match e x with | .int _ n => some (.val (.int k (k.wrap n)), st) | _ => none
 | .mkIface t x => some (.val (.iface t (e x)), st)
 | .mkf f cap => some (.val (.func (.func f) #[] (cap.map e).toArray), st)
 | .mkMap => some (.val (.map (some st.h.length)), { st with h := st.h ++ [.map [] 0] })
 | .mkSlice elem zero bytes len cap => match e len, e cap with
  | .int .i64 l, .int .i64 c =>
   if 0 ≤ l ∧ l ≤ c ∧ c * bytes ≤ 2 ^ 47 ∧ c < 2 ^ 62 then some (.val (.slice (some ⟨st.h.length, 0, none⟩) l.toNat c.toNat), { st with h := st.h ++ [.cells (rep c.toNat zero) elem (some 0)] }) else none
  | _, _ => none
 | .slice size x lo hi mx => ok (sliceV st.h size (e x) (lo.map e) (hi.map e) (mx.map e))
 | .sliceA len size x lo hi mx => match e x with
  | .pointer (some ⟨b, i, none⟩) => ok (sliceV st.h size (.slice (some ⟨b, i, none⟩) len len) (lo.map e) (hi.map e) (mx.map e))
  | _ => none
 | .faddr off x => match e x with
  | .pointer (some ⟨b, i, none⟩) => some (.val (.pointer (some ⟨b, i + off, none⟩)), st)
  | _ => none
 | .field off n x => match e x with
  | .agg cs => ok (partL cs.toList off n)
  | _ => none
 | .iaddrS size x i => match e x, e i with
  | .slice (some ⟨b, o, none⟩) n _, .int _ j => if 0 ≤ j ∧ j < n then some (.val (.pointer (some ⟨b, o + j.toNat * size, none⟩)), st) else none
  | _, _ => none
 | .iaddrA len size x i => match e x, e i with
  | .pointer (some ⟨b, o, none⟩), .int _ j => if 0 ≤ j ∧ j < len then some (.val (.pointer (some ⟨b, o + j.toNat * size, none⟩)), st) else none
  | _, _ => none
 | .indexA len size n x i => match e x, e i with
  | .agg cs, .int _ j => if 0 ≤ j ∧ j < len then ok (partL cs.toList (j.toNat * size) n) else none
  | _, _ => none
 | .strIdx x i => ok (strIdxV (e x) (e i))
 | .strSl x lo hi => ok (strSlV (e x) (lo.map e) (hi.map e))
 | .strOf x => ok (strOfV st.h (e x))
 | .lookup shape agg zero x k wok => match e x with
  | .map (some b) => match st.h[b]? with
   | some (.map es _) => do
    let f ← findK shape agg (e k) es
    let (v, ok) := match f with | some (_, v) => (v, true) | none => (zero, false)
    some (.val (if wok then .tuple #[v, .bool ok] else v), st)
   | _ => none
  | _ => none
 | .mapUpd shape agg m k v => match e m with
  | .map (some b) => match st.h[b]? with
   | some (.map es clock) => do
    let f ← findK shape agg (e k) es
    let st' : St := match f with
     | some (i, _) => { st with h := st.h.set b (.map (es.modify i fun en => { en with val := e v }) clock), fl := min st.fl b }
     | none => { st with h := st.h.set b (.map (es ++ [{ key := e k, val := e v, born := clock }]) (clock + 1)), fl := min st.fl b }
    some (.val undef, st')
   | _ => none
  | _ => none
 | .mapEntry shape agg zero m k => match e m with
  | .map (some b) => match st.h[b]? with
   | some (.map es clock) => do
    let f ← findK shape agg (e k) es
    match f with
    | some (i, v) => some (.val (.tuple #[v, .int .i64 (((es[i]?).map (·.born)).getD 0)]), { st with fl := min st.fl b })
    | none => some (.val (.tuple #[zero, .int .i64 clock]), { st with h := st.h.set b (.map (es ++ [{ key := e k, val := zero, born := clock }]) (clock + 1)), fl := min st.fl b })
   | _ => none
  | _ => none
 | .entryStore m s v => match e m, e s with
  | .map (some b), .int .i64 born => match st.h[b]? with
   | some (.map es clock) => match es.findIdx? (fun en => (en.born : Int) == born) with
    | some i => some (.val undef, { st with h := st.h.set b (.map (es.modify i fun en => { en with val := e v }) clock), fl := min st.fl b })
    | none => none
   | _ => none
  | _, _ => none
 | .delete shape agg m k => match e m with
  | .map (some b) => match st.h[b]? with
   | some (.map es clock) => do
    let f ← findK shape agg (e k) es
    let es' := match f with | some (i, _) => es.eraseIdx i | none => es
    some (.val undef, { st with h := st.h.set b (.map es' clock), fl := min st.fl b })
   | _ => none
  | _ => none
 | .range x => match e x with
  | .map (some b) => match st.h[b]? with
   | some (.map _ clock) => some (.val (.pointer (some ⟨st.h.length, 0, none⟩)), { st with h := st.h ++ [.iter (some b) clock [] clock] })
   | _ => none
  | _ => none
 | .next it => match nextC (e it) st with
  | some (r, _, _, _, []) => some (.val nextOver, nextEnd r st)
  | some (r, b, since, seen, [en]) => let q := nextTo r b since seen en st; some (.val q.1, q.2)
  | _ => none
 | .entry it => match e it with
  | .pointer (some ⟨r, 0, none⟩) => match st.h[r]? with
   | some (.iter (some b) _ seen stepped) => match st.h[b]? with
    | some (.map es clock) =>
     if clock = stepped then
      match seen.getLast? with
      | some stamp => if es.all (fun e => plain1 e.key) then ok ((es.find? (·.born == stamp)).map fun en => .tuple #[en.key, en.val]) else none
      | none => none
     else none
    | _ => none
   | _ => none
  | _ => none
 | .assert t zero x => match e x with
  | .iface u v => some (.val (if u = t then .tuple #[v, .bool true] else .tuple #[zero, .bool false]), st)
  | .nilIface => some (.val (.tuple #[zero, .bool false]), st)
  | _ => none
 | .extract x i => match e x with | .tuple vs => ok (vs.toList[i]?) | _ => none
 | .call _ _ => none
 | .len kind x => match kind, e x with
  | 0, .slice _ n _ => some (.val (.int .i64 n), st)
  | 1, .string s => some (.val (.int .i64 s.size), st)
  | 2, .map none => some (.val (.int .i64 0), st)
  | 2, .map (some b) => match st.h[b]? with
   | some (.map es _) => some (.val (.int .i64 es.length), st)
   | _ => none
  | _, _ => none
 | .append elem size bytes s x => (appendV elem size bytes (e s) (e x) st).map fun r => (.val r.1, r.2)
 | .appendZ elem size bytes zero s x => (appendZV elem size bytes zero (e s) (e x) st).map fun r => (.val r.1, r.2)
 | .copy size d s => match e d, e s with
  | .slice da dn _, .slice sa sn _ => do
   let l ← readSlice st.h size (min sn dn) sa
   if l = [] then some (.val (.int .i64 (min sn dn : Nat)), st) else
   match da with
   | some ⟨b, o, none⟩ => do
    let h ← wrN st.h b o l
    some (.val (.int .i64 (min sn dn : Nat)), { st with h, fl := min st.fl b })
   | _ => none
  | _, _ => none
 | .maxmin isMax xs => ok (maxminV isMax (xs.map e))
 | .panic x => match e x with
  | .iface t v => some (.pan (.iface t v), st)
  | _ => none
inductive Ex where
 | normal
 | exit (id : Nat)
 | ret
 | pan (v : Value)
inductive Out where
 | ret (v : Value)
 | pan (v : Value)
def Out.scalar : Out → Bool
 | .ret v => Ai.scalar v
 | .pan v => Ai.scalar v
def wanted (fr : Fr) : Option (Nat × Bool) → Bool
 | none => true
 | some (s, want) => match get fr s with | .bool b => b == want | _ => false
def putD (fr : Fr) : Option Nat → Value → Fr
 | some d, v => put fr d v
 | none, _ => fr
abbrev CallF := FuncId → List Value → St → Option (Out × St)
def yB : Nat := 1099511627776
def target (v : Value) (args : List Value) : Option (FuncId × List Value) :=
 match v with
 | .func (.func f) first captured => if f < yB then some (f, first.toList ++ args ++ captured.toList) else none
 | .func (.yield k) _ _ => some (yB + k, args)
 | _ => none
structure FP where
 all : Bool := false
 bad : Bool := false
 r : List Nat := []
 w : List Nat := []
 al : Bool := false
def blk : Value → List Nat
 | .pointer (some ⟨b, _, none⟩) => [b]
 | .slice (some ⟨b, _, none⟩) _ _ => [b]
 | .map (some b) => [b]
 | _ => []
def iterMap (h : List O) : List Nat → List Nat
 | [r] => match h[r]? with | some (.iter (some b) _ _ _) => [r, b] | _ => [r]
 | l => l
def fpOf (o : ROp) (e : Operand → Value) (st : St) : FP :=
 match o with
 | .load _ a => { r := blk (e a) }
 | .store _ a _ => { w := blk (e a) }
 | .lookup _ _ _ x _ _ => { r := blk (e x) }
 | .mapUpd _ _ m _ _ => { w := blk (e m) }
 | .mapEntry _ _ _ m _ => { w := blk (e m) }
 | .entryStore m _ _ => { w := blk (e m) }
 | .delete _ _ m _ => { w := blk (e m) }
 | .range x => { r := blk (e x) }
 | .next it => { r := iterMap st.h (blk (e it)), w := blk (e it) }
 | .entry it => { r := iterMap st.h (blk (e it)) }
 | .len _ x => { r := blk (e x) }
 | .slice _ x _ _ _ => { r := blk (e x) }
 | .sliceA _ _ x _ _ _ => { r := blk (e x) }
 | .strOf x => { r := blk (e x) }
 | .append _ _ _ s x => { r := blk (e x), w := blk (e s) }
 | .appendZ _ _ _ _ s _ => { w := blk (e s) }
 | .copy _ d s => { r := blk (e s), w := blk (e d) }
 | _ => {}
def FP.touches (x : FP) : Bool := x.all || x.bad || !x.r.isEmpty || !x.w.isEmpty
def FP.hits (x y : FP) : Bool := (x.bad && y.touches) || (x.all && !y.w.isEmpty) || (x.bad && y.al) || x.w.any fun k => y.r.contains k || y.w.contains k
def FP.clash (x y : FP) : Bool := x.hits y || y.hits x
def clashes (acc : List (Nat × FP)) (anc : Nat) (fp : FP) : Bool := acc.any fun q => !anc.testBit q.1 && q.2.clash fp
def joined (st st' : St) : St := { st' with fl := if st'.fl < st.h.length then min st.fl st'.fl else st.fl }
def doCall (call : CallF) (f : Operand) (args : List Operand) (e : Operand → Value) (st : St) : Option (Out × St) :=
 match target (e f) (args.map e) with
 | some (f, vs) => call f vs { st with fl := st.h.length }
 | none => none
def runOps (call : CallF) : List ROper → Fr → St → Option (Ex × Fr × St)
 | [], fr, st => some (.normal, fr, st)
 | o :: os, fr, st =>
  if wanted fr o.guard then
   match o.op with
   | .call f args => match doCall call f args (ev fr) st with
    | some (.ret v, st') => runOps call os (putD fr o.dst v) (joined st st')
    | some (.pan v, st') => some (.pan v, fr, joined st st')
    | none => none
   | op => match step op (ev fr) st with
    | some (.val v, st') => runOps call os (putD fr o.dst v) st'
    | some (.pan v, st') => some (.pan v, fr, st')
    | none => none
  else runOps call os (putD fr o.dst undef) st
def isY : Value → Bool
 | .func (.yield _) _ _ => true
 | _ => false
def opD (call : CallF) (o : ROp) (e : Operand → Value) (st : St) : Option (Value × St × FP) :=
 match o with
 | .call f args => if isY (e f) then none else match doCall call f args e st with
  | some (.ret v, st') => some (v, joined st st', { all := true, bad := decide (st'.fl < st.h.length), al := st'.h.length != st.h.length })
  | _ => none
 | op => match step op e st with
  | some (.val v, st') => some (v, st', { fpOf op e st with al := st'.h.length != st.h.length })
  | _ => none
def runOpsD (call : CallF) : Nat → List (Nat × FP) → List ROper → Fr → St → Option (Ex × Fr × St)
 | _, _, [], fr, st => some (.normal, fr, st)
 | i, acc, o :: os, fr, st =>
  if wanted fr o.guard then
   match opD call o.op (ev fr) st with
   | some (v, st', fp) => if clashes acc o.anc fp then none else runOpsD call (i + 1) ((i, fp) :: acc) os (putD fr o.dst v) st'
   | none => none
  else runOpsD call (i + 1) acc os (putD fr o.dst undef) st
def resOne (fr : Fr) (h : List O) : RRes → Option Value
 | .tmp t => some (get fr t)
 | .cell a n => match get fr a with
  | .pointer (some ⟨b, i, none⟩) => match n with
   | none => rd h b i
   | some n => (rdN h b i n).map fun l => .agg l.toArray
  | _ => none
def resAll (fr : Fr) (h : List O) : List RRes → Option (List Value)
 | [] => some []
 | r :: rs => match resOne fr h r, resAll fr h rs with
  | some v, some vs => some (v :: vs)
  | _, _ => none
def resV (fr : Fr) (h : List O) (rs : List RRes) : Option Value :=
 match resAll fr h rs with
 | some [v] => some v
 | some vs => some (.tuple vs.toArray)
 | none => none
def back (st : St) (out : Out) (st' : St) : Out × St :=
 if out.scalar && decide (st.h.length ≤ st'.fl) then (out, st) else (out, st')
structure Env where
 F : FuncId → Option RFun
 S : FuncId → Option (List Value → St → Option (Out × St))
 cmp : Nat → Code → Option R := fun _ _ => none
def putAll : Fr → List Nat → List Value → Fr
 | fr, p :: ps, v :: vs => putAll (put fr p v) ps vs
 | fr, _, _ => fr
def turn (from_ : Bool) (k : Nat) (st : St) : Option St :=
 match st.h[k]? with
 | some (.loop b nt fr ps as bd) => if b = from_ then some { st with h := st.h.set k (.loop (!b) nt fr ps as bd), fl := min st.fl k } else none
 | _ => none
def over (k : Nat) (st : St) : Option St :=
 match st.h[k]? with
 | some (.loop false _ _ _ _ _) => some { st with h := st.h.set k .dead, fl := min st.fl k }
 | _ => none
def callY (E : Env) (X : R → Fr → St → Option (Ex × Fr × St)) (k : Nat) (args : List Value) (st : St) : Option (Out × St) :=
 match st.h[k]? with
 | some (.loop _ nt fr ps as bd) =>
  if args.length = ps.length then
   match E.cmp nt as, E.cmp nt bd with
   | some ra, some rb =>
    match X ra (putAll fr ps args) st with
    | some (.normal, fr1, st1) =>
     match turn false k st1 with
     | some st2 =>
      match X rb fr1 st2 with
      | some (.normal, _, st3) => (turn true k st3).map fun st4 => (.ret (.bool true), st4)
      | _ => none
     | none => none
    | _ => none
   | _, _ => none
  else none
 | _ => none
def callOf (E : Env) (X : R → Fr → St → Option (Ex × Fr × St)) : CallF := fun f args st =>
 if yB ≤ f then callY E X (f - yB) args st else
 match E.F f with
 | none => none
 | some rf =>
  match X rf.body args st with
  | some (.normal, fr, st') => (resV fr st'.h rf.res).map fun v => back st (.ret v) st'
  | some (.ret, fr, st') => (resV fr st'.h rf.res).map fun v => back st (.ret v) st'
  | some (.pan v, _, st') => some (back st (.pan v) st')
  | _ => none
def callSig (S : FuncId → Option (List Value → St → Option (Out × St))) (c : CallF) : CallF := fun f args st =>
 match S f with
 | some s => s args st
 | none => c f args st
def tok (k : Nat) : Value := .func (.yield k) #[] #[]
def looped (nt : Nat) (fr : Fr) (ps : List Nat) (assign body : Code) (st : St) : St := { st with h := st.h ++ [.loop false nt fr ps assign body] }
def exec (E : Env) : Nat → R → Fr → St → Option (Ex × Fr × St)
 | 0, _, _, _ => none
 | _ + 1, .skip, fr, st => some (.normal, fr, st)
 | n + 1, .seq a b, fr, st =>
  match exec E n a fr st with
  | some (.normal, fr', st') => exec E n b fr' st'
  | r => r
 | n + 1, .cond c t e, fr, st =>
  match ev fr c with
  | .bool b => if b then exec E n t fr st else exec E n e fr st
  | _ => none
 | n + 1, .block id b, fr, st =>
  match exec E n b fr st with
  | some (.exit id', fr', st') => if id' = id then some (.normal, fr', st') else some (.exit id', fr', st')
  | r => r
 | n + 1, .loop b, fr, st =>
  match exec E n b fr st with
  | some (.normal, fr', st') => exec E n (.loop b) fr' st'
  | r => r
 | _ + 1, .exit id, fr, st => some (.exit id, fr, st)
 | _ + 1, .ret, fr, st => some (.ret, fr, st)
 | n + 1, .rangeF g ps nt as bd, fr, st =>
  match target (ev fr g) [tok st.h.length] with
  | some (f, vs) =>
   if f < yB then
    match callSig E.S (callOf E (exec E n)) f vs { looped nt fr ps as bd st with fl := st.h.length + 1 } with
    | some (.ret _, st2) => (over st.h.length (joined (looped nt fr ps as bd st) st2)).map fun st3 => (.normal, fr, st3)
    | _ => none
   else none
  | none => none
 | n + 1, .ops false l, fr, st => runOps (callSig E.S (callOf E (exec E n))) l fr st
 | n + 1, .ops true l, fr, st => runOpsD (callSig E.S (callOf E (exec E n))) 0 [] l fr st
def call (E : Env) (n : Nat) : CallF := callSig E.S (callOf E (exec E n))
def noRange : R → Bool
 | .seq a b => noRange a && noRange b
 | .cond _ a b => noRange a && noRange b
 | .block _ b => noRange b
 | .loop b => noRange b
 | .rangeF _ _ _ _ _ => false
 | _ => true
end Go.Ai
namespace Go.Ai
def okO : Operand → Bool
 | .tmp _ => true
 | .const v => plain v
 | .func _ => true
 | .global _ => false
def guardB (b : Bool) : Option Unit := if b then some () else none
def aggN (P : Program) (t : TypeId) : Option (Option Nat) :=
 match P.underlying t with
 | some (.struct _) | some (.array _ _) => (P.info? t).map fun i => some i.size
 | some _ => some none
 | none => none
def sizeC (P : Program) (t : TypeId) : Option Nat := (P.info? t).map (·.size)
def bytesC (P : Program) (t : TypeId) : Option Nat := (P.info? t).map (·.bytes)
def zeroC (P : Program) (t : TypeId) : Option (List Value) :=
 match (P.info? t).map (·.zero) with
 | some (some z) => if z.cells.toList.all plain then some z.cells.toList else none
 | _ => none
def zeroVC (P : Program) (t : TypeId) : Option Value :=
 match (P.info? t).map (·.zero) with
 | some (some z) => if z.cells.toList.all plain && (match z with | .tuple _ => false | _ => true) then some z else none
 | _ => none
def shapeFs (P : Program) (sh : TypeId → Option (List (Option IntKind))) : Nat → List Field → Option (List (Option IntKind))
 | _, [] => some []
 | off, f :: fs =>
  match sh f.type with
  | some m => if f.name != "_" && f.offset == off && sizeC P f.type == some m.length then (shapeFs P sh (off + m.length) fs).map (m ++ ·) else none
  | none => none
def shapeC (P : Program) : Nat → TypeId → Option (List (Option IntKind))
 | 0, _ => none
 | d + 1, t =>
  match P.underlying t with
  | some (.int k) => some [some k]
  | some .bool => some [none]
  | some (.struct fs) => if P.stoodInHeld t then none else shapeFs P (shapeC P d) 0 fs.toList
  | some (.array n e) => match shapeC P d e with
   | some m => if sizeC P e == some m.length then some ((List.replicate n m).flatten) else none
   | none => none
  | _ => none
def isAggT (P : Program) (t : TypeId) : Option Bool := (aggN P t).map (·.isSome)
def keyC (P : Program) (t : TypeId) : Option (List (Option IntKind) × Bool) :=
 match shapeC P 8 t, isAggT P t with
 | some s, some a => some (s, a)
 | _, _ => none
def nilK (P : Program) (t : TypeId) (y : Operand) : Option Nat :=
 match P.underlying t, y with
 | some (.pointer _), .const (.pointer none) => some 0
 | some (.slice _), .const (.slice none 0 0) => some 1
 | some (.map _ _), .const (.map none) => some 2
 | some (.func _ _ _), .const .nilFunc => some 3
 | some (.interface _), .const .nilIface => some 4
 | _, _ => none
def cbin (P : Program) (op : BinOp) (t : TypeId) (x y : Operand) : Option ROp :=
 match P.underlying t with
 | some (.int _) | some .string => some (.bin op x y)
 | some .bool => some (.binB op x y)
 | some (.struct _) | some (.array _ _) =>
  if P.eqGuardType P.depth t then none else
  match op, shapeC P 8 t with
  | .eql, some s => some (.eqAgg s false x y)
  | .neq, some s => some (.eqAgg s true x y)
  | _, _ => none
 | _ =>
  match op, nilK P t y with
  | .eql, some k => some (.eqNil k false x)
  | .neq, some k => some (.eqNil k true x)
  | _, _ => none
def cpart (size : Nat) (p : Nat × Operand) : Nat × Nat × Operand := (p.1 * size, size, p.2)
def cbuild (P : Program) (t : TypeId) (parts : Array (Nat × Operand)) : Option ROp :=
 match zeroC P t, P.underlying t with
 | some zero, some (.struct fields) =>
  match fields.toList.mapM (fun f => (P.info? f.type).map fun i => (f.offset, i.size)) with
  | some places => (parts.toList.mapM fun p => (places[p.1]?).map fun q => (q.1, q.2, p.2)).map (.build zero)
  | none => none
 | some zero, some (.array _ elem) => (sizeC P elem).map fun size => .build zero (parts.toList.map (cpart size))
 | _, _ => none
def cop (P : Program) (o : Oper) : Option ROp :=
 if !o.op.operands.all okO then none else
 match o.op with
 | .move x | .assign x => some (.mv x)
 | .pick c a b => some (.pick c a b)
 | .alloc elem => (zeroC P elem).map fun z => .new elem z
 | .box elem x => some (.box elem x)
 | .build t parts => cbuild P t parts
 | .buildSlice t len parts =>
  match P.underlying t with
  | some (.slice elem) =>
   match sizeC P elem, zeroC P elem with
   | some size, some z => if 0 < size && len * size ≤ 2 ^ 24 && z.length == size && (len != 0 || parts.isEmpty) then some (.buildSlice elem (rep len z) len (parts.toList.map (cpart size))) else none
   | _, _ => none
  | _ => none
 | .load t a => (aggN P t).map fun n => .load n a
 | .store t a x => (sizeC P t).map fun n => .store n a x
 | .nilCheck x => some (.nilchk x)
 | .binOp op t x y _ => cbin P op t x y
 | .unOp op _ x => some (.un op x)
 | .convert src dst x =>
  match P.underlying src, P.underlying dst with
  | some (.int _), some (.int k) => some (.conv k x)
  | some (.slice el), some .string => match P.underlying el with
   | some (.int .u8) => some (.strOf x)
   | _ => none
  | _, _ => none
 | .makeInterface t x =>
  match P.underlying t with
  | some (.interface _) | none => none
  | some _ => some (.mkIface t x)
 | .makeFunc (.func f) first captured => if first.isEmpty then some (.mkf f captured.toList) else none
 | .makeMap _ none => some .mkMap
 | .makeSlice t l c =>
  match P.underlying t with
  | some (.slice elem) =>
   match sizeC P elem, zeroC P elem, bytesC P elem with
   | some size, some z, some b => if 0 < size && z.length == size then some (.mkSlice elem z b l c) else none
   | _, _, _ => none
  | _ => none
 | .slice t x lo hi mx =>
  match P.underlying t with
  | some (.slice elem) => match sizeC P elem with
   | some size => if 0 < size then some (.slice size x lo hi mx) else none
   | none => none
  | some (.pointer a) => match P.underlying a with
   | some (.array len elem) => match sizeC P elem with
    | some size => if 0 < size then some (.sliceA len size x lo hi mx) else none
    | none => none
   | _ => none
  | some (.array len elem) => match sizeC P elem with
   | some size => if 0 < size then some (.sliceA len size x lo hi mx) else none
   | none => none
  | some .string => if mx.isNone then some (.strSl x lo hi) else none
  | _ => none
 | .fieldAddr s x f =>
  match P.underlying s with
  | some (.struct fields) => match fields[f]? with
   | some fd => match sizeC P fd.type with
    | some n => if 0 < n then some (.faddr fd.offset x) else none
    | none => none
   | none => none
  | _ => none
 | .field s x f =>
  match P.underlying s with
  | some (.struct fields) => match fields[f]? with
   | some fd => (aggN P fd.type).map fun n => .field fd.offset n x
   | none => none
  | _ => none
 | .indexAddr t x i =>
  match P.underlying t with
  | some (.slice elem) => (sizeC P elem).map fun n => .iaddrS n x i
  | some (.array len elem) => if 1 < len then (sizeC P elem).map fun n => .iaddrA len n x i else none
  | _ => none
 | .index t x i =>
  match P.underlying t with
  | some (.array len elem) => match sizeC P elem, aggN P elem with
   | some size, some n => some (.indexA len size n x i)
   | _, _ => none
  | some .string => some (.strIdx x i)
  | _ => none
 | .lookup t x k ok =>
  match P.underlying t with
  | some (.map key elem) => match keyC P key, zeroVC P elem with
   | some (s, a), some z => some (.lookup s a z x k ok)
   | _, _ => none
  | _ => none
 | .mapUpdate t m k v | .insert t m k v =>
  match P.underlying t with
  | some (.map key _) => (keyC P key).map fun sa => .mapUpd sa.1 sa.2 m k v
  | _ => none
 | .mapEntry t m k =>
  match P.underlying t with
  | some (.map key elem) => match keyC P key, zeroVC P elem with
   | some (s, a), some z => some (.mapEntry s a z m k)
   | _, _ => none
  | _ => none
 | .entryStore _ m s v => some (.entryStore m s v)
 | .range t x =>
  match P.underlying t with
  | some (.map _ _) => some (.range x)
  | _ => none
 | .next it false => some (.next it)
 | .entry it => some (.entry it)
 | .typeAssert x _ t true =>
  match P.underlying t with
  | some (.interface _) | none => none
  | some _ => (zeroVC P t).map fun z => .assert t z x
 | .extract x i => some (.extract x i)
 | .call { callee := .value f, args, .. } => some (.call f args.toList)
 | .call { callee := .builtin .len, args, argTypes } =>
  match args.toList, argTypes.toList with
  | [x], [t] => match P.underlying t with
   | some (.slice _) => some (.len 0 x)
   | some .string => some (.len 1 x)
   | some (.map _ _) => some (.len 2 x)
   | some (.array n _) => some (.mv (.const (.int .i64 n)))
   | some (.pointer a) => match P.underlying a with
    | some (.array n _) => some (.mv (.const (.int .i64 n)))
    | _ => none
   | _ => none
  | _, _ => none
 | .call { callee := .builtin .append, args, argTypes } =>
  match args.toList, argTypes.toList with
  | [s, x], [st, xt] => match P.underlying st with
   | some (.slice elem) => match sizeC P elem, bytesC P elem, zeroC P elem with
    | some size, some b, some z => if 0 < size && 0 < b && z.length == size then
      match P.underlying xt with
      | some (.slice _) => some (.append elem size b s x)
      | some (.int _) => some (.appendZ elem size b z s x)
      | _ => none
     else none
    | _, _, _ => none
   | _ => none
  | _, _ => none
 | .call { callee := .builtin .copy, args, argTypes } =>
  match args.toList, argTypes.toList with
  | [d, s], [dt, _] => match P.underlying dt with
   | some (.slice elem) => match sizeC P elem with
    | some size => if 0 < size then some (.copy size d s) else none
    | none => none
   | _ => none
  | _, _ => none
 | .call { callee := .builtin .max, args, .. } => some (.maxmin true args.toList)
 | .call { callee := .builtin .min, args, .. } => some (.maxmin false args.toList)
 | .call { callee := .builtin .delete, args, argTypes } =>
  match args.toList, argTypes.toList with
  | [m, k], [t, _] => match P.underlying t with
   | some (.map key _) => (keyC P key).map fun sa => .delete sa.1 sa.2 m k
   | _ => none
  | _, _ => none
 | .panic x => some (.panic x)
 | _ => none
def slots (ops : Array Oper) (o : Oper) : List Nat :=
 o.dst.toList ++ (o.op.operands.toList.filterMap fun | .tmp t => some t | _ => none) ++
  (match o.guard with | some (j, _) => (((ops[j]?).bind (·.dst)).toList) | none => [])
def slotsOk (ops : Array Oper) (b : Array Nat) : Bool :=
 (List.range ops.size).all fun j => (List.range j).all fun i =>
  match ops[i]?, ops[j]? with
  | some x, some y => (b.getD j 0).testBit i ||
    (x.dst.toList.all fun d => !(slots ops y).contains d) && (y.dst.toList.all fun d => !(slots ops x).contains d)
  | _, _ => false
def edgesOk (ops : Array Oper) : Bool :=
 (List.range ops.size).all fun i => match ops[i]? with
  | some o => o.after.all fun e => !Region.binds .any e || decide (e.on < i)
  | none => true
def coper (P : Program) (nt : Nat) (ops : Array Oper) (b : Array Nat) (draw : Bool) (i : Nat) : Option ROper := do
 let o ← ops[i]?
 let r ← cop P o
 let g ← match o.guard with
  | none => some none
  | some (j, w) => match (ops[j]?).bind (·.dst) with
   | some d => if j < i then some (some (d, w)) else none
   | none => none
 guardB (o.dst.toList.all (· < nt))
 pure { dst := o.dst, guard := g, op := r, anc := if draw then b.getD i 0 else 0 }
def cops (P : Program) (nt : Nat) (ops : Array Oper) (draw : Bool) : Option (List ROper) := do
 let b := if draw then Region.before ops else #[]
 guardB (!draw || (slotsOk ops b && edgesOk ops))
 (List.range ops.size).mapM (coper P nt ops b draw)
def compile (P : Program) (nt : Nat) : Code → Option R
 | .skip => some .skip
 | .seq a b => match compile P nt a, compile P nt b with
  | some x, some y => some (.seq x y)
  | _, _ => none
 | .cond c t e => match compile P nt t, compile P nt e with
  | some x, some y => some (.cond c x y)
  | _, _ => none
 | .block id b => (compile P nt b).map (.block id)
 | .loop b => (compile P nt b).map .loop
 | .exit id => some (.exit id)
 | .ret => some .ret
 | .region _ ops draw => (cops P nt ops draw).map (.ops draw)
 | .rangeFunc g ps assign body => if okO g && ps.all (· < nt) then some (.rangeF g ps.toList nt assign body) else none
 | _ => none
def cres (P : Program) : ResultVar → Option RRes
 | .tmp t => some (.tmp t)
 | .cell a t => (aggN P t).map (.cell a)
def compileF (P : Program) (f : FuncId) : Option RFun :=
 match P.funcs[f]? with
 | some fn => match fn.body with
  | some c => match compile P fn.ntmps c, fn.results.toList.mapM (cres P) with
   | some r, some rs => some { body := r, res := rs }
   | _, _ => none
  | none => none
 | none => none
end Go.Ai
namespace Go.Ai
structure Loc where
 b : Nat
 sh : Nat
 es : Nat := 0
 sz : Nat := 0
abbrev RM := Nat → Option Loc
def isE : Value → Bool
 | .slice (some ⟨_, _, some _⟩) _ _ => true
 | _ => false
inductive VRel (ρ : RM) : Value → Value → Prop
 | flat {v : Value} : flat v = true → isE v = false → VRel ρ v v
 | empty (a : Addr) : VRel ρ emptyS (.slice (some a) 0 0)
 | ptr {id o : Nat} {l : Loc} : ρ id = some l → VRel ρ (.pointer (some ⟨id, o, none⟩)) (.pointer (some ⟨l.b, l.sh + o, none⟩))
 | slice {id o o' n c c' : Nat} {l : Loc} : ρ id = some l → c ≤ c' → (o' = l.sh + o ∨ c = 0) → n ≤ c → (c' = c ∨ (0 < l.es ∧ o' + c' * l.es ≤ l.sz)) →
   VRel ρ (.slice (some ⟨id, o, none⟩) n c) (.slice (some ⟨l.b, o', none⟩) n c')
 | map {id : Nat} {l : Loc} : ρ id = some l → VRel ρ (.map (some id)) (.map (some l.b))
 | func {f : FuncId} {xs ys : List Value} : xs.length = ys.length → (∀ (i : Nat) a b, xs[i]? = some a → ys[i]? = some b → VRel ρ a b) →
   VRel ρ (.func (.func f) #[] xs.toArray) (.func (.func f) #[] ys.toArray)
 | yld {k : Nat} {l : Loc} : ρ k = some l → VRel ρ (.func (.yield k) #[] #[]) (.func (.yield l.b) #[] #[])
 | iface {t : TypeId} {v v' : Value} : VRel ρ v v' → VRel ρ (.iface t v) (.iface t v')
 | agg {xs ys : List Value} : xs.length = ys.length → (∀ (i : Nat) a b, xs[i]? = some a → ys[i]? = some b → VRel ρ a b) →
   VRel ρ (.agg xs.toArray) (.agg ys.toArray)
 | tuple {xs ys : List Value} : xs.length = ys.length → (∀ (i : Nat) a b, xs[i]? = some a → ys[i]? = some b → VRel ρ a b) →
   VRel ρ (.tuple xs.toArray) (.tuple ys.toArray)
def RM.le (ρ ρ' : RM) : Prop := ∀ id l, ρ id = some l → ρ' id = some l
theorem RM.le_refl (ρ : RM) : ρ.le ρ := fun _ _ h => h
theorem RM.le_trans {a b c : RM} (h : a.le b) (k : b.le c) : a.le c := fun id l x => k id l (h id l x)
theorem VRel.mono {ρ ρ' : RM} (hρ : ρ.le ρ') {v v' : Value} (h : VRel ρ v v') : VRel ρ' v v' := by
 induction h with
 | flat h1 h2 => exact .flat h1 h2
 | empty a => exact .empty a
 | ptr h => exact .ptr (hρ _ _ h)
 | slice h a b c d => exact .slice (hρ _ _ h) a b c d
 | map h => exact .map (hρ _ _ h)
 | func hl _ ih => exact .func hl ih
 | yld h => exact .yld (hρ _ _ h)
 | iface _ ih => exact .iface ih
 | agg hl _ ih => exact .agg hl ih
 | tuple hl _ ih => exact .tuple hl ih
abbrev LRel (ρ : RM) (xs ys : List Value) : Prop := xs.length = ys.length ∧ ∀ (i : Nat) a b, xs[i]? = some a → ys[i]? = some b → VRel ρ a b
theorem LRel.nil (ρ : RM) : LRel ρ [] [] := ⟨rfl, fun i a b h => by simp at h⟩
theorem LRel.cons {ρ : RM} {x y : Value} {xs ys : List Value} (h : VRel ρ x y) (t : LRel ρ xs ys) : LRel ρ (x :: xs) (y :: ys) := by
 refine ⟨by simp [t.1], fun i a b ha hb => ?_⟩
 cases i with
 | zero => simp at ha hb; subst ha hb; exact h
 | succ i => exact t.2 i a b (by simpa using ha) (by simpa using hb)
theorem LRel.uncons {ρ : RM} {x : Value} {xs zs : List Value} (h : LRel ρ (x :: xs) zs) : ∃ y ys, zs = y :: ys ∧ VRel ρ x y ∧ LRel ρ xs ys := by
 cases zs with
 | nil => simp [LRel] at h
 | cons y ys => exact ⟨y, ys, rfl, h.2 0 x y rfl rfl, by simpa using h.1, fun i a b ha hb => h.2 (i + 1) a b (by simpa using ha) (by simpa using hb)⟩
theorem LRel.mono {ρ ρ' : RM} (hρ : ρ.le ρ') {xs ys : List Value} (h : LRel ρ xs ys) : LRel ρ' xs ys := ⟨h.1, fun i a b ha hb => (h.2 i a b ha hb).mono hρ⟩
theorem LRel.get {ρ : RM} {xs ys : List Value} (h : LRel ρ xs ys) {i : Nat} {a : Value} (ha : xs[i]? = some a) : ∃ b, ys[i]? = some b ∧ VRel ρ a b := by
 have hi : i < xs.length := by
  rcases Nat.lt_or_ge i xs.length with h | h
  ·exact h
  ·simp [List.getElem?_eq_none h] at ha
 have hi' : i < ys.length := by have := h.1; omega
 exact ⟨ys[i], by simp [hi'], h.2 i _ _ ha (by simp [hi'])⟩
theorem LRel.append {ρ : RM} {xs ys zs us : List Value} (h : LRel ρ xs ys) (k : LRel ρ zs us) : LRel ρ (xs ++ zs) (ys ++ us) := by
 refine ⟨by simp [h.1, k.1], fun i a b ha hb => ?_⟩
 by_cases hi : i < xs.length
 ·rw [List.getElem?_append_left hi] at ha
  rw [List.getElem?_append_left (by have := h.1; omega)] at hb
  exact h.2 i a b ha hb
 ·rw [List.getElem?_append_right (by omega)] at ha
  rw [List.getElem?_append_right (by have := h.1; omega), ← h.1] at hb
  exact k.2 _ a b ha hb
theorem LRel.take {ρ : RM} {xs ys : List Value} (h : LRel ρ xs ys) (n : Nat) : LRel ρ (xs.take n) (ys.take n) := by
 refine ⟨by simp [h.1], fun i a b ha hb => ?_⟩
 by_cases hi : i < n
 ·rw [List.getElem?_take_of_lt hi] at ha hb; exact h.2 i a b ha hb
 ·rw [List.getElem?_take, if_neg hi] at ha; cases ha
theorem LRel.drop {ρ : RM} {xs ys : List Value} (h : LRel ρ xs ys) (n : Nat) : LRel ρ (xs.drop n) (ys.drop n) := by
 refine ⟨by simp [h.1], fun i a b ha hb => ?_⟩
 rw [List.getElem?_drop] at ha hb
 exact h.2 _ a b ha hb
theorem LRel.map {ρ : RM} {α : Type} {f g : α → Value} (l : List α) (h : ∀ x ∈ l, VRel ρ (f x) (g x)) : LRel ρ (l.map f) (l.map g) := by
 induction l with
 | nil => exact LRel.nil ρ
 | cons x l ih => exact LRel.cons (h x (by simp)) (ih fun y hy => h y (by simp [hy]))
theorem VRel.agg' {ρ : RM} {xs ys : List Value} (h : LRel ρ xs ys) : VRel ρ (.agg xs.toArray) (.agg ys.toArray) := .agg h.1 h.2
theorem VRel.tuple' {ρ : RM} {xs ys : List Value} (h : LRel ρ xs ys) : VRel ρ (.tuple xs.toArray) (.tuple ys.toArray) := .tuple h.1 h.2
theorem VRel.int {ρ : RM} {k : IntKind} {n : Int} {v : Value} (h : VRel ρ (.int k n) v) : v = .int k n := by cases h; rfl
theorem VRel.bool {ρ : RM} {b : Bool} {v : Value} (h : VRel ρ (.bool b) v) : v = .bool b := by cases h; rfl
theorem VRel.string {ρ : RM} {s : ByteArray} {v : Value} (h : VRel ρ (.string s) v) : v = .string s := by cases h; rfl
theorem VRel.nilIface {ρ : RM} {v : Value} (h : VRel ρ .nilIface v) : v = .nilIface := by cases h; rfl
theorem VRel.nilFunc {ρ : RM} {v : Value} (h : VRel ρ .nilFunc v) : v = .nilFunc := by cases h; rfl
theorem VRel.inv_ptr {ρ : RM} {id o : Nat} {v : Value} (h : VRel ρ (.pointer (some ⟨id, o, none⟩)) v) : ∃ l : Loc, ρ id = some l ∧ v = .pointer (some ⟨l.b, l.sh + o, none⟩) := by
 cases h with
 | flat h => simp [Ai.flat] at h
 | ptr h => exact ⟨_, h, rfl⟩
theorem VRel.inv_map {ρ : RM} {id : Nat} {v : Value} (h : VRel ρ (.map (some id)) v) : ∃ l : Loc, ρ id = some l ∧ v = .map (some l.b) := by
 cases h with
 | flat h => simp [Ai.flat] at h
 | map h => exact ⟨_, h, rfl⟩
theorem VRel.inv_slice {ρ : RM} {id o n c : Nat} {v : Value} (h : VRel ρ (.slice (some ⟨id, o, none⟩) n c) v) :
  ∃ (l : Loc) (o' c' : Nat), ρ id = some l ∧ v = .slice (some ⟨l.b, o', none⟩) n c' ∧ c ≤ c' ∧ (o' = l.sh + o ∨ c = 0) ∧ n ≤ c ∧ (c' = c ∨ (0 < l.es ∧ o' + c' * l.es ≤ l.sz)) := by
 cases h with
 | flat h => simp [Ai.flat] at h
 | slice h a b c d => exact ⟨_, _, _, h, rfl, a, b, c, d⟩
theorem VRel.inv_agg {ρ : RM} {cs : Array Value} {v : Value} (h : VRel ρ (.agg cs) v) : ∃ cs' : Array Value, v = .agg cs' ∧ LRel ρ cs.toList cs'.toList := by
 cases h with
 | flat h => simp [Ai.flat] at h
 | agg h1 h2 => exact ⟨_, rfl, h1, h2⟩
theorem VRel.inv_tuple {ρ : RM} {cs : Array Value} {v : Value} (h : VRel ρ (.tuple cs) v) : ∃ cs' : Array Value, v = .tuple cs' ∧ LRel ρ cs.toList cs'.toList := by
 cases h with
 | flat h => simp [Ai.flat] at h
 | tuple h1 h2 => exact ⟨_, rfl, h1, h2⟩
theorem VRel.inv_iface {ρ : RM} {t : TypeId} {v x : Value} (h : VRel ρ (.iface t x) v) : ∃ y, v = .iface t y ∧ VRel ρ x y := by
 cases h with
 | flat h => simp [Ai.flat] at h
 | iface h => exact ⟨_, rfl, h⟩
theorem VRel.inv_func {ρ : RM} {f : FuncId} {first cap : Array Value} {v : Value} (h : VRel ρ (.func (.func f) first cap) v) :
  first = #[] ∧ ∃ cap' : Array Value, v = .func (.func f) #[] cap' ∧ LRel ρ cap.toList cap'.toList := by
 cases h with
 | flat h _ =>
  simp [Ai.flat] at h
  obtain ⟨h1, h2⟩ := h
  subst h1 h2
  exact ⟨rfl, _, rfl, LRel.nil ρ⟩
 | func h1 h2 => exact ⟨rfl, _, rfl, h1, h2⟩
theorem VRel.inv_yld {ρ : RM} {k : Nat} {first cap : Array Value} {v : Value} (h : VRel ρ (.func (.yield k) first cap) v) : first = #[] ∧ cap = #[] ∧ ∃ l : Loc, ρ k = some l ∧ v = .func (.yield l.b) #[] #[] := by
 cases h with
 | flat h _ => simp [Ai.flat] at h
 | yld h => exact ⟨rfl, rfl, _, h, rfl⟩
theorem VRel.undef_ (ρ : RM) : VRel ρ undef undef := .tuple' (xs := []) (ys := []) (LRel.nil ρ)
theorem VRel.flat' {ρ : RM} {v v' : Value} (h : VRel ρ v v') (hf : Ai.flat v = true) (ρ' : RM) : VRel ρ' v v' := by
 cases h with
 | flat a b => exact .flat a b
 | empty a => exact .empty a
 | ptr _ => simp [Ai.flat] at hf
 | slice _ _ _ _ _ => simp [Ai.flat] at hf
 | map _ => simp [Ai.flat] at hf
 | @func f xs ys h1 h2 =>
  simp [Ai.flat] at hf
  subst hf
  have : ys = [] := by simpa using h1.symm
  subst this
  exact .func rfl fun i a b h => by simp at h
 | yld _ => simp [Ai.flat] at hf
 | iface _ => simp [Ai.flat] at hf
 | agg _ _ => simp [Ai.flat] at hf
 | tuple _ _ => simp [Ai.flat] at hf
theorem LRel.all {ρ : RM} {xs ys : List Value} (h : LRel ρ xs ys) {p : Value → Bool} (hp : xs.all p = true) (ρ' : RM) (hq : ∀ a b, p a = true → VRel ρ a b → VRel ρ' a b) : LRel ρ' xs ys :=
 ⟨h.1, fun i a b ha hb => hq a b (List.all_eq_true.1 hp a (List.mem_of_getElem? ha)) (h.2 i a b ha hb)⟩
theorem VRel.flat1' {ρ : RM} {v v' : Value} (h : VRel ρ v v') (hf : flat1 v = true) (ρ' : RM) : VRel ρ' v v' := by
 cases v with
 | agg cs =>
  obtain ⟨cs', rfl, hl⟩ := h.inv_agg
  have := LRel.all hl (p := Ai.flat) (by simpa [flat1] using hf) ρ' (fun a b ha hab => hab.flat' ha ρ')
  exact VRel.agg' this
 | _ => exact h.flat' (by simpa [flat1] using hf) ρ'
theorem VRel.scalar' {ρ : RM} {v v' : Value} (h : VRel ρ v v') (hf : scalar v = true) (ρ' : RM) : VRel ρ' v v' := by
 cases v with
 | tuple cs =>
  obtain ⟨cs', rfl, hl⟩ := h.inv_tuple
  have := LRel.all hl (p := flat1) (by simpa [scalar] using hf) ρ' (fun a b ha hab => hab.flat1' ha ρ')
  exact VRel.tuple' this
 | iface t x =>
  obtain ⟨y, rfl, hy⟩ := h.inv_iface
  exact .iface (hy.flat1' (by simpa [scalar] using hf) ρ')
 | _ => exact h.flat1' (by simpa [scalar] using hf) ρ'
theorem VRel.same {ρ : RM} {v v' : Value} (h : VRel ρ v v') (hf : Ai.flat v = true) (he : isE v = false) : v' = v := by
 cases h with
 | flat a b => rfl
 | empty a => simp [emptyS, isE] at he
 | ptr _ => simp [Ai.flat] at hf
 | slice _ _ _ _ _ => simp [Ai.flat] at hf
 | map _ => simp [Ai.flat] at hf
 | @func f xs ys h1 h2 =>
  simp [Ai.flat] at hf
  subst hf
  have : ys = [] := by simpa using h1.symm
  rw [this]
 | yld _ => simp [Ai.flat] at hf
 | iface _ => simp [Ai.flat] at hf
 | agg _ _ => simp [Ai.flat] at hf
 | tuple _ _ => simp [Ai.flat] at hf
def CellsRel (ρ : RM) (c : List Value) (cs : Array Value) (sh : Nat) : Prop := ∀ (i : Nat) v, c[i]? = some v → ∃ v', cs[sh + i]? = some v' ∧ VRel ρ v v'
def EntRel (ρ : RM) (e e' : MapEntry) : Prop := e'.key = e.key ∧ VRel ρ e.val e'.val ∧ e'.born = e.born
def CRel (ρ : RM) (w : World) (l : Loc) : O → Prop
 | .cells c e own => ∃ cs e' fz, w.heap[l.b]? = some (.cells cs e' fz) ∧ CellsRel ρ c cs l.sh ∧ (∀ s, own = some s → e' = e ∧ fz = (0, 0) ∧ l.es = s ∧ (0 < s → cs.size = l.sz)) ∧ (own = none → l.es = 0)
 | .map es clock => ∃ es' : Array MapEntry, w.heap[l.b]? = some (.map es' clock) ∧ es.length = es'.size ∧
   (∀ (i : Nat) a b, es[i]? = some a → es'[i]? = some b → EntRel ρ a b) ∧ ∀ e ∈ es, e.born < clock
 | .iter m since seen stepped => l.sh = 0 ∧ ∃ m', w.heap[l.b]? = some (.mapIter m' since seen.toArray stepped) ∧
   (match m with | none => m' = none | some id => ∃ k : Loc, ρ id = some k ∧ m' = some k.b)
 | .loop busy nt fr ps as bd => ∃ r : Loop, w.heap[l.b]? = some (.loop r) ∧ r.state = (if busy then .busy else .ready) ∧ r.pending = none ∧ r.params.toList = ps ∧ r.assign = as ∧ r.body = bd ∧ nt ≤ r.tmps.size ∧
   (∀ p ∈ ps, p < nt) ∧ ∀ i, VRel ρ (fr.getD i undef) (r.tmps.getD i undef)
 | .dead => True
theorem CellsRel.mono {ρ ρ' : RM} (hρ : ρ.le ρ') {c : List Value} {cs : Array Value} {sh : Nat} (h : CellsRel ρ c cs sh) : CellsRel ρ' c cs sh :=
 fun i v hi => let ⟨v', h1, h2⟩ := h i v hi; ⟨v', h1, h2.mono hρ⟩
theorem CRel.mono {ρ ρ' : RM} (hρ : ρ.le ρ') {w : World} {l : Loc} {o : O} (h : CRel ρ w l o) : CRel ρ' w l o := by
 cases o with
 | cells c e own => obtain ⟨cs, e', fz, h1, h2, h3⟩ := h; exact ⟨cs, e', fz, h1, h2.mono hρ, h3⟩
 | map es clock =>
  obtain ⟨es', h1, h3, h4, h5⟩ := h
  exact ⟨es', h1, h3, fun i a b ha hb => let ⟨x, y, z⟩ := h4 i a b ha hb; ⟨x, y.mono hρ, z⟩, h5⟩
 | iter m since seen stepped =>
  obtain ⟨h0, m', h1, h3⟩ := h
  refine ⟨h0, m', h1, ?_⟩
  cases m with
  | none => exact h3
  | some id => obtain ⟨b, h4, h5⟩ := h3; exact ⟨b, hρ _ _ h4, h5⟩
 | loop busy nt fr ps as bd =>
  obtain ⟨r, h1, h2, h3, h4, h5, h6, h7, h8, h9⟩ := h
  exact ⟨r, h1, h2, h3, h4, h5, h6, h7, h8, fun i => (h9 i).mono hρ⟩
 | dead => trivial
theorem CRel.same {ρ : RM} {w w' : World} {l : Loc} {o : O} (h : CRel ρ w l o) (hb : w'.heap[l.b]? = w.heap[l.b]?) : CRel ρ w' l o := by
 cases o with
 | cells c e ro => obtain ⟨cs, e', fz, h1, h2, h3⟩ := h; exact ⟨cs, e', fz, hb.trans h1, h2, h3⟩
 | map es clock => obtain ⟨es', h1, h2⟩ := h; exact ⟨es', hb.trans h1, h2⟩
 | iter m since seen stepped => obtain ⟨h0, m', h1, h2⟩ := h; exact ⟨h0, m', hb.trans h1, h2⟩
 | loop busy nt fr ps as bd => obtain ⟨r, h1, h2⟩ := h; exact ⟨r, hb.trans h1, h2⟩
 | dead => trivial
def O.live : O → Bool
 | .dead => false
 | _ => true
def O.own : O → Bool
 | .cells _ _ (some _) | .map _ _ | .iter _ _ _ _ | .loop _ _ _ _ _ _ => true
 | _ => false
theorem CRel.lt {ρ : RM} {w : World} {l : Loc} {o : O} (h : CRel ρ w l o) (hl : o.live = true) : l.b < w.heap.size := by
 have key : ∀ x, w.heap[l.b]? = some x → l.b < w.heap.size := fun x hx => (Array.getElem?_eq_some_iff.1 hx).1
 cases o with
 | cells c e ro => obtain ⟨cs, e', fz, h1, _⟩ := h; exact key _ h1
 | map es clock => obtain ⟨es', h1, _⟩ := h; exact key _ h1
 | iter m since seen stepped => obtain ⟨_, m', h1, _⟩ := h; exact key _ h1
 | loop busy nt fr ps as bd => obtain ⟨r, h1, _⟩ := h; exact key _ h1
 | dead => simp [O.live] at hl
end Go.Ai
namespace Go.Ai
open Go.RowKit
variable {P : Program} {ρ : RM} {w : World}
theorem flat_int (k : IntKind) (n : Int) : VRel ρ (.int k n) (.int k n) := .flat rfl rfl
theorem flat_bool (b : Bool) : VRel ρ (.bool b) (.bool b) := .flat rfl rfl
theorem binV_ok {op : BinOp} {t : TypeId} {X Y : Operand} {x y z x' y' : Value} (h : binV op x y = some z) (hx : VRel ρ x x') (hy : VRel ρ y y') :
  ∃ v, (do eqGuard op t X Y x' y'; binOp op t x' y' : Sem Value).run P w = .ok v w ∧ VRel ρ z v := by
 unfold binV at h
 split at h
 ·rename_i k a yk b
  obtain rfl := hx.int
  obtain rfl := hy.int
  have hg : (eqGuard op t X Y (.int k a) (.int yk b)).run P w = .ok () w := by cases op <;> rfl
  split at h
  ·split at h
   ·cases h
   ·rename_i hb
    obtain rfl := Option.some.inj h
    refine ⟨_, ?_, flat_int _ _⟩
    simp [hg, binOp, Op.shift, hb, Sem.run_bind, Result.andThen]
  ·split at h
   ·cases h
   ·rename_i hb
    obtain rfl := Option.some.inj h
    refine ⟨_, ?_, flat_int _ _⟩
    simp [hg, binOp, Op.shift, hb, Sem.run_bind, Result.andThen]
  ·rename_i h1 h2
   split at h
   ·rename_i hk
    subst hk
    unfold intBin at h
    refine ⟨z, ?_, ?_⟩
    ·cases op <;> first
      | (obtain rfl := Option.some.inj h; simp [hg, binOp, Op.intArith, Op.intBits, Op.intCmp, Sem.run_bind, Result.andThen]; done)
      | (simp only [] at h; split at h <;> first | (cases h; done) | (rename_i hb; obtain rfl := Option.some.inj h; simp [hg, binOp, Op.intDiv, hb, Sem.run_bind, Result.andThen]))
      | (cases h)
      | (exact absurd rfl h1)
      | (exact absurd rfl h2)
    ·cases op <;> first
      | (obtain rfl := Option.some.inj h; exact .flat rfl rfl)
      | (simp only [] at h; split at h <;> first | (cases h; done) | (obtain rfl := Option.some.inj h; exact .flat rfl rfl))
      | (cases h)
   ·cases h
 ·rename_i a b
  obtain rfl := hx.string
  obtain rfl := hy.string
  have hg : (eqGuard op t X Y (.string a) (.string b)).run P w = .ok () w := by cases op <;> rfl
  split at h
  ·obtain rfl := Option.some.inj h
   exact ⟨_, by simp [hg, binOp, Op.stringOp, Sem.run_bind, Result.andThen], .flat rfl rfl⟩
  ·obtain rfl := Option.some.inj h
   exact ⟨_, by simp [hg, binOp, Op.stringOp, Sem.run_bind, Result.andThen], .flat rfl rfl⟩
  ·split at h
   ·rename_i hsz
    obtain rfl := Option.some.inj h
    have hsz' : ((a.size : Nat) : Int) + b.size ≤ 9223372036854775807 := by omega
    exact ⟨_, by simp [hg, binOp, Op.stringOp, Sem.run_bind, Result.andThen, hsz'], .flat rfl rfl⟩
   ·cases h
  ·cases h
 ·cases h
theorem binBV_ok {op : BinOp} {t : TypeId} {X Y : Operand} {x y z x' y' : Value} (ht : P.underlying t = some .bool) (h : binBV op x y = some z) (hx : VRel ρ x x') (hy : VRel ρ y y') :
  ∃ v, (do eqGuard op t X Y x' y'; binOp op t x' y' : Sem Value).run P w = .ok v w ∧ VRel ρ z v := by
 unfold binBV at h
 split at h
 ·rename_i a b
  obtain rfl := hx.bool
  obtain rfl := hy.bool
  have hg : (eqGuard .eql t X Y (.bool a) (.bool b)).run P w = .ok () w := rfl
  obtain rfl := Option.some.inj h
  exact ⟨_, by simp [hg, Sem.run_bind, Result.andThen, run_eql_bool w t a b ht], .flat rfl rfl⟩
 ·rename_i a b
  obtain rfl := hx.bool
  obtain rfl := hy.bool
  have hg : (eqGuard .neq t X Y (.bool a) (.bool b)).run P w = .ok () w := rfl
  obtain rfl := Option.some.inj h
  exact ⟨_, by simp [hg, Sem.run_bind, Result.andThen, run_neq_bool w t a b ht], .flat rfl rfl⟩
 ·cases h
theorem unV_ok {op : UnOp} {x z x' : Value} (h : unV op x = some z) (hx : VRel ρ x x') : ∃ v, (Op.unary op x').run P w = .ok v w ∧ VRel ρ z v := by
 unfold unV at h
 split at h
 ·obtain rfl := hx.int
  obtain rfl := Option.some.inj h
  exact ⟨_, by simp [Op.unary, Op.intArith], .flat rfl rfl⟩
 ·obtain rfl := hx.bool
  obtain rfl := Option.some.inj h
  exact ⟨_, by simp [Op.unary], .flat rfl rfl⟩
 ·cases h
theorem conv_ok {src dst : TypeId} {ks k kv : IntKind} {n : Int} {x' : Value} (hs : P.underlying src = some (.int ks)) (hd : P.underlying dst = some (.int k)) (hx : VRel ρ (.int kv n) x') :
  (convert src dst x').run P w = .ok (.int k (k.wrap n)) w := by
 obtain rfl := hx.int
 simp [convert, run_underlying hs, run_underlying hd, Sem.run_bind, Result.andThen, Conv.intToInt]
theorem equal_of_in {t : TypeId} {x y : Value} {b : Bool} (h : ∀ d, (Op.equalIn (d + 1) t x y).run P w = .ok b w) : (Op.equal t x y).run P w = .ok b w := h 9999
def isAggD : TypeDesc → Bool
 | .struct _ | .array _ _ => true
 | _ => false
theorem run_isAgg {t : TypeId} {d : TypeDesc} (h : P.underlying t = some d) : (isAgg t).run P w = .ok (isAggD d) w := by
 simp only [isAgg, Sem.run_bind, run_underlying h, Result.andThen]
 cases d <;> rfl
theorem eqNil_ok {neg : Bool} {t : TypeId} {X Y : Operand} {x x' : Value} {b : Bool} {k : Nat} (hk : nilK P t Y = some k) (h : isNil k x = some b) (hx : VRel ρ x x') (e' : Operand → Value) (he : ∀ v, e' (.const v) = v) :
  (do eqGuard (if neg then .neq else .eql) t X Y x' (e' Y); binOp (if neg then .neq else .eql) t x' (e' Y) : Sem Value).run P w = .ok (.bool (neg != b)) w := by
 have key : ∀ (y : Value), Y = .const y → (Op.equal t x' y).run P w = .ok b w → (∀ z, x' ≠ .agg z) → (∀ q n, x' ≠ .int q n) → (∀ q n, x' ≠ .float q n) → (∀ q n m, x' ≠ .complex q n m) → (∀ s, x' ≠ .string s) →
   (do eqGuard (if neg then .neq else .eql) t X Y x' (e' Y); binOp (if neg then .neq else .eql) t x' (e' Y) : Sem Value).run P w = .ok (.bool (neg != b)) w := by
  intro y hy hr h1 h2 h3 h4 h5
  subst hy
  rw [he]
  have hg : (eqGuard (if neg then .neq else .eql) t X (.const y) x' y).run P w = .ok () w := by
   unfold eqGuard
   cases neg <;> simp <;> (cases x' <;> simp_all) <;> (cases y <;> simp_all)
  rw [Sem.run_bind, hg]
  simp only [Result.andThen]
  cases neg
  ·cases x' <;> simp_all [binOp, Result.andThen] 
  ·cases x' <;> simp_all [binOp, Result.andThen] 
 unfold nilK at hk
 split at hk
 ·rename_i el hu
  obtain rfl := Option.some.inj hk
  have : ∃ a, x' = .pointer a ∧ b = a.isNone := by
   cases x <;> simp [isNil] at h
   rename_i a
   subst h
   cases a with
   | none => cases hx; exact ⟨_, rfl, rfl⟩
   | some a => cases hx with
    | flat h => simp [Ai.flat] at h
    | ptr h => exact ⟨_, rfl, rfl⟩
  obtain ⟨a, rfl, rfl⟩ := this
  refine key _ rfl ?_ (by simp) (by simp) (by simp) (by simp) (by simp)
  refine equal_of_in fun d => ?_
  cases a <;> simp [Op.equalIn, run_underlying hu, Sem.run_bind, Result.andThen]
 ·rename_i el hu
  obtain rfl := Option.some.inj hk
  have : ∃ a n c, x' = .slice a n c ∧ b = a.isNone := by
   cases x <;> simp [isNil] at h
   rename_i a n c
   subst h
   cases a with
   | none => cases hx; exact ⟨_, _, _, rfl, rfl⟩
   | some a => cases hx with
    | flat h1 h2 =>
     obtain ⟨b, o, sp⟩ := a
     cases sp with
     | none => simp [Ai.flat] at h1
     | some s => simp [isE] at h2
    | empty a => exact ⟨_, _, _, rfl, rfl⟩
    | slice _ _ _ _ _ => exact ⟨_, _, _, rfl, rfl⟩
  obtain ⟨a, n, c, rfl, rfl⟩ := this
  refine key _ rfl ?_ (by simp) (by simp) (by simp) (by simp) (by simp)
  refine equal_of_in fun d => ?_
  cases a <;> simp [Op.equalIn, run_underlying hu, Sem.run_bind, Result.andThen]
 ·rename_i el hu
  obtain rfl := Option.some.inj hk
  have : ∃ a, x' = .map a ∧ b = a.isNone := by
   cases x <;> simp [isNil] at h
   rename_i a
   subst h
   cases a with
   | none => cases hx; exact ⟨_, rfl, rfl⟩
   | some a => cases hx with
    | flat h => simp [Ai.flat] at h
    | map h => exact ⟨_, rfl, rfl⟩
  obtain ⟨a, rfl, rfl⟩ := this
  refine key _ rfl ?_ (by simp) (by simp) (by simp) (by simp) (by simp)
  refine equal_of_in fun d => ?_
  cases a <;> simp [Op.equalIn, run_underlying hu, Sem.run_bind, Result.andThen]
 ·rename_i hu
  obtain rfl := Option.some.inj hk
  have : (x' = .nilFunc ∧ b = true) ∨ (∃ f cap, x' = .func (.func f) #[] cap ∧ b = false) := by
   cases x with
   | nilFunc => simp [isNil] at h; exact .inl ⟨hx.nilFunc, h⟩
   | func fn first cap =>
    cases fn <;> simp [isNil] at h
    obtain ⟨rfl, cap', rfl, _⟩ := hx.inv_func
    exact .inr ⟨_, _, rfl, h⟩
   | _ => simp [isNil] at h
  rcases this with ⟨rfl, rfl⟩ | ⟨f, cap, rfl, rfl⟩
  all_goals
   refine key _ rfl ?_ (by simp) (by simp) (by simp) (by simp) (by simp)
   refine equal_of_in fun d => ?_
   simp [Op.equalIn, run_underlying hu, Sem.run_bind, Result.andThen]
 ·rename_i ms hu
  obtain rfl := Option.some.inj hk
  have : (x' = .nilIface ∧ b = true) ∨ (∃ u y, x' = .iface u y ∧ b = false) := by
   cases x with
   | nilIface => simp [isNil] at h; exact .inl ⟨hx.nilIface, h⟩
   | iface u y =>
    simp [isNil] at h
    obtain ⟨y', rfl, _⟩ := hx.inv_iface
    exact .inr ⟨_, _, rfl, h⟩
   | _ => simp [isNil] at h
  rcases this with ⟨rfl, rfl⟩ | ⟨u, y, rfl, rfl⟩
  all_goals
   refine key _ rfl ?_ (by simp) (by simp) (by simp) (by simp) (by simp)
   refine equal_of_in fun d => ?_
   simp [Op.equalIn, run_underlying hu, Sem.run_bind, Result.andThen]
 ·cases hk
theorem eqCells_append {a b c d : List Value} (h : a.length = c.length) : eqCells (a ++ b) (c ++ d) = (eqCells a c && eqCells b d) := by
 induction a generalizing c with
 | nil => cases c with
  | nil => simp [eqCells]
  | cons x c => simp at h
 | cons x a ih => cases c with
  | nil => simp at h
  | cons y c => simp only [List.cons_append, eqCells, ih (by simpa using h), Bool.and_assoc]
theorem fitsAll_length {sh : List (Option IntKind)} {l : List Value} (h : fitsAll sh l = true) : l.length = sh.length := by
 induction sh generalizing l with
 | nil => cases l <;> simp_all [fitsAll]
 | cons s sh ih => cases l with
  | nil => simp [fitsAll] at h
  | cons x l => simp [fitsAll] at h; simp [ih h.2]
theorem fitsAll_append {s t : List (Option IntKind)} {l : List Value} (h : fitsAll (s ++ t) l = true) : fitsAll s (l.take s.length) = true ∧ fitsAll t (l.drop s.length) = true := by
 induction s generalizing l with
 | nil => simpa [fitsAll] using h
 | cons a s ih => cases l with
  | nil => simp [fitsAll] at h
  | cons x l =>
   simp [fitsAll] at h
   have := ih h.2
   simp [fitsAll, h.1, this]
def Fit (d : TypeDesc) (sh : List (Option IntKind)) (v : Value) : Prop :=
 if isAggD d then ∃ cs, v = .agg cs ∧ fitsAll sh cs.toList = true else fitsAll sh [v] = true
def cellsV (v : Value) : List Value := v.cells.toList
theorem eqCells_split {m : Nat} {xs ys : List Value} (h : xs.length = ys.length) : eqCells xs ys = (eqCells (xs.take m) (ys.take m) && eqCells (xs.drop m) (ys.drop m)) := by
 conv => lhs; rw [← List.take_append_drop m xs, ← List.take_append_drop m ys]
 exact eqCells_append (by simp [h])
theorem info_of_size {t : TypeId} {n : Nat} (hs : sizeC P t = some n) : ∃ i, P.info? t = some i ∧ i.size = n := by
 unfold sizeC at hs
 cases h : P.info? t with
 | none => simp [h] at hs
 | some i => exact ⟨i, rfl, by simpa [h] using hs⟩
theorem run_size {t : TypeId} {n : Nat} (hs : sizeC P t = some n) : (sizeOf t).run P w = .ok n w := by
 obtain ⟨i, hi, rfl⟩ := info_of_size hs
 simp [sizeOf, typeInfo, hi]
theorem one_of_length {l : List Value} (h : l.length = 1) : ∃ v, l = [v] := by
 match l, h with
 | [v], _ => exact ⟨v, rfl⟩
theorem run_part_agg {t : TypeId} {d : TypeDesc} {n : Nat} {xs : Array Value} {off : Nat} (hd : P.underlying t = some d) (ha : isAggD d = true) (hs : sizeC P t = some n) :
  (part t xs off).run P w = .ok (.agg ((xs.toList.drop off).take n).toArray) w := by
 simp only [part, Sem.run_bind, run_isAgg hd, Result.andThen, ha, if_true, run_size hs, Sem.run_pure]
 congr 2
 apply Array.toList_inj.1
 simp [List.extract_eq_take_drop]
theorem run_part_one {t : TypeId} {d : TypeDesc} {xs : Array Value} {off : Nat} {v : Value} (hd : P.underlying t = some d) (ha : isAggD d = false) (h : xs.toList[off]? = some v) :
  (part t xs off).run P w = .ok v w := by
 have h' : xs[off]? = some v := by simpa using h
 simp [part, Sem.run_bind, run_isAgg hd, Result.andThen, ha, h']
theorem run_part_fit {t : TypeId} {d : TypeDesc} {m : List (Option IntKind)} {xs : Array Value} {off : Nat} (hs : sizeC P t = some m.length) (hd : P.underlying t = some d) (hk : isAggD d = false → m.length = 1)
  (hf : fitsAll m ((xs.toList.drop off).take m.length) = true) :
  ∃ v, (part t xs off).run P w = .ok v w ∧ Fit d m v ∧ cellsV v = (xs.toList.drop off).take m.length := by
 have hl := fitsAll_length hf
 cases ha : isAggD d with
 | true => exact ⟨_, run_part_agg hd ha hs, by simp only [Fit, ha, if_true]; exact ⟨_, rfl, hf⟩, by simp [cellsV, Value.cells]⟩
 | false =>
  have h1 := hk ha
  obtain ⟨v, hv⟩ := one_of_length (l := (xs.toList.drop off).take m.length) (hl.trans h1)
  have h3 : xs.toList[off]? = some v := by simpa using getElem?_of_chunk hv
  rw [hv] at hf
  refine ⟨v, run_part_one hd ha h3, by simp only [Fit, ha]; exact hf, ?_⟩
  rw [hv]
  cases m with
  | nil => simp at h1
  | cons a m =>
   unfold cellsV
   cases v <;> simp [Value.cells]
   cases a <;> simp [fitsAll, fits] at hf
theorem shapeC_plain {d : Nat} {t : TypeId} {D : TypeDesc} {m : List (Option IntKind)} (h : shapeC P d t = some m) (hD : P.underlying t = some D) (ha : isAggD D = false) : m.length = 1 := by
 cases d with
 | zero => simp [shapeC] at h
 | succ d => cases D <;> simp [shapeC, hD, isAggD] at h ha <;> simp [← h]
theorem run_equal_shape (d : Nat) : ∀ (t : TypeId) (D : TypeDesc) (sh : List (Option IntKind)) (n : Nat) (x y : Value), P.underlying t = some D → shapeC P d t = some sh → d ≤ n → Fit D sh x → Fit D sh y →
  (Op.equalIn n t x y).run P w = .ok (eqCells (cellsV x) (cellsV y)) w := by
 induction d with
 | zero => intro t D sh n x y _ h; simp [shapeC] at h
 | succ d ih =>
  intro t D sh n x y hD h hn hx hy
  obtain ⟨n, rfl⟩ : ∃ k, n = k + 1 := ⟨n - 1, by omega⟩
  cases D <;> simp only [shapeC, hD] at h
  all_goals first | (cases h; done) | skip
  case bool =>
   obtain rfl := Option.some.inj h
   simp only [Fit, isAggD] at hx hy
   cases x <;> simp [fitsAll, fits] at hx
   cases y <;> simp [fitsAll, fits] at hy
   rw [run_equalIn_bool w n t _ _ hD]
   simp [cellsV, Value.cells, eqCells, eqCell]
  case int k =>
   obtain rfl := Option.some.inj h
   simp only [Fit, isAggD] at hx hy
   cases x <;> simp [fitsAll, fits] at hx
   cases y <;> simp [fitsAll, fits] at hy
   subst hx; subst hy
   rw [run_equalIn_int w n t _ _ _ _ hD]
   simp [cellsV, Value.cells, eqCells, eqCell]
  case array m e =>
   split at h
   ·rename_i me hme
    split at h
    ·rename_i hsz
     obtain rfl := Option.some.inj h
     simp only [Fit, isAggD, if_true] at hx hy
     obtain ⟨xs, rfl, hx⟩ := hx
     obtain ⟨ys, rfl, hy⟩ := hy
     have hsz' : sizeC P e = some me.length := by simpa using hsz
     obtain ⟨i, hi, his⟩ := info_of_size hsz'
     obtain ⟨De, hDe⟩ : ∃ De, P.underlying e = some De := by
      cases d with
      | zero => simp [shapeC] at hme
      | succ d => cases hu : P.underlying e with
       | none => simp [shapeC, hu] at hme
       | some De => exact ⟨De, rfl⟩
     rw [run_equalIn_array w n xs ys hD hi]
     have hc : P.cellsOf e = me.length := by simp [Program.cellsOf, hi, his]
     rw [hc, List.range_eq_range']
     suffices H : ∀ (k s : Nat) (xs ys : Array Value), fitsAll ((List.replicate k me).flatten) (xs.toList.drop (s * me.length)) = true → fitsAll ((List.replicate k me).flatten) (ys.toList.drop (s * me.length)) = true →
       (Op.eqItems n e me.length xs ys (List.range' s k)).run P w = .ok (eqCells (xs.toList.drop (s * me.length)) (ys.toList.drop (s * me.length))) w by
      have := H m 0 xs ys (by simpa using hx) (by simpa using hy)
      simpa [cellsV, Value.cells] using this
     intro k
     induction k with
     | zero =>
      intro s xs ys hx hy
      have e1 := fitsAll_length hx
      have e2 := fitsAll_length hy
      simp only [List.replicate_zero, List.flatten_nil, List.length_nil, List.length_eq_zero_iff] at e1 e2
      simp [Op.eqItems, e1, e2, eqCells]
     | succ k ihk =>
      intro s xs ys hx hy
      have lx := fitsAll_length hx
      have ly := fitsAll_length hy
      simp only [List.replicate_succ, List.flatten_cons] at hx hy
      obtain ⟨hx1, hx2⟩ := fitsAll_append hx
      obtain ⟨hy1, hy2⟩ := fitsAll_append hy
      rw [List.drop_drop] at hx2 hy2
      have es : s * me.length + me.length = (s + 1) * me.length := by rw [Nat.succ_mul]
      rw [es] at hx2 hy2
      obtain ⟨a, ha1, ha2, ha3⟩ := run_part_fit (w := w) hsz' hDe (shapeC_plain hme hDe) hx1
      obtain ⟨b, hb1, hb2, hb3⟩ := run_part_fit (w := w) hsz' hDe (shapeC_plain hme hDe) hy1
      have hr := ih e De me n a b hDe hme (by omega) ha2 hb2
      have hk := ihk (s + 1) xs ys hx2 hy2
      rw [List.range'_succ]
      simp only [Op.eqItems, Sem.run_bind, ha1, hb1, hr, Result.andThen_ok, Sem.run_ite]
      rw [eqCells_split (m := me.length) (lx.trans ly.symm), List.drop_drop, List.drop_drop, es, ← ha3, ← hb3]
      cases he : eqCells (cellsV a) (cellsV b) <;> simp [hk]
    ·cases h
   ·cases h
  case struct fs =>
   split at h
   ·cases h
   ·rename_i hst
    simp only [Fit, isAggD, if_true] at hx hy
    obtain ⟨xs, rfl, hx⟩ := hx
    obtain ⟨ys, rfl, hy⟩ := hy
    have hfo : P.fieldsOf t = fs := by simp [Program.fieldsOf, hD]
    rw [run_equalIn_struct w n t xs ys (by rw [hfo]; exact hD) (by simpa using hst), hfo]
    suffices H : ∀ (l : List Field) (off : Nat) (sh : List (Option IntKind)), shapeFs P (shapeC P d) off l = some sh → fitsAll sh (xs.toList.drop off) = true → fitsAll sh (ys.toList.drop off) = true →
      (Op.eqFields n xs ys l).run P w = .ok (eqCells (xs.toList.drop off) (ys.toList.drop off)) w by
     have := H fs.toList 0 sh h (by simpa using hx) (by simpa using hy)
     simpa [cellsV, Value.cells] using this
    intro l
    induction l with
    | nil =>
     intro off sh h hx hy
     obtain rfl := Option.some.inj h
     have e1 := fitsAll_length hx
     have e2 := fitsAll_length hy
     simp only [List.length_nil, List.length_eq_zero_iff] at e1 e2
     simp [Op.eqFields, e1, e2, eqCells]
    | cons f l ihl =>
     intro off sh h hx hy
     simp only [shapeFs] at h
     split at h
     ·rename_i mf hmf
      split at h
      ·rename_i hc
       simp only [Bool.and_eq_true, bne_iff_ne, ne_eq, beq_iff_eq] at hc
       obtain ⟨⟨hn1, hoff⟩, hsz'⟩ := hc
       cases hrest : shapeFs P (shapeC P d) (off + mf.length) l with
       | none => simp [hrest] at h
       | some rest =>
        simp only [hrest, Option.map_some, Option.some.injEq] at h
        subst h
        have lx := fitsAll_length hx
        have ly := fitsAll_length hy
        obtain ⟨hx1, hx2⟩ := fitsAll_append hx
        obtain ⟨hy1, hy2⟩ := fitsAll_append hy
        rw [List.drop_drop] at hx2 hy2
        obtain ⟨De, hDe⟩ : ∃ De, P.underlying f.type = some De := by
         cases d with
         | zero => simp [shapeC] at hmf
         | succ d => cases hu : P.underlying f.type with
          | none => simp [shapeC, hu] at hmf
          | some De => exact ⟨De, rfl⟩
        obtain ⟨a, ha1, ha2, ha3⟩ := run_part_fit (w := w) hsz' hDe (shapeC_plain hmf hDe) hx1
        obtain ⟨b, hb1, hb2, hb3⟩ := run_part_fit (w := w) hsz' hDe (shapeC_plain hmf hDe) hy1
        have hr := ih f.type De mf n a b hDe hmf (by omega) ha2 hb2
        have hk := ihl (off + mf.length) rest hrest hx2 hy2
        simp only [Op.eqFields, hn1, ne_eq, not_false_eq_true, if_true, hoff, Sem.run_bind, ha1, hb1, hr, Result.andThen_ok, Sem.run_ite]
        rw [eqCells_split (m := mf.length) (lx.trans ly.symm), List.drop_drop, List.drop_drop, ← ha3, ← hb3]
        cases he : eqCells (cellsV a) (cellsV b) <;> simp [hk]
      ·cases h
     ·cases h
end Go.Ai
namespace Go.Ai
open Go.RowKit
variable {P : Program} {ρ : RM} {w : World}
theorem add_none (b i k : Nat) : (⟨b, i, none⟩ : Addr).add k = ⟨b, i + k, none⟩ := by
 unfold Addr.add
 split <;> simp_all
theorem cell_at {b i : Nat} {cs : Array Value} {e : TypeId} {fz : Nat × Nat} (h : w.heap[b]? = some (.cells cs e fz)) : w.cell? ⟨b, i, none⟩ = cs[i]? := by
 simp [World.cell?, h]
theorem CellsRel.part {c : List Value} {cs : Array Value} {sh i n : Nat} (h : CellsRel ρ c cs sh) (hi : i + n ≤ c.length) :
  ∃ l' : List Value, LRel ρ ((c.drop i).take n) l' ∧ l'.length = n ∧ ∀ j v, l'[j]? = some v → cs[sh + i + j]? = some v := by
 refine ⟨(cs.toList.drop (sh + i)).take n, ⟨?_, ?_⟩, ?_, ?_⟩
 ·have : sh + i + n ≤ cs.size ∨ n = 0 := by
   rcases Nat.eq_zero_or_pos n with h0 | h0
   ·exact .inr h0
   ·left
    obtain ⟨v', hv, _⟩ := h (i + n - 1) c[i + n - 1] (by simp [List.getElem?_eq_getElem (show i + n - 1 < c.length by omega)])
    have := (Array.getElem?_eq_some_iff.1 hv).1
    omega
  simp
  omega
 ·intro j a b ha hb
  by_cases hj : j < n
  ·rw [List.getElem?_take_of_lt hj, List.getElem?_drop] at ha hb
   obtain ⟨v', hv, hr⟩ := h (i + j) a ha
   have : v' = b := by
    have hb' : cs[sh + i + j]? = some b := by simpa using hb
    rw [show sh + (i + j) = sh + i + j by omega] at hv
    rw [hv] at hb'
    exact Option.some.inj hb'
   exact this ▸ hr
  ·rw [List.getElem?_take, if_neg hj] at ha; cases ha
 ·have : sh + i + n ≤ cs.size ∨ n = 0 := by
   rcases Nat.eq_zero_or_pos n with h0 | h0
   ·exact .inr h0
   ·left
    obtain ⟨v', hv, _⟩ := h (i + n - 1) c[i + n - 1] (by simp [List.getElem?_eq_getElem (show i + n - 1 < c.length by omega)])
    have := (Array.getElem?_eq_some_iff.1 hv).1
    omega
  simp
  omega
 ·intro j v hv
  by_cases hj : j < n
  ·rw [List.getElem?_take_of_lt hj, List.getElem?_drop] at hv
   simpa using hv
  ·rw [List.getElem?_take, if_neg hj] at hv; cases hv
theorem run_loadCells_part {b i n : Nat} {cs : Array Value} {e : TypeId} {fz : Nat × Nat} {l' : List Value} (hb : w.heap[b]? = some (.cells cs e fz)) (hn : l'.length = n)
  (h : ∀ j v, l'[j]? = some v → cs[i + j]? = some v) : (loadCells ⟨b, i, none⟩ n).run P w = .ok l'.toArray w := by
 subst hn
 refine run_loadCells_list w _ l' fun j v hv => ?_
 rw [add_none, cell_at hb]
 exact h j v hv
theorem rdN_ok {h : List O} {b i n : Nat} {l : List Value} {lo : Loc} (hr : rdN h b i n = some l) (hm : ∀ o, h[b]? = some o → CRel ρ w lo o) :
  ∃ l', LRel ρ l l' ∧ l.length = n ∧ (loadCells ⟨lo.b, lo.sh + i, none⟩ n).run P w = .ok l'.toArray w := by
 unfold rdN at hr
 split at hr
 ·rename_i c e own hc
  split at hr
  ·rename_i hi
   obtain rfl := Option.some.inj hr
   obtain ⟨cs, e', fz, h1, h2, h3, h9⟩ := hm _ hc
   obtain ⟨l', hl, hn, hj⟩ := h2.part hi
   exact ⟨l', hl, by simp; omega, run_loadCells_part h1 hn hj⟩
  ·cases hr
 ·cases hr
theorem rdN_ok2 {h : List O} {b i n : Nat} {l : List Value} {lo : Loc} (hr : rdN h b i n = some l) (hm : ∀ o, h[b]? = some o → CRel ρ w lo o) :
  ∃ l', LRel ρ l l' ∧ l.length = n ∧ ∀ w2 : World, w2.heap = w.heap → (loadCells ⟨lo.b, lo.sh + i, none⟩ n).run P w2 = .ok l'.toArray w2 := by
 unfold rdN at hr
 split at hr
 ·rename_i c e own hc
  split at hr
  ·rename_i hi
   obtain rfl := Option.some.inj hr
   obtain ⟨cs, e', fz, h1, h2, h3, h9⟩ := hm _ hc
   obtain ⟨l', hl, hn, hj⟩ := h2.part hi
   exact ⟨l', hl, by simp; omega, fun w2 hw => run_loadCells_part (by rw [hw]; exact h1) hn hj⟩
  ·cases hr
 ·cases hr
theorem rd_ok {h : List O} {b i : Nat} {v : Value} {lo : Loc} (hr : rd h b i = some v) (hm : ∀ o, h[b]? = some o → CRel ρ w lo o) :
  ∃ v', VRel ρ v v' ∧ (load ⟨lo.b, lo.sh + i, none⟩).run P w = .ok v' w := by
 unfold rd at hr
 split at hr
 ·rename_i c e own hc
  obtain ⟨cs, e', fz, h1, h2, h3, h9⟩ := hm _ hc
  obtain ⟨v', h4, h5⟩ := h2 i v hr
  exact ⟨v', h5, by simp [cell_at h1, h4]⟩
 ·cases hr
theorem load_ok {t : TypeId} {h : List O} {n : Option Nat} {b i : Nat} {a' v : Value} {lo : Loc} (ht : aggN P t = some n) (hρ : ρ b = some lo) (hm : ∀ o, h[b]? = some o → CRel ρ w lo o)
  (ha : VRel ρ (.pointer (some ⟨b, i, none⟩)) a') (hv : (match n with | none => rd h b i | some k => (rdN h b i k).map fun l => .agg l.toArray) = some v) :
  ∃ v', (Instr.loadAt t a').run P w = .ok v' w ∧ VRel ρ v v' := by
 obtain ⟨lo', hl, rfl⟩ := ha.inv_ptr
 obtain rfl : lo' = lo := Option.some.inj (hl.symm.trans hρ)
 unfold aggN at ht
 have hs : (Instr.sureAddr (.pointer (some ⟨lo'.b, lo'.sh + i, none⟩))).run P w = .ok ⟨lo'.b, lo'.sh + i, none⟩ w := rfl
 cases hu : P.underlying t with
 | none => simp [hu] at ht
 | some d =>
  cases n with
  | none =>
   have ha : isAggD d = false := by
    cases d <;> simp [hu] at ht <;> first | rfl | (obtain ⟨i, hi, h⟩ := ht; cases h)
   obtain ⟨v', h1, h2⟩ := rd_ok (P := P) hv hm
   exact ⟨v', by simp only [Instr.loadAt, Sem.run_bind, hs, Result.andThen_ok, loadVar, run_isAgg hu, ha, Bool.false_eq_true, if_false]; exact h2, h1⟩
  | some k =>
   have hsz : isAggD d = true ∧ sizeC P t = some k := by
    cases d <;> simp [hu] at ht <;> (obtain ⟨i, hi, h⟩ := ht; subst h; exact ⟨rfl, by simp [sizeC, hi]⟩)
   obtain ⟨ha, hsz⟩ := hsz
   simp only [Option.map_eq_some_iff] at hv
   obtain ⟨l, hl, rfl⟩ := hv
   obtain ⟨l', h1, _, h2⟩ := rdN_ok (P := P) hl hm
   exact ⟨_, by simp only [Instr.loadAt, Sem.run_bind, hs, Result.andThen_ok, loadVar, run_isAgg hu, ha, if_true, run_size hsz, h2, Sem.run_pure], VRel.agg' h1⟩
theorem one1_ok {v v' : Value} (h : VRel ρ v v') (h1 : one1 v = true) : v'.oneCell' = true := by
 cases h <;> first | rfl | (simp [one1] at h1; done) | skip
 rename_i h2 h3
 cases v <;> simp_all [one1, Value.oneCell']
def setA (cs : Array Value) (i : Nat) : List Value → Array Value
 | [] => cs
 | v :: vs => setA (cs.setIfInBounds i v) (i + 1) vs
theorem setA_size (vs : List Value) : ∀ (cs : Array Value) (i : Nat), (setA cs i vs).size = cs.size := by
 induction vs with
 | nil => intro cs i; rfl
 | cons v vs ih => intro cs i; simp [setA, ih]
theorem CellsRel.set {sh : Nat} (vs : List Value) : ∀ (vs' : List Value) (c : List Value) (cs : Array Value) (i : Nat), CellsRel ρ c cs sh → LRel ρ vs vs' → i + vs.length ≤ c.length →
  CellsRel ρ (setL c i vs) (setA cs (sh + i) vs') sh := by
 induction vs with
 | nil =>
  intro vs' c cs i h hl _
  have : vs' = [] := by have := hl.1; simpa using this.symm
  subst this
  exact h
 | cons v vs ih =>
  intro vs' c cs i h hl hi
  obtain ⟨v', vs', rfl, hv, hl'⟩ := hl.uncons
  simp only [List.length_cons] at hi
  refine ih vs' _ _ (i + 1) ?_ hl' (by simp; omega)
  intro j x hx
  obtain ⟨y, hy, _⟩ := h i c[i] (by simp [List.getElem?_eq_getElem (show i < c.length by omega)])
  have hlt : sh + i < cs.size := (Array.getElem?_eq_some_iff.1 hy).1
  by_cases hj : j = i
  ·subst hj
   rw [List.getElem?_set_self (by omega)] at hx
   obtain rfl := Option.some.inj hx
   exact ⟨v', by simp [hlt], hv⟩
  ·rw [List.getElem?_set_ne (by omega)] at hx
   obtain ⟨z, hz, hr⟩ := h j x hx
   exact ⟨z, by rw [Array.getElem?_setIfInBounds_ne (by omega)]; exact hz, hr⟩
theorem CellsRel.size {c : List Value} {cs : Array Value} {sh : Nat} (h : CellsRel ρ c cs sh) : c = [] ∨ sh + c.length ≤ cs.size := by
 cases c with
 | nil => exact .inl rfl
 | cons x c =>
  right
  obtain ⟨v, hv, _⟩ := h c.length ((x :: c)[c.length]) (by simp [List.getElem?_eq_getElem])
  have := (Array.getElem?_eq_some_iff.1 hv).1
  simp
  omega
structure Wrote (w w' : World) (b : Nat) (o : Obj) : Prop where
 os : w'.os = w.os
 tape : w'.tape = w.tape
 output : w'.output = w.output
 size : w'.heap.size = w.heap.size
 at_ : w'.heap[b]? = some o
 other : ∀ k, k ≠ b → w'.heap[k]? = w.heap[k]?
theorem Wrote.trans {w w' w'' : World} {b : Nat} {o o' : Obj} (h : Wrote w w' b o) (k : Wrote w' w'' b o') : Wrote w w'' b o' :=
 ⟨k.os.trans h.os, k.tape.trans h.tape, k.output.trans h.output, k.size.trans h.size, k.at_, fun j hj => (k.other j hj).trans (h.other j hj)⟩
theorem wrote_setCell {b i : Nat} {cs : Array Value} {e : TypeId} {fz : Nat × Nat} (v : Value) (h : w.heap[b]? = some (.cells cs e fz)) :
  Wrote w (w.setCell ⟨b, i, none⟩ v) b (.cells (cs.setIfInBounds i v) e fz) := by
 refine ⟨rfl, rfl, rfl, by simp [World.setCell], ?_, fun k hk => ?_⟩
 ·simp [World.setCell, Array.getElem?_modify, h]
 ·simp only [World.setCell, Array.getElem?_modify]
  rw [if_neg (by omega)]
theorem run_storeCells {b : Nat} {e : TypeId} : ∀ (vs : List Value) (i k : Nat) (cs : Array Value) (w : World), w.heap[b]? = some (.cells cs e (0, 0)) → i + k + vs.length ≤ cs.size → (∀ v ∈ vs, v.oneCell' = true) →
  ∃ w', (storeCells ⟨b, i, none⟩ vs k).run P w = .ok () w' ∧ Wrote w w' b (.cells (setA cs (i + k) vs) e (0, 0))
 | [], i, k, cs, w, h, _, _ => ⟨w, rfl, rfl, rfl, rfl, rfl, h, fun _ _ => rfl⟩
 | v :: vs, i, k, cs, w, h, hl, h1 => by
  simp only [List.length_cons] at hl
  have hW := wrote_setCell (i := i + k) v h
  obtain ⟨w', h2, h3⟩ := run_storeCells vs i (k + 1) (cs.setIfInBounds (i + k) v) (w.setCell ⟨b, i + k, none⟩ v) hW.at_ (by simp; omega) (fun x hx => h1 x (by simp [hx]))
  refine ⟨w', ?_, hW.trans h3⟩
  have hf : w.frozen? ⟨b, i + k, none⟩ = false := by simp [World.frozen?, h]
  have hlt : i + k < cs.size := by omega
  simp only [storeCells, Sem.run_bind, add_none, run_store P w _ v .plain (h1 v (by simp)), cell_at h, hf]
  simp [hlt, h2]
end Go.Ai
namespace Go.Ai
open Go.RowKit
variable {P : Program} {ρ : RM} {w : World}
theorem plain_flat {v : Value} (h : plain v = true) : flat v = true ∧ isE v = false := by
 unfold plain at h
 simp at h
 refine ⟨h.1, ?_⟩
 cases v <;> first | rfl | skip
 rename_i a n c
 cases a with
 | none => rfl
 | some a => simp at h
theorem plain_rel {v : Value} (h : plain v = true) : VRel ρ v v := .flat (plain_flat h).1 (plain_flat h).2
theorem plain_all {l : List Value} (h : l.all plain = true) : LRel ρ l l :=
 ⟨rfl, fun i a b ha hb => by rw [ha] at hb; obtain rfl := Option.some.inj hb; exact plain_rel (List.all_eq_true.1 h a (List.mem_of_getElem? ha))⟩
theorem plain1_rel {v : Value} (h : plain1 v = true) : VRel ρ v v := by
 cases v with
 | agg cs => exact VRel.agg' (plain_all h)
 | _ => exact plain_rel h
theorem cells_rel {v v' : Value} (h : VRel ρ v v') : LRel ρ v.cells.toList v'.cells.toList := by
 cases h with
 | agg h1 h2 => exact ⟨h1, h2⟩
 | flat h1 h2 =>
  cases v <;> first
   | (exact LRel.cons (.flat h1 h2) (LRel.nil ρ))
   | (simp [flat] at h1; done)
 | _ => exact LRel.cons (by constructor <;> assumption) (LRel.nil ρ)
structure Eff (ρ ρ' : RM) (w w' : World) (h h' : List O) (ws : List Nat) : Prop where
 le : ρ.le ρ'
 dom : ∀ id l, ρ' id = some l → ρ id = some l ∨ (h.length ≤ id ∧ id < h'.length)
 os : w'.os = w.os
 tape : w'.tape = w.tape
 output : w'.output = w.output
 size : w.heap.size ≤ w'.heap.size
 keep : ∀ k, k < w.heap.size → (∀ id ∈ ws, ∀ l, ρ id = some l → l.b ≠ k) → w'.heap[k]? = w.heap[k]?
 len : h.length ≤ h'.length
 same : ∀ id, id < h.length → id ∉ ws → h'[id]? = h[id]?
 old : ∀ id ∈ ws, ∀ l o, ρ id = some l → h'[id]? = some o → CRel ρ' w' l o
 new : ∀ id, h.length ≤ id → id < h'.length → ∃ l o, ρ' id = some l ∧ h'[id]? = some o ∧ CRel ρ' w' l o ∧
  (w.heap.size ≤ l.b ∨ ∃ k ∈ ws, ∃ lk, ρ k = some lk ∧ lk.b = l.b ∧ h'[k]? = some .dead)
def Ok (ρ : RM) (w : World) (h h' : List O) (ws : List Nat) (v : Value) (run : Result Next) : Prop :=
 ∃ ρ' v' w', (run = .ok (.value v') w' ∨ (run = .ok .skip w' ∧ v' = undef)) ∧ Eff ρ ρ' w w' h h' ws ∧ VRel ρ' v v'
theorem Eff.refl (ρ : RM) (w : World) (h : List O) : Eff ρ ρ w w h h [] :=
 ⟨RM.le_refl ρ, fun _ _ h => .inl h, rfl, rfl, rfl, Nat.le_refl _, fun _ _ _ => rfl, Nat.le_refl _, fun _ _ _ => rfl, fun _ h => by simp at h, fun id h1 h2 => by omega⟩
theorem ok_pure {h : List O} {v v' : Value} {s : Sem Value} (hs : s.run P w = .ok v' w) (hv : VRel ρ v v') : Ok ρ w h h [] v ((do pure (Next.value (← s)) : Sem Next).run P w) :=
 ⟨ρ, v', w, .inl (by simp [Sem.run_bind, hs]), Eff.refl ρ w h, hv⟩
theorem Eff.grew (ρ : RM) (w w' : World) (h : List O) (h1 : w'.os = w.os) (h2 : w'.tape = w.tape) (h3 : w'.output = w.output) (h4 : w.heap.size ≤ w'.heap.size) (h5 : ∀ k, k < w.heap.size → w'.heap[k]? = w.heap[k]?) : Eff ρ ρ w w' h h [] :=
 ⟨RM.le_refl ρ, fun _ _ h => .inl h, h1, h2, h3, h4, fun k hk _ => h5 k hk, Nat.le_refl _, fun _ _ _ => rfl, fun _ h => by simp at h, fun id h1 h2 => by omega⟩
def upd (ρ : RM) (id : Nat) (l : Loc) : RM := fun k => if k = id then some l else ρ k
theorem upd_le {ρ : RM} {id : Nat} (l : Loc) (h : ρ id = none) : ρ.le (upd ρ id l) := by
 intro k x hk
 unfold upd
 split
 ·rename_i e; subst e; rw [h] at hk; cases hk
 ·exact hk
theorem upd_at (ρ : RM) (id : Nat) (l : Loc) : upd ρ id l id = some l := by simp [upd]
abbrev Dom (ρ : RM) (h : List O) : Prop := ρ h.length = none
theorem Dom.fresh {h : List O} (hd : Dom ρ h) : ρ h.length = none := hd
theorem heap_push_at (w : World) (o : Obj) : (w.heap.push o)[w.heap.size]? = some o := by simp
theorem heap_push_lt (w : World) (o : Obj) (k : Nat) (h : k < w.heap.size) : (w.heap.push o)[k]? = w.heap[k]? := by
 rw [Array.getElem?_push, if_neg (by omega)]
theorem Eff.made {h : List O} (hd : Dom ρ h) {c : List Value} {cs : Array Value} {e : TypeId} {s : Nat} (hc : LRel ρ c cs.toList) :
  Eff ρ (upd ρ h.length ⟨w.heap.size, 0, s, cs.size⟩) w { w with heap := w.heap.push (.cells cs e) } h (h ++ [.cells c e (some s)]) [] := by
 have hle := upd_le ⟨w.heap.size, 0, s, cs.size⟩ hd.fresh
 refine ⟨hle, ?_, rfl, rfl, rfl, by simp, fun k hk _ => heap_push_lt w _ k hk, by simp, fun id hid _ => by rw [List.getElem?_append_left hid], fun _ h => by simp at h, ?_⟩
 ·intro id l hl
  unfold upd at hl
  split at hl
  ·rename_i e; exact .inr (by simp; omega)
  ·exact .inl hl
 ·intro id h1 h2
  simp at h2
  obtain rfl : id = h.length := by omega
  refine ⟨_, .cells c e (some s), upd_at _ _ _, by simp, ⟨cs, e, (0, 0), heap_push_at w _, ?_, fun s' hs' => ?_, by simp⟩, .inl (Nat.le_refl _)⟩
  ·intro i v hv
   obtain ⟨v', h3, h4⟩ := hc.get hv
   exact ⟨v', by simpa using h3, h4.mono hle⟩
  ·obtain rfl := Option.some.inj hs'
   exact ⟨rfl, rfl, rfl, fun _ => rfl⟩
theorem run_newRow (elem : TypeId) (cs : Array Value) : (newRow elem cs).run P w = .ok ⟨w.heap.size, 0, none⟩ { w with heap := w.heap.push (.cells cs elem) } := by
 simp [newRow, Sem.run_bind]
theorem VRel.at_new {h : List O} (c : Nat) (s sz : Nat) : VRel (upd ρ h.length ⟨c, 0, s, sz⟩) (.pointer (some ⟨h.length, 0, none⟩)) (.pointer (some ⟨c, 0, none⟩)) := by
 have := VRel.ptr (ρ := upd ρ h.length ⟨c, 0, s, sz⟩) (o := 0) (upd_at ρ h.length ⟨c, 0, s, sz⟩)
 simpa using this
theorem Ok.of_run {h h' : List O} {ws : List Nat} {v v' : Value} {s : Sem Value} {w' : World} {ρ' : RM} (hs : s.run P w = .ok v' w') (he : Eff ρ ρ' w w' h h' ws) (hv : VRel ρ' v v') :
  Ok ρ w h h' ws v ((do pure (Next.value (← s)) : Sem Next).run P w) :=
 ⟨ρ', v', w', .inl (by simp [Sem.run_bind, hs]), he, hv⟩
theorem new_ok {h : List O} (hd : Dom ρ h) {elem : TypeId} {zero : List Value} (hz : zeroC P elem = some zero) :
  Ok ρ w h (h ++ [.cells zero elem (some 0)]) [] (.pointer (some ⟨h.length, 0, none⟩)) ((do pure (Next.value (← Instr.alloc elem true (.tuple #[]))) : Sem Next).run P w) := by
 unfold zeroC at hz
 split at hz
 ·rename_i z hzz
  split at hz
  ·rename_i hall
   obtain rfl := Option.some.inj hz
   have hr : (zeroValue elem).run P w = .ok z w := by
    cases hi : P.info? elem with
    | none => simp [hi] at hzz
    | some i => simp [hi] at hzz; simp [zeroValue, typeInfo, hi, hzz, Sem.run_bind]
   refine Ok.of_run ?_ (Eff.made (s := 0) (cs := z.cells) (e := elem) hd (plain_all hall)) (VRel.at_new _ _ _)
   simp only [Instr.alloc, Sem.run_bind, hr, Result.andThen_ok, newVar, run_newRow, Sem.run_pure]
  ·cases hz
 ·cases hz
theorem box_ok {h : List O} (hd : Dom ρ h) {elem : TypeId} {x x' : Value} (hx : VRel ρ x x') :
  Ok ρ w h (h ++ [.cells x.cells.toList elem (some 0)]) [] (.pointer (some ⟨h.length, 0, none⟩)) ((do pure (Next.value (← Instr.box elem x')) : Sem Next).run P w) := by
 refine Ok.of_run ?_ (Eff.made (s := 0) (cs := x'.cells) (e := elem) hd (cells_rel hx)) (VRel.at_new _ _ _)
 simp only [Instr.box, Sem.run_bind, newVar, run_newRow, Result.andThen_ok, Sem.run_pure]
theorem Eff.wrote {h : List O} {id : Nat} {l : Loc} {o : O} {ob : Obj} {w' : World} (hl : ρ id = some l) (hi : id < h.length) (hw : Wrote w w' l.b ob) (ho : CRel ρ w' l o) : Eff ρ ρ w w' h (h.set id o) [id] := by
 refine ⟨RM.le_refl ρ, fun _ _ h => .inl h, hw.os, hw.tape, hw.output, by rw [hw.size]; exact Nat.le_refl _, ?_, by simp, ?_, ?_, fun i h1 h2 => by simp at h2; omega⟩
 ·intro k hk hne
  exact hw.other k (fun e => hne id (by simp) l hl e.symm)
 ·intro i hi' hne
  rw [List.getElem?_set_ne (by simp at hne; omega)]
 ·intro i hi' l' o' hl' ho'
  simp at hi'
  subst hi'
  obtain rfl : l = l' := Option.some.inj (hl.symm.trans hl')
  rw [List.getElem?_set_self hi] at ho'
  obtain rfl := Option.some.inj ho'
  exact ho
theorem wrN_ok {h h' : List O} {b i : Nat} {vs vs' : List Value} {lo : Loc} (hr : wrN h b i vs = some h') (hρ : ρ b = some lo) (hm : ∀ o, h[b]? = some o → CRel ρ w lo o) (hv : LRel ρ vs vs') :
  ∃ w', (storeCells ⟨lo.b, lo.sh + i, none⟩ vs' 0).run P w = .ok () w' ∧ Eff ρ ρ w w' h h' [b] := by
 unfold wrN at hr
 split at hr
 ·rename_i c e s hc
  split at hr
  ·rename_i hi
   obtain rfl := Option.some.inj hr
   obtain ⟨cs, e', fz, h1, h2, h3, h9⟩ := hm _ hc
   obtain ⟨rfl, rfl, hes, hsz⟩ := h3 s rfl
   have hb : b < h.length := (List.getElem?_eq_some_iff.1 hc).1
   by_cases hvs : vs = []
   ·subst hvs
    have : vs' = [] := by have := hv.1; simpa using this.symm
    subst this
    refine ⟨w, rfl, ?_⟩
    have e1 : h.set b (.cells (setL c i []) e' (some s)) = h := by
     apply List.ext_getElem?
     intro j
     by_cases hj : b = j
     ·subst hj; rw [List.getElem?_set_self hb, hc]; rfl
     ·rw [List.getElem?_set_ne hj]
    rw [e1]
    have := Eff.refl ρ w h
    exact ⟨this.le, this.dom, rfl, rfl, rfl, Nat.le_refl _, fun _ _ _ => rfl, Nat.le_refl _, fun _ _ _ => rfl, fun id hid l o hl ho => by
     simp at hid; subst hid
     obtain rfl : lo = l := Option.some.inj (hρ.symm.trans hl)
     exact hm _ ho, fun id a b => absurd b (Nat.not_lt.2 a)⟩
   ·have hlen : lo.sh + i + vs'.length ≤ cs.size := by
     rcases h2.size with hz | hz
     ·rw [hz] at hi
      have : vs.length = 0 := by have h5 := hi.1; rw [List.length_nil] at h5; omega
      exact absurd (List.length_eq_zero_iff.1 this) hvs
     ·have := hv.1; omega
    obtain ⟨w', hw1, hw2⟩ := run_storeCells (P := P) vs' (lo.sh + i) 0 cs w h1 (by simpa using hlen) (fun v' hv' => by
     obtain ⟨j, hj⟩ := List.getElem?_of_mem hv'
     have hjl : j < vs.length := by rw [hv.1]; exact (List.getElem?_eq_some_iff.1 hj).1
     exact one1_ok (hv.2 j _ v' (List.getElem?_eq_getElem hjl) hj) (List.all_eq_true.1 hi.2 _ (List.getElem_mem hjl)))
    refine ⟨w', hw1, Eff.wrote hρ hb hw2 ⟨_, _, _, hw2.at_, ?_, fun s' hs' => ?_, by simp⟩⟩
    ·simpa using CellsRel.set vs vs' c cs i h2 hv hi.1
    ·obtain rfl := Option.some.inj hs'
     exact ⟨rfl, rfl, hes, fun h0 => by rw [setA_size]; exact hsz h0⟩
  ·cases hr
 ·cases hr
theorem store_ok {t : TypeId} {h h' : List O} {n b i : Nat} {a' x x' : Value} {lo : Loc} (ht : sizeC P t = some n) (hρ : ρ b = some lo) (hm : ∀ o, h[b]? = some o → CRel ρ w lo o)
  (ha : VRel ρ (.pointer (some ⟨b, i, none⟩)) a') (hx : VRel ρ x x') (hn : x.cells.toList.length = n) (hw : wrN h b i x.cells.toList = some h') :
  Ok ρ w h h' [b] undef ((do Instr.storeAt t a' x'; pure Next.skip : Sem Next).run P w) := by
 obtain ⟨lo', hl, rfl⟩ := ha.inv_ptr
 obtain rfl : lo' = lo := Option.some.inj (hl.symm.trans hρ)
 have hc := cells_rel hx
 obtain ⟨w', h1, h2⟩ := wrN_ok (P := P) hw hρ hm hc
 refine ⟨ρ, undef, w', .inr ⟨?_, rfl⟩, h2, VRel.undef_ ρ⟩
 have hs : x'.cells.size = n := by rw [← hn, hc.1]; simp
 have hsa : (Instr.sureAddr (.pointer (some ⟨lo'.b, lo'.sh + i, none⟩))).run P w = .ok ⟨lo'.b, lo'.sh + i, none⟩ w := rfl
 simp [Instr.storeAt, Sem.run_bind, hsa, storeVar, run_size ht, hs, h1]
end Go.Ai
namespace Go.Ai
open Go.RowKit
variable {P : Program} {ρ : RM} {w : World}
inductive Parts (ρ : RM) (place : Nat → Option (Nat × Nat)) : List (Nat × Nat × Value) → List (Nat × Value) → Prop
 | nil : Parts ρ place [] []
 | cons {i off size : Nat} {v v' : Value} {qs : List (Nat × Nat × Value)} {ps : List (Nat × Value)} : place i = some (off, size) → VRel ρ v v' → Parts ρ place qs ps → Parts ρ place ((off, size, v) :: qs) ((i, v') :: ps)
theorem LRel.setL {vs : List Value} : ∀ {vs' c c' : List Value} {i : Nat}, LRel ρ c c' → LRel ρ vs vs' → LRel ρ (setL c i vs) (setL c' i vs') := by
 induction vs with
 | nil =>
  intro vs' c c' i h hl
  have : vs' = [] := by have := hl.1; simpa using this.symm
  subst this
  exact h
 | cons v vs ih =>
  intro vs' c c' i h hl
  obtain ⟨v', vs', rfl, hv, hl'⟩ := hl.uncons
  refine ih ⟨by simp [h.1], fun j a b ha hb => ?_⟩ hl'
  by_cases hj : j = i
  ·subst hj
   have h1 : j < c.length := by simpa using (List.getElem?_eq_some_iff.1 ha).1
   rw [List.getElem?_set_self h1] at ha
   rw [List.getElem?_set_self (by have := h.1; omega)] at hb
   obtain rfl := Option.some.inj ha
   obtain rfl := Option.some.inj hb
   exact hv
  ·rw [List.getElem?_set_ne (by omega)] at ha hb
   exact h.2 j a b ha hb
theorem foldl_set (l : List Value) : ∀ (k off : Nat) (cells : Array Value), ((l.zipIdx k).foldl (fun cs (p : Value × Nat) => cs.setIfInBounds (off + p.2) p.1) cells).toList = setL cells.toList (off + k) l := by
 induction l with
 | nil => intro k off cells; rfl
 | cons v l ih => intro k off cells; simp [List.zipIdx_cons, ih, Ai.setL, Nat.add_assoc]
theorem fill_ok {place : Nat → Option (Nat × Nat)} {qs : List (Nat × Nat × Value)} {ps : List (Nat × Value)} (h : Parts ρ place qs ps) :
  ∀ {c l : List Value} {cells : Array Value}, LRel ρ c cells.toList → fillL c qs = some l → ∃ cs' : Array Value, Instr.fill place cells ps = some cs' ∧ LRel ρ l cs'.toList := by
 induction h with
 | nil =>
  intro c l cells hc hl
  obtain rfl := Option.some.inj hl
  exact ⟨cells, rfl, hc⟩
 | @cons i off size v v' qs ps hp hv _ ih =>
  intro c l cells hc hl
  simp only [fillL] at hl
  split at hl
  ·rename_i hk
   obtain ⟨hk1, hk2⟩ := hk
   have hcv := cells_rel hv
   have hs : v'.cells.size = size := by rw [← hk1, hcv.1]; simp
   have hle : ¬ off + v'.cells.size > cells.size := by have := hc.1; simp at this; omega
   have hset : LRel ρ (setL c off v.cells.toList) (v'.cells.zipIdx.foldl (fun cs (p : Value × Nat) => cs.setIfInBounds (off + p.2) p.1) cells).toList := by
    rw [← Array.foldl_toList, Array.toList_zipIdx]
    have := foldl_set v'.cells.toList 0 off cells
    rw [Nat.add_zero] at this
    rw [this]
    exact LRel.setL hc hcv
   obtain ⟨cs', h1, h2⟩ := ih hset hl
   refine ⟨cs', ?_, h2⟩
   simp only [Instr.fill, hp, hs]
   rw [hs] at hle
   simpa [hle] using h1
  ·cases hl
theorem zeroC_run {t : TypeId} {zero : List Value} (hz : zeroC P t = some zero) : ∃ z, (zeroValue t).run P w = .ok z w ∧ zero = z.cells.toList ∧ LRel ρ zero z.cells.toList ∧ zero.all plain = true := by
 unfold zeroC at hz
 split at hz
 ·rename_i z hzz
  split at hz
  ·rename_i hall
   obtain rfl := Option.some.inj hz
   refine ⟨z, ?_, rfl, plain_all hall, hall⟩
   cases hi : P.info? t with
   | none => simp [hi] at hzz
   | some i => simp [hi] at hzz; simp [zeroValue, typeInfo, hi, hzz, Sem.run_bind]
  ·cases hz
 ·cases hz
theorem build_struct_ok {h : List O} {t : TypeId} {zero l : List Value} {fields : Array Field} {places : List (Nat × Nat)} {qs : List (Nat × Nat × Value)} {ps : Array (Nat × Value)} (hz : zeroC P t = some zero)
  (hu : P.underlying t = some (.struct fields)) (hp : fields.toList.mapM (fun f => (P.info? f.type).map fun i => (f.offset, i.size)) = some places) (hq : Parts ρ (fun i => places[i]?) qs ps.toList) (hl : fillL zero qs = some l) :
  Ok ρ w h h [] (.agg l.toArray) ((do pure (Next.value (← Instr.build t ps)) : Sem Next).run P w) := by
 obtain ⟨z, hz1, _, hz2, _⟩ := zeroC_run (w := w) (ρ := ρ) hz
 obtain ⟨cs', h1, h2⟩ := fill_ok hq hz2 hl
 refine ok_pure (v' := .agg cs') ?_ (VRel.agg' h2)
 have := run_places (P := P) w fields.toList places hp
 simp only [Instr.build, Sem.run_bind, hz1, Result.andThen_ok, run_underlying hu, Array.mapM_eq_mapM_toList, bind_pure_comp, Sem.run_map, this]
 simp [h1]
theorem build_array_ok {h : List O} {t elem : TypeId} {n size : Nat} {zero l : List Value} {qs : List (Nat × Nat × Value)} {ps : Array (Nat × Value)} (hz : zeroC P t = some zero)
  (hu : P.underlying t = some (.array n elem)) (hs : sizeC P elem = some size) (hq : Parts ρ (fun i => some (i * size, size)) qs ps.toList) (hl : fillL zero qs = some l) :
  Ok ρ w h h [] (.agg l.toArray) ((do pure (Next.value (← Instr.build t ps)) : Sem Next).run P w) := by
 obtain ⟨z, hz1, _, hz2, _⟩ := zeroC_run (w := w) (ρ := ρ) hz
 obtain ⟨cs', h1, h2⟩ := fill_ok hq hz2 hl
 refine ok_pure (v' := .agg cs') ?_ (VRel.agg' h2)
 simp only [Instr.build, Sem.run_bind, hz1, Result.andThen_ok, run_underlying hu, run_size hs]
 simp [h1]
theorem rep_flat (n : Nat) (z : List Value) : rep n z = (List.replicate n z).flatten := by
 unfold rep
 split
 ·rename_i x
  induction n with
  | zero => rfl
  | succ n ih => rw [List.replicate_succ, List.replicate_succ, List.flatten_cons, ih]; rfl
 ·rfl
theorem rep_get (n : Nat) (z : List Value) : (List.range (n * z.length)).map (fun i => z[i % z.length]!) = rep n z := by
 rw [rep_flat]
 induction n with
 | zero => rw [Nat.zero_mul]; rfl
 | succ n ih =>
  rw [List.replicate_succ, List.flatten_cons, Nat.succ_mul, Nat.add_comm, List.range_add, List.map_append, List.map_map, ← ih]
  congr 1
  ·apply List.ext_getElem?
   intro i
   by_cases hi : i < z.length
   ·simp [hi, Nat.mod_eq_of_lt hi]
   ·simp [hi]
  ·apply List.map_congr_left
   intro i _
   show z[(z.length + i) % z.length]! = _
   rw [Nat.add_mod_left]
theorem zeroCells_ok {z : Value} {zero : List Value} (n : Nat) (hz : zero = z.cells.toList) : (Builtin.zeroCells z.cells n).toList = rep n zero := by
 subst hz
 rw [← rep_get, Builtin.zeroCells, Array.toList_map, Array.toList_range]
 apply List.map_congr_left
 intro i _
 simp only [← Array.length_toList]
 cases hx : z.cells with
 | mk l => simp
theorem rep_plain {n : Nat} {z : List Value} (h : z.all plain = true) : (rep n z).all plain = true := by
 unfold rep
 split
 ·simp at h ⊢
  exact .inr h
 ·simp at h ⊢
  exact .inr h
theorem rep_length (n : Nat) (z : List Value) : (rep n z).length = n * z.length := by
 rw [← rep_get]; simp
theorem buildSlice_ok {h : List O} (hd : Dom ρ h) {t elem : TypeId} {size len : Nat} {zero l : List Value} {qs : List (Nat × Nat × Value)} {ps : Array (Nat × Value)} (hu : P.underlying t = some (.slice elem)) (hs : sizeC P elem = some size)
  (hz : zeroC P elem = some zero) (hzs : zero.length = size) (h0 : 0 < size) (hlen : len * size ≤ 2 ^ 24) (hl0 : len ≠ 0) (hq : Parts ρ (fun i => some (i * size, size)) qs ps.toList) (hl : fillL (rep len zero) qs = some l) :
  Ok ρ w h (h ++ [.cells l elem (some 0)]) [] (.slice (some ⟨h.length, 0, none⟩) len len) ((do pure (Next.value (← Instr.buildSlice t len ps)) : Sem Next).run P w) := by
 obtain ⟨z, hz1, hz3, _, hz4⟩ := zeroC_run (w := w) (ρ := ρ) hz
 have hrep : (Array.map (fun i => z.cells[i % z.cells.size]!) (Array.range (len * size))).toList = rep len zero := by
  have := zeroCells_ok len hz3
  simp only [Builtin.zeroCells] at this
  have hsz : z.cells.size = size := by rw [← hzs, hz3]; simp
  rw [hsz] at this ⊢
  exact this
 obtain ⟨cs', h1, h2⟩ := fill_ok hq (by rw [hrep]; exact plain_all (rep_plain hz4)) hl
 have hne : ¬ len * size = 0 := by
  have := Nat.mul_pos (Nat.pos_of_ne_zero hl0) h0
  omega
 refine Ok.of_run ?_ (Eff.made (s := 0) (cs := cs') (e := elem) hd h2) ?_ (v' := .slice (some ⟨w.heap.size, 0, none⟩) len len)
 ·have hgt : ¬ len * size > 2 ^ 24 := by omega
  simp only [Instr.buildSlice, Sem.run_bind, run_underlying hu, Result.andThen_ok, run_size hs, hgt, if_false, hne, hz1, Sem.run_pure, h1, run_newRow]
 ·have := VRel.slice (ρ := upd ρ h.length ⟨w.heap.size, 0, 0, cs'.size⟩) (o := 0) (o' := 0) (n := len) (c := len) (c' := len) (upd_at _ _ _) (Nat.le_refl _) (.inl rfl) (Nat.le_refl _) (.inl rfl)
  exact this
theorem range_map_zero {α : Type} (f : Nat → α) : Array.map f (Array.range 0) = #[] := by
 apply Array.toList_inj.1
 rw [Array.toList_map, Array.toList_range]
 rfl
theorem buildSlice_none {h : List O} {t elem : TypeId} {size : Nat} (hu : P.underlying t = some (.slice elem)) (hs : sizeC P elem = some size) :
  Ok ρ w h h [] emptyS ((do pure (Next.value (← Instr.buildSlice t 0 #[])) : Sem Next).run P w) := by
 refine Ok.of_run (w' := { w with heap := w.heap.push (.cells #[] elem) }) (v' := .slice (some ⟨w.heap.size, 0, none⟩) 0 0) ?_ (Eff.grew ρ w _ h rfl rfl rfl (by simp) (fun k hk => heap_push_lt w _ k hk)) (.empty _)
 simp [Instr.buildSlice, Sem.run_bind, run_underlying hu, run_size hs, Instr.fill, run_newRow]
 rw [range_map_zero]
theorem makeSlice_ok {h : List O} (hd : Dom ρ h) {t elem : TypeId} {size b : Nat} {zero : List Value} {l c : Int} (hu : P.underlying t = some (.slice elem)) (hs : sizeC P elem = some size) (hb : bytesC P elem = some b)
  (hz : zeroC P elem = some zero) (hzs : zero.length = size) (h0 : 0 < size) (hl : 0 ≤ l) (hlc : l ≤ c) (hcb : c * b ≤ 2 ^ 47) (hc62 : c < 2 ^ 62) :
  Ok ρ w h (h ++ [.cells (rep c.toNat zero) elem (some 0)]) [] (.slice (some ⟨h.length, 0, none⟩) l.toNat c.toNat) ((do pure (Next.value (← Instr.makeSlice t (.int .i64 l) (.int .i64 c))) : Sem Next).run P w) := by
 obtain ⟨z, hz1, hz3, _, hz4⟩ := zeroC_run (w := w) (ρ := ρ) hz
 obtain ⟨i, hi, hib⟩ : ∃ i, P.info? elem = some i ∧ i.bytes = b := by
  unfold bytesC at hb
  cases hx : P.info? elem with
  | none => simp [hx] at hb
  | some i => exact ⟨i, rfl, by simpa [hx] using hb⟩
 have hrep : (Array.map (fun i => z.cells[i % z.cells.size]!) (Array.range (c.toNat * size))).toList = rep c.toNat zero := by
  have := zeroCells_ok c.toNat hz3
  simp only [Builtin.zeroCells] at this
  have hsz : z.cells.size = size := by rw [← hzs, hz3]; simp
  rw [hsz] at this ⊢
  exact this
 have hwl : IntKind.i64.wrap l = l := IntWalk.i64_in _ (by omega)
 have hwc : IntKind.i64.wrap c = c := IntWalk.i64_in _ (by omega)
 have hcs : LRel ρ (rep c.toNat zero) (if c.toNat * size = 0 then (#[] : Array Value) else (Array.map (fun i => z.cells[i % z.cells.size]!) (Array.range (c.toNat * size)))).toList := by
  split
  ·rename_i h
   have : (rep c.toNat zero) = [] := by
    apply List.length_eq_zero_iff.1
    rw [rep_length, hzs]; exact h
   rw [this]; exact LRel.nil ρ
  ·rw [hrep]; exact plain_all (rep_plain hz4)
 refine Ok.of_run ?_ (Eff.made (s := 0) (cs := (if c.toNat * size = 0 then (#[] : Array Value) else (Array.map (fun i => z.cells[i % z.cells.size]!) (Array.range (c.toNat * size))))) (e := elem) hd hcs) ?_ (v' := .slice (some ⟨w.heap.size, 0, none⟩) l.toNat c.toNat)
 ·have e1 : (decide (c < 0) || decide ((b : Int) * c > 2 ^ 48)) = false := by
   have : (b : Int) * c ≤ 2 ^ 47 := by rw [Int.mul_comm]; exact hcb
   simp
   omega
  have e2 : ¬ l < 0 := by omega
  have e3 : ¬ l > c := by omega
  simp only [Instr.makeSlice, Sem.run_bind, run_underlying hu, Result.andThen_ok, asInt, asIntOf, Sem.run_pure, typeInfo, run_program, hi, hib, hwl, hwc]
  simp only [e1, e2, e3, decide_false, Bool.or_self, Bool.false_eq_true, if_false, Sem.run_bind, run_askRoom, Result.andThen_ok, run_size hs, Sem.run_pure]
  by_cases hn : c.toNat * size = 0
  ·simp [hn, run_newRow, Sem.run_bind]
   rw [range_map_zero]
  ·simp [hn, hz1, run_newRow, Sem.run_bind]
 ·exact VRel.slice (ρ := upd ρ h.length ⟨w.heap.size, 0, 0, _⟩) (o := 0) (o' := 0) (upd_at _ _ _) (Nat.le_refl _) (.inl rfl) (by omega) (.inl rfl)
end Go.Ai
namespace Go.Ai
open Go.RowKit
variable {P : Program} {ρ : RM} {w : World}
theorem faddr_ok {h : List O} {s : TypeId} {fields : Array Field} {f : Nat} {fd : Field} {n b i : Nat} {x' : Value} (hu : P.underlying s = some (.struct fields)) (hf : fields[f]? = some fd) (hs : sizeC P fd.type = some n) (hn : 0 < n)
  (hx : VRel ρ (.pointer (some ⟨b, i, none⟩)) x') : Ok ρ w h h [] (.pointer (some ⟨b, i + fd.offset, none⟩)) ((do pure (Next.value (← Instr.fieldAt s x' f)) : Sem Next).run P w) := by
 obtain ⟨l, hl, rfl⟩ := hx.inv_ptr
 have hv := VRel.ptr (ρ := ρ) (o := i + fd.offset) hl
 rw [← Nat.add_assoc] at hv
 refine ok_pure ?_ hv
 have hsa : (Instr.sureAddr (.pointer (some ⟨l.b, l.sh + i, none⟩))).run P w = .ok ⟨l.b, l.sh + i, none⟩ w := rfl
 simp [Instr.fieldAt, Sem.run_bind, run_underlying hu, hf, hsa, fieldPlace, run_size hs, show n ≠ 0 by omega, add_none]
theorem partL_ok {t : TypeId} {n : Option Nat} {cs : List Value} {cs' : Array Value} {off : Nat} {v : Value} (ht : aggN P t = some n) (hc : LRel ρ cs cs'.toList) (hv : partL cs off n = some v) :
  ∃ v', (part t cs' off).run P w = .ok v' w ∧ VRel ρ v v' := by
 unfold aggN at ht
 cases hu : P.underlying t with
 | none => simp [hu] at ht
 | some d =>
  cases n with
  | none =>
   have ha : isAggD d = false := by
    cases d <;> simp [hu] at ht <;> first | rfl | (obtain ⟨i, hi, h⟩ := ht; cases h)
   obtain ⟨v', h1, h2⟩ := hc.get hv
   exact ⟨v', run_part_one hu ha h1, h2⟩
  | some k =>
   have hsz : isAggD d = true ∧ sizeC P t = some k := by
    cases d <;> simp [hu] at ht <;> (obtain ⟨i, hi, h⟩ := ht; subst h; exact ⟨rfl, by simp [sizeC, hi]⟩)
   obtain ⟨ha, hsz⟩ := hsz
   simp only [partL, Option.some.injEq] at hv
   subst hv
   exact ⟨_, run_part_agg hu ha hsz, VRel.agg' ((hc.drop off).take k)⟩
theorem field_ok {h : List O} {s : TypeId} {fields : Array Field} {f : Nat} {fd : Field} {n : Option Nat} {cs : Array Value} {x' v : Value} (hu : P.underlying s = some (.struct fields)) (hf : fields[f]? = some fd) (ht : aggN P fd.type = some n)
  (hx : VRel ρ (.agg cs) x') (hv : partL cs.toList fd.offset n = some v) : Ok ρ w h h [] v ((do pure (Next.value (← Instr.field s x' f)) : Sem Next).run P w) := by
 obtain ⟨cs', rfl, hc⟩ := hx.inv_agg
 obtain ⟨v', h1, h2⟩ := partL_ok (P := P) (w := w) ht hc hv
 exact ok_pure (by simp [Instr.field, Sem.run_bind, run_underlying hu, hf, asAgg, h1]) h2
theorem iaddrS_ok {h : List O} {t elem : TypeId} {size b o n c : Nat} {k : IntKind} {j : Int} {x' i' : Value} (hu : P.underlying t = some (.slice elem)) (hs : sizeC P elem = some size)
  (hx : VRel ρ (.slice (some ⟨b, o, none⟩) n c) x') (hi : VRel ρ (.int k j) i') (h0 : 0 ≤ j) (hn : j < n) :
  Ok ρ w h h [] (.pointer (some ⟨b, o + j.toNat * size, none⟩)) ((do pure (Next.value (← Instr.indexAt t x' i')) : Sem Next).run P w) := by
 obtain ⟨l, o', c', hl, rfl, h1, h2, h3, h4⟩ := hx.inv_slice
 obtain rfl := hi.int
 have ho : o' = l.sh + o := by
  rcases h2 with h2 | h2
  ·exact h2
  ·omega
 subst ho
 have hv := VRel.ptr (ρ := ρ) (o := o + j.toNat * size) hl
 rw [← Nat.add_assoc] at hv
 refine ok_pure ?_ hv
 have hc : 0 ≤ j ∧ j < (n : Int) := ⟨h0, hn⟩
 simp [Instr.indexAt, Sem.run_bind, asIntOf, run_underlying hu, hc, run_size hs, add_none]
theorem iaddrA_ok {h : List O} {t elem : TypeId} {len size b o : Nat} {k : IntKind} {j : Int} {x' i' : Value} (hu : P.underlying t = some (.array len elem)) (hs : sizeC P elem = some size)
  (hx : VRel ρ (.pointer (some ⟨b, o, none⟩)) x') (hi : VRel ρ (.int k j) i') (h0 : 0 ≤ j) (hn : j < len) :
  Ok ρ w h h [] (.pointer (some ⟨b, o + j.toNat * size, none⟩)) ((do pure (Next.value (← Instr.indexAt t x' i')) : Sem Next).run P w) := by
 obtain ⟨l, hl, rfl⟩ := hx.inv_ptr
 obtain rfl := hi.int
 have hv := VRel.ptr (ρ := ρ) (o := o + j.toNat * size) hl
 rw [← Nat.add_assoc] at hv
 refine ok_pure ?_ hv
 have hc : 0 ≤ j ∧ j < (len : Int) := ⟨h0, hn⟩
 have hsa : (Instr.sureAddr (.pointer (some ⟨l.b, l.sh + o, none⟩))).run P w = .ok ⟨l.b, l.sh + o, none⟩ w := rfl
 simp [Instr.indexAt, Sem.run_bind, asIntOf, run_underlying hu, hsa, hc, run_size hs, add_none]
theorem indexA_ok {h : List O} {t elem : TypeId} {len size : Nat} {n : Option Nat} {cs : Array Value} {k : IntKind} {j : Int} {x' i' v : Value} (hu : P.underlying t = some (.array len elem)) (hs : sizeC P elem = some size) (ht : aggN P elem = some n)
  (hx : VRel ρ (.agg cs) x') (hi : VRel ρ (.int k j) i') (h0 : 0 ≤ j) (hn : j < len) (hv : partL cs.toList (j.toNat * size) n = some v) :
  Ok ρ w h h [] v ((do pure (Next.value (← Instr.index t x' i')) : Sem Next).run P w) := by
 obtain ⟨cs', rfl, hc⟩ := hx.inv_agg
 obtain rfl := hi.int
 obtain ⟨v', h1, h2⟩ := partL_ok (P := P) (w := w) ht hc hv
 have hc : 0 ≤ j ∧ j < (len : Int) := ⟨h0, hn⟩
 exact ok_pure (by simp [Instr.index, Sem.run_bind, asIntOf, run_underlying hu, hc, run_size hs, h1]) h2
theorem extract_ok {h : List O} {i : Nat} {vs : Array Value} {x' v : Value} (hx : VRel ρ (.tuple vs) x') (hv : vs.toList[i]? = some v) : Ok ρ w h h [] v ((do pure (Next.value (← Instr.extract x' i)) : Sem Next).run P w) := by
 obtain ⟨vs', rfl, hc⟩ := hx.inv_tuple
 obtain ⟨v', h1, h2⟩ := hc.get hv
 have h1' : vs'[i]? = some v' := by simpa using h1
 exact ok_pure (by simp [Instr.extract, h1']) h2
theorem bound_ok {x x' : Value} {y n : Nat} {code : BoundsCode} (h : bound x y = some n) (hx : VRel ρ x x') (y' : Nat) (hy : y ≤ y') : (Instr.sliceBound x' y' code).run P w = .ok n w ∧ n ≤ y := by
 unfold bound at h
 split at h
 ·rename_i k i
  obtain rfl := hx.int
  split at h
  ·rename_i hc
   obtain rfl := Option.some.inj h
   have : 0 ≤ i ∧ i ≤ (y' : Int) := ⟨hc.1, by omega⟩
   exact ⟨by simp [Instr.sliceBound, Sem.run_bind, asIntOf, this], by omega⟩
  ·cases h
 ·cases h
def ORel (ρ : RM) : Option Value → Option Value → Prop
 | some a, some b => VRel ρ a b
 | none, none => True
 | _, _ => False
theorem bounds_ok {is : Bool} {lo hi mx lo' hi' mx' : Option Value} {len cap cap' m h l : Nat} (hcap : cap ≤ cap')
  (hm : mxB cap mx = some m) (hh : hiB len m mx.isSome hi = some h) (hl : loB h lo = some l)
  (r1 : ORel ρ lo lo') (r2 : ORel ρ hi hi') (r3 : ORel ρ mx mx') (hlen : len ≤ cap) :
  ∃ m', (Instr.sliceBounds is len cap' lo' hi' mx').run P w = .ok (l, h, m') w ∧ m ≤ m' ∧ l ≤ h ∧ h ≤ m ∧ m ≤ cap ∧ (mx.isSome = true → m' = m) ∧ (mx = none → m' = cap' ∧ m = cap) := by
 have e1 : l ≤ h ∧ ∀ c, match lo' with | some v => (Instr.sliceBound v h c).run P w = .ok l w | none => l = 0 := by
  cases lo <;> cases lo' <;> simp only [ORel] at r1
  ·simp [loB] at hl; subst hl; exact ⟨Nat.zero_le _, fun _ => rfl⟩
  ·exact ⟨(bound_ok (P := P) (w := w) (code := .index) hl r1 h (Nat.le_refl _)).2, fun c => (bound_ok (P := P) (w := w) (code := c) hl r1 h (Nat.le_refl _)).1⟩
 obtain ⟨hlh, e1⟩ := e1
 cases mx with
 | none =>
  cases mx' with
  | some b => exact r3.elim
  | none =>
   simp [mxB] at hm
   subst hm
   have e2 : h ≤ cap ∧ match hi' with | some v => (Instr.sliceBound v cap' (if is then .sliceAcap else .sliceAlen)).run P w = .ok h w | none => h = len := by
    cases hi <;> cases hi' <;> simp only [ORel] at r2
    ·simp [hiB] at hh; subst hh; exact ⟨hlen, rfl⟩
    ·have := bound_ok (P := P) (w := w) (code := if is then .sliceAcap else .sliceAlen) hh r2 cap' hcap; exact ⟨this.2, this.1⟩
   refine ⟨cap', ?_, hcap, hlh, e2.1, Nat.le_refl _, by simp, fun _ => ⟨rfl, rfl⟩⟩
   have e1' := e1 .sliceB
   cases hi' with
   | none =>
    obtain ⟨_, rfl⟩ := e2
    cases lo' <;> simp only at e1' <;> simp [Instr.sliceBounds, Sem.run_bind, e1']
   | some b =>
    cases lo' <;> simp only at e2 e1' <;> simp [Instr.sliceBounds, Sem.run_bind, e2.2, e1']
 | some v =>
  cases mx' with
  | none => exact r3.elim
  | some b =>
   have e3 := bound_ok (P := P) (w := w) (code := if is then .slice3Acap else .slice3Alen) hm r3 cap' hcap
   cases hi with
   | none => simp [hiB] at hh
   | some hv =>
    cases hi' with
    | none => exact r2.elim
    | some hb =>
     have e2 := bound_ok (P := P) (w := w) (code := .slice3B) hh r2 m (Nat.le_refl _)
     have e1' := e1 .slice3C
     refine ⟨m, ?_, Nat.le_refl _, hlh, e2.2, e3.2, fun _ => rfl, by simp⟩
     cases lo' <;> simp only at e1' <;> simp [Instr.sliceBounds, Sem.run_bind, e3.1, e2.1, e1']
theorem slice_ok {h : List O} {t elem : TypeId} {size : Nat} {x x' v : Value} {lo hi mx lo' hi' mx' : Option Value} (hu : P.underlying t = some (.slice elem)) (hs : sizeC P elem = some size) (hv : sliceV h size x lo hi mx = some v) (hx : VRel ρ x x')
  (r1 : ORel ρ lo lo') (r2 : ORel ρ hi hi') (r3 : ORel ρ mx mx') (hmem : ∀ b ∈ blk x, ∀ o, h[b]? = some o → ∃ L, ρ b = some L ∧ CRel ρ w L o) :
  Ok ρ w h h [] v ((do pure (Next.value (← Instr.sliceAt t x' lo' hi' mx')) : Sem Next).run P w) := by
 unfold sliceV at hv
 split at hv
 ·rename_i a len cap
  simp only [Option.bind_eq_some_iff] at hv
  obtain ⟨m, hm, k, hk, l, hl, hv⟩ := hv
  have main : ∀ (a' : Option Addr) (cap' m' : Nat) (v' : Value), x' = .slice a' len cap' → (Instr.sliceBounds true len cap' lo' hi' mx').run P w = .ok (l, k, m') w →
    v' = .slice (if m' = l then a' else a'.map (·.add (l * size))) (k - l) (m' - l) → VRel ρ v v' → Ok ρ w h h [] v ((do pure (Next.value (← Instr.sliceAt t x' lo' hi' mx')) : Sem Next).run P w) := by
   intro a' cap' m' v' hx' hb hv' hr
   subst hx'
   refine ok_pure (v' := v') ?_ hr
   subst hv'
   simp [Instr.sliceAt, Instr.slice, Sem.run_bind, run_underlying hu, hb, run_size hs]
  cases a with
  | none =>
   simp only [sliceA, Option.some.injEq] at hv
   subst hv
   have hx2 : x' = .slice none len cap ∧ len = 0 ∧ cap = 0 := by
    cases hx with
    | flat h1 h2 =>
     refine ⟨rfl, ?_⟩
     cases len <;> cases cap <;> simp [flat] at h1 <;> exact ⟨rfl, rfl⟩
   obtain ⟨rfl, rfl, rfl⟩ := hx2
   obtain ⟨m', hb, h1, h2, h3, h6, h4, h5⟩ := bounds_ok (is := true) (P := P) (w := w) (ρ := ρ) (Nat.le_refl 0) hm hk hl r1 r2 r3 (Nat.le_refl 0)
   obtain rfl : m = 0 := by omega
   obtain rfl : m' = 0 := by
    cases mx with
    | none => exact (h5 rfl).1
    | some v => exact h4 rfl
   obtain rfl : k = 0 := by omega
   obtain rfl : l = 0 := by omega
   exact main none 0 0 _ rfl hb rfl (.flat rfl rfl)
  | some a =>
   obtain ⟨b, o, sp⟩ := a
   cases sp with
   | some sp =>
    have hx2 : (∃ a', x' = .slice (some a') 0 0) ∧ len = 0 ∧ cap = 0 ∧ VRel ρ (.slice (some ⟨b, o, some sp⟩) 0 0) x' := by
     have hx0 := hx
     cases hx with
     | flat h1 h2 => simp [isE] at h2
     | empty a => exact ⟨⟨a, rfl⟩, rfl, rfl, hx0⟩
    obtain ⟨⟨a', rfl⟩, rfl, rfl, hx3⟩ := hx2
    simp only [sliceA] at hv
    split at hv
    ·rename_i hml
     obtain rfl := Option.some.inj hv
     obtain ⟨m', hb, h1, h2, h3, h6, h4, h5⟩ := bounds_ok (is := true) (P := P) (w := w) (ρ := ρ) (Nat.le_refl 0) hm hk hl r1 r2 r3 (Nat.le_refl 0)
     obtain rfl : m = 0 := by omega
     obtain rfl : m' = 0 := by
      cases mx with
      | none => exact (h5 rfl).1
      | some v => exact h4 rfl
     obtain rfl : k = 0 := by omega
     subst hml
     exact main (some a') 0 0 _ rfl hb rfl hx3
    ·cases hv
   | none =>
    obtain ⟨L, o', c', hL, rfl, g1, g2, g3, g4⟩ := hx.inv_slice
    obtain ⟨m', hb, h1, h2, h3, h6, h4, h5⟩ := bounds_ok (is := true) (P := P) (w := w) (ρ := ρ) g1 hm hk hl r1 r2 r3 g3
    simp only [sliceA] at hv
    split at hv
    ·rename_i htag
     obtain rfl := Option.some.inj hv
     have hsz : 0 < L.es → L.es = size := by
      intro hpos
      unfold tagOk at htag
      split at htag
      ·rename_i c e s hc
       obtain ⟨L', hL', cs, e', fz, _, _, k3, _⟩ := hmem b (by simp [blk]) _ hc
       obtain rfl : L = L' := Option.some.inj (hL.symm.trans hL')
       obtain ⟨_, _, k4, _⟩ := k3 s rfl
       simp at htag
       omega
      ·rename_i c e hc
       obtain ⟨L', hL', cs, e', fz, _, _, _, k3⟩ := hmem b (by simp [blk]) _ hc
       obtain rfl : L = L' := Option.some.inj (hL.symm.trans hL')
       have := k3 rfl
       omega
      ·cases htag
     have hml : m' = l → m = l := fun e => by omega
     refine main (some ⟨L.b, o', none⟩) c' m' (.slice (some (if m' = l then ⟨L.b, o', none⟩ else ⟨L.b, o' + l * size, none⟩)) (k - l) (m' - l)) rfl hb ?_ ?_
     ·split <;> simp [add_none, *]
     ·have hex : (m' - l = m - l) ∨ (0 < L.es ∧ (if m' = l then o' else o' + l * size) + (m' - l) * L.es ≤ L.sz) := by
       cases mx with
       | some v => left; rw [h4 rfl]
       | none =>
        obtain ⟨rfl, rfl⟩ := h5 rfl
        rcases g4 with g4 | ⟨g4, g5⟩
        ·left; rw [g4]
        ·right
         refine ⟨g4, ?_⟩
         rw [← hsz g4]
         split
         ·rename_i e
          subst e
          have : o' ≤ o' + m' * L.es := Nat.le_add_right _ _
          simp
          omega
         ·have e1 : l * L.es + (m' - l) * L.es = m' * L.es := by rw [← Nat.add_mul]; congr 1; omega
          omega
      have := VRel.slice (ρ := ρ) (id := b) (o := if m = l then o else o + l * size) (o' := if m' = l then o' else o' + l * size) (n := k - l) (c := m - l) (c' := m' - l) hL (by omega)
       (by
        by_cases e : m = l
        ·right; omega
        ·left
         have e' : m' ≠ l := fun x => e (hml x)
         rw [if_neg e, if_neg e']
         rcases g2 with g2 | g2 <;> omega) (by omega) hex
      by_cases e : m = l <;> by_cases e' : m' = l <;> simp only [e, e', if_true, if_false] at this ⊢ <;> exact this
    ·cases hv
 ·cases hv
theorem sliceA_ok {h : List O} {t arr elem : TypeId} {size n b i : Nat} {x' v : Value} {lo hi mx lo' hi' mx' : Option Value} (hu : P.underlying t = some (.pointer arr)) (ha : P.underlying arr = some (.array n elem)) (hs : sizeC P elem = some size)
  (hv : sliceV h size (.slice (some ⟨b, i, none⟩) n n) lo hi mx = some v) (hx : VRel ρ (.pointer (some ⟨b, i, none⟩)) x')
  (r1 : ORel ρ lo lo') (r2 : ORel ρ hi hi') (r3 : ORel ρ mx mx') :
  Ok ρ w h h [] v ((do pure (Next.value (← Instr.sliceAt t x' lo' hi' mx')) : Sem Next).run P w) := by
 obtain ⟨L, hL, rfl⟩ := hx.inv_ptr
 simp only [sliceV, Option.bind_eq_some_iff] at hv
 obtain ⟨m, hm, k, hk, l, hl, hv⟩ := hv
 obtain ⟨m', hb, h1, h2, h3, h6, h4, h5⟩ := bounds_ok (is := false) (P := P) (w := w) (ρ := ρ) (Nat.le_refl n) hm hk hl r1 r2 r3 (Nat.le_refl n)
 have hmm : m' = m := by
  cases mx with
  | some v => exact h4 rfl
  | none => obtain ⟨e1, e2⟩ := h5 rfl; rw [e1, e2]
 subst hmm
 simp only [sliceA] at hv
 split at hv
 ·obtain rfl := Option.some.inj hv
  refine ok_pure (v' := .slice (some (if m' = l then ⟨L.b, L.sh + i, none⟩ else ⟨L.b, L.sh + i + l * size, none⟩)) (k - l) (m' - l)) ?_ ?_
  ·have hsa : (Instr.sureAddr (.pointer (some ⟨L.b, L.sh + i, none⟩))).run P w = .ok ⟨L.b, L.sh + i, none⟩ w := rfl
   split <;> simp [Instr.sliceAt, Instr.slice, Sem.run_bind, run_underlying hu, run_underlying ha, hb, run_size hs, hsa, asAddr, add_none, *]
  ·have := VRel.slice (ρ := ρ) (id := b) (o := if m' = l then i else i + l * size) (o' := if m' = l then L.sh + i else L.sh + i + l * size) (n := k - l) (c := m' - l) (c' := m' - l) hL (Nat.le_refl _) (by left; split <;> omega) (by omega) (.inl rfl)
   by_cases e : m' = l <;> simp only [e, if_true, if_false] at this ⊢ <;> exact this
 ·cases hv
theorem sliceB_ok {h : List O} {t elem : TypeId} {size n b i : Nat} {x' v : Value} {lo hi mx lo' hi' mx' : Option Value} (hu : P.underlying t = some (.array n elem)) (hs : sizeC P elem = some size)
  (hv : sliceV h size (.slice (some ⟨b, i, none⟩) n n) lo hi mx = some v) (hx : VRel ρ (.pointer (some ⟨b, i, none⟩)) x')
  (r1 : ORel ρ lo lo') (r2 : ORel ρ hi hi') (r3 : ORel ρ mx mx') :
  Ok ρ w h h [] v ((do pure (Next.value (← Instr.sliceAt t x' lo' hi' mx')) : Sem Next).run P w) := by
 obtain ⟨L, hL, rfl⟩ := hx.inv_ptr
 simp only [sliceV, Option.bind_eq_some_iff] at hv
 obtain ⟨m, hm, k, hk, l, hl, hv⟩ := hv
 obtain ⟨m', hb, h1, h2, h3, h6, h4, h5⟩ := bounds_ok (is := false) (P := P) (w := w) (ρ := ρ) (Nat.le_refl n) hm hk hl r1 r2 r3 (Nat.le_refl n)
 have hmm : m' = m := by
  cases mx with
  | some v => exact h4 rfl
  | none => obtain ⟨e1, e2⟩ := h5 rfl; rw [e1, e2]
 subst hmm
 simp only [sliceA] at hv
 split at hv
 ·obtain rfl := Option.some.inj hv
  refine ok_pure (v' := .slice (some (if m' = l then ⟨L.b, L.sh + i, none⟩ else ⟨L.b, L.sh + i + l * size, none⟩)) (k - l) (m' - l)) ?_ ?_
  ·have hsa : (Instr.sureAddr (.pointer (some ⟨L.b, L.sh + i, none⟩))).run P w = .ok ⟨L.b, L.sh + i, none⟩ w := rfl
   split <;> simp [Instr.sliceAt, Instr.slice, Sem.run_bind, run_underlying hu, hb, run_size hs, hsa, asAddr, add_none, *]
  ·have := VRel.slice (ρ := ρ) (id := b) (o := if m' = l then i else i + l * size) (o' := if m' = l then L.sh + i else L.sh + i + l * size) (n := k - l) (c := m' - l) (c' := m' - l) hL (Nat.le_refl _) (by left; split <;> omega) (by omega) (.inl rfl)
   by_cases e : m' = l <;> simp only [e, if_true, if_false] at this ⊢ <;> exact this
 ·cases hv
end Go.Ai
namespace Go.Ai
open Go.RowKit
variable {P : Program} {ρ : RM} {w : World}
theorem bytes_run {t : TypeId} {b : Nat} (hb : bytesC P t = some b) : ∃ i, P.info? t = some i ∧ i.bytes = b := by
 unfold bytesC at hb
 cases hx : P.info? t with
 | none => simp [hx] at hb
 | some i => exact ⟨i, rfl, by simpa [hx] using hb⟩
theorem readSlice_ok {h : List O} {size n c : Nat} {a : Option Addr} {x' : Value} {l : List Value} (hr : readSlice h size n a = some l) (hx : VRel ρ (.slice a n c) x') (hm : ∀ b ∈ blk (.slice a n c), ∀ o, h[b]? = some o → ∃ L, ρ b = some L ∧ CRel ρ w L o) :
  ∃ l', LRel ρ l l' ∧ l.length = n * size ∧ (Builtin.firstCells size n x').run P w = .ok l'.toArray w ∧ Builtin.lenOf x' = (pure n : Sem Nat) ∧ ∀ w2 : World, w2.heap = w.heap → (Builtin.firstCells size n x').run P w2 = .ok l'.toArray w2 := by
 cases a with
 | none =>
  simp only [readSlice] at hr
  split at hr
  ·rename_i h0
   obtain rfl := Option.some.inj hr
   cases hx with
   | flat h1 h2 =>
    have : n = 0 ∧ c = 0 := by cases n <;> cases c <;> simp [flat] at h1 <;> exact ⟨rfl, rfl⟩
    obtain ⟨rfl, rfl⟩ := this
    exact ⟨[], LRel.nil ρ, by simp, rfl, rfl, fun _ _ => rfl⟩
  ·cases hr
 | some a =>
  obtain ⟨b, o, sp⟩ := a
  cases sp with
  | some sp =>
   simp only [readSlice] at hr
   split at hr
   ·rename_i h0
    obtain rfl := Option.some.inj hr
    cases hx with
    | flat h1 h2 => simp [isE] at h2
    | empty a => exact ⟨[], LRel.nil ρ, by simp, by simp [Builtin.firstCells, loadCells, loadCellsFrom], rfl, fun _ _ => by simp [Builtin.firstCells, loadCells, loadCellsFrom]⟩
   ·cases hr
  | none =>
   obtain ⟨L, o', c', hL, rfl, g1, g2, g3, g4⟩ := hx.inv_slice
   simp only [readSlice] at hr
   split at hr
   ·rename_i h0
    obtain rfl := Option.some.inj hr
    exact ⟨[], LRel.nil ρ, by simp [h0], by simp [Builtin.firstCells, loadCells, h0, loadCellsFrom], rfl, fun _ _ => by simp [Builtin.firstCells, loadCells, h0, loadCellsFrom]⟩
   ·rename_i h0
    have hn : n ≠ 0 := fun e => by subst e; simp at h0
    obtain rfl : o' = L.sh + o := by
     rcases g2 with g2 | g2
     ·exact g2
     ·omega
    obtain ⟨l', h1, h2, h3⟩ := rdN_ok2 (P := P) (w := w) (ρ := ρ) (lo := L) hr (fun o ho => by
     obtain ⟨L', hL', hc⟩ := hm b (by simp [blk]) o ho
     obtain rfl : L = L' := Option.some.inj (hL.symm.trans hL')
     exact hc)
    exact ⟨l', h1, h2, h3 w rfl, rfl, h3⟩
theorem growBy_le (need : Nat) : ∀ (r c : Nat), 256 ≤ c → c ≤ 2 * need → Builtin.growBy need r c ≤ 2 * need
 | 0, c, _, h => h
 | r + 1, c, h1, h => by
  simp only [Builtin.growBy]
  split
  ·exact h
  ·exact growBy_le need r _ (by omega) (by omega)
theorem nextslicecap_le {need c : Nat} (h : c < need) : Builtin.nextslicecap need c ≤ 2 * need := by
 unfold Builtin.nextslicecap
 split
 ·omega
 ·split
  ·omega
  ·exact growBy_le need 4 c (by omega) (by omega)
theorem wrote_new (w : World) (o : Obj) (n : Nat) : ({ w with heap := w.heap.push o, drawn := n } : World).heap[w.heap.size]? = some o := heap_push_at w o
theorem setA_get (vs : List Value) : ∀ (cs : Array Value) (k j : Nat), k + vs.length ≤ cs.size → (setA cs k vs)[j]? = if k ≤ j ∧ j < k + vs.length then vs[j - k]? else cs[j]? := by
 induction vs with
 | nil => intro cs k j _; simp [setA]; intro h1 h2; omega
 | cons v vs ih =>
  intro cs k j h
  simp only [List.length_cons] at h
  rw [setA, ih _ _ _ (by simp; omega)]
  by_cases h1 : k + 1 ≤ j ∧ j < k + 1 + vs.length
  ·rw [if_pos h1, if_pos (by simp; omega)]
   have : j - k = (j - (k + 1)) + 1 := by omega
   rw [this]
   rfl
  ·rw [if_neg h1]
   by_cases h2 : j = k
   ·subst h2
    rw [if_pos (by simp)]
    simp [show j < cs.size by omega]
   ·rw [if_neg (by simp; omega), Array.getElem?_setIfInBounds_ne (by omega)]
theorem Eff.appended {h h1 : List O} {ws : List Nat} {o : O} {L : Loc} {w' : World} (hd : Dom ρ h) (hw : (h1 = h ∧ ws = []) ∨ ∃ bb, h1 = h.set bb .dead ∧ ws = [bb] ∧ bb < h.length)
  (e1 : w'.os = w.os) (e2 : w'.tape = w.tape) (e3 : w'.output = w.output) (e4 : w.heap.size ≤ w'.heap.size)
  (hkeep : ∀ k, k < w.heap.size → (∀ id ∈ ws, ∀ l, ρ id = some l → l.b ≠ k) → w'.heap[k]? = w.heap[k]?) (hc : CRel (upd ρ h.length L) w' L o)
  (hb : w.heap.size ≤ L.b ∨ ∃ k ∈ ws, ∃ lk, ρ k = some lk ∧ lk.b = L.b) : Eff ρ (upd ρ h.length L) w w' h (h1 ++ [o]) ws := by
 have hl : h1.length = h.length := by
  rcases hw with ⟨rfl, _⟩ | ⟨bb, rfl, _⟩ <;> simp
 refine ⟨upd_le L hd.fresh, ?_, e1, e2, e3, e4, hkeep, by simp [hl], ?_, ?_, ?_⟩
 ·intro id l hl'
  unfold upd at hl'
  split at hl'
  ·rename_i e; exact .inr (by simp; omega)
  ·exact .inl hl'
 ·intro id hid hne
  rw [List.getElem?_append_left (by omega)]
  rcases hw with ⟨rfl, _⟩ | ⟨bb, rfl, rfl, _⟩
  ·rfl
  ·rw [List.getElem?_set_ne (by simp at hne; omega)]
 ·intro id hid l o' _ ho'
  rcases hw with ⟨_, rfl⟩ | ⟨bb, rfl, rfl, hbb⟩
  ·simp at hid
  ·simp at hid
   subst hid
   rw [List.getElem?_append_left (by simpa using hbb), List.getElem?_set_self hbb] at ho'
   obtain rfl := Option.some.inj ho'
   trivial
 ·intro id h1' h2'
  simp [hl] at h2'
  obtain rfl : id = h.length := by omega
  refine ⟨L, o, upd_at _ _ _, by rw [List.getElem?_append_right (by omega)]; simp [hl], hc, ?_⟩
  rcases hb with hb | ⟨k, hk, lk, hk1, hk2⟩
  ·exact .inl hb
  ·right
   refine ⟨k, hk, lk, hk1, hk2, ?_⟩
   rcases hw with ⟨_, rfl⟩ | ⟨bb, rfl, rfl, hbb⟩
   ·simp at hk
   ·simp at hk
    subst hk
    rw [List.getElem?_append_left (by simpa using hbb), List.getElem?_set_self hbb]
def appendRun (elem : TypeId) (size sLen sCap n : Nat) (base : Option Addr) (s' : Value) (new : Array Value) (zc : Array Value) (bytes : Nat) : Sem Value := do
 if sLen + n ≤ sCap then
  if let some a := base then storeCells (a.add (sLen * size)) new.toList
  pure (.slice base (sLen + n) sCap)
 else
  let newCap ← choose (.appendCap (sLen + n) sCap elem)
  askRoom (newCap * bytes)
  let old ← Builtin.firstCells size sLen s'
  pure (.slice (some (← newRow elem (old ++ new ++ Builtin.zeroCells zc (newCap - (sLen + n))))) (sLen + n) newCap)
theorem wrN_own {h h' : List O} {b i : Nat} {vs : List Value} (hw : wrN h b i vs = some h') : (∃ o, h[b]? = some o ∧ o.own = true) ∧ h'.length = h.length := by
 unfold wrN at hw
 split at hw
 ·rename_i c e s hc
  split at hw
  ·obtain rfl := Option.some.inj hw
   exact ⟨⟨_, hc, rfl⟩, by simp⟩
  ·cases hw
 ·cases hw
theorem append_core {st st' : St} (hd : st'.h.length ≠ st.h.length → Dom ρ st.h) {elem : TypeId} {size b sLen sCap n : Nat} {base : Option Addr} {s' v : Value} {new new' : List Value} {z : Value} {zero : List Value} (hs : sizeC P elem = some size) (h0 : 0 < size)
  (hz : zero = z.cells.toList) (hzl : zero.length = size)
  (ha : appendCells elem size b base sLen sCap n new st = some (v, st')) (hsl : VRel ρ (.slice base sLen sCap) s') (hnew : LRel ρ new new') (hnl : new.length = n * size)
  (hm : ∀ k ∈ blk (.slice base sLen sCap), ∀ o, st.h[k]? = some o → ∃ L, ρ k = some L ∧ CRel ρ w L o) :
  ∃ (ρ' : RM) (v' : Value) (w' : World) (base' : Option Addr) (sCap' : Nat) (ws : List Nat), s' = .slice base' sLen sCap' ∧ (appendRun elem size sLen sCap' n base' s' new'.toArray z.cells b).run P w = .ok v' w' ∧ Eff ρ ρ' w w' st.h st'.h ws ∧ VRel ρ' v v' ∧
   (∀ k ∈ ws, k ∈ blk (.slice base sLen sCap) ∧ st'.fl ≤ k ∧ ∃ o, st.h[k]? = some o ∧ o.own = true) ∧ st'.fl ≤ st.fl ∧ (0 : Nat) = 0 ∧ (sLen + n ≤ sCap' ∨ ((sLen + n) * b ≤ roomMax ∧ ¬ sLen + n ≤ sCap' ∧ n ≠ 0)) := by
 unfold appendCells at ha
 -- the shape of the slice
 have hshape : ∃ base' sCap', s' = .slice base' sLen sCap' ∧ sLen ≤ sCap' ∧ sCap ≤ sCap' := by
  cases hsl with
  | flat h1 h2 =>
   cases base with
   | none =>
    have : sLen = 0 ∧ sCap = 0 := by cases sLen <;> cases sCap <;> simp [flat] at h1 <;> exact ⟨rfl, rfl⟩
    obtain ⟨rfl, rfl⟩ := this
    exact ⟨none, 0, rfl, Nat.le_refl _, Nat.le_refl _⟩
   | some a =>
    obtain ⟨x, y, sp⟩ := a
    cases sp with
    | none => simp [flat] at h1
    | some sp => simp [isE] at h2
  | empty a => exact ⟨some a, 0, rfl, Nat.le_refl _, Nat.le_refl _⟩
  | slice h1 h2 h3 h4 h5 => exact ⟨_, _, rfl, by omega, h2⟩
 obtain ⟨base', sCap', rfl, hlc, hcc⟩ := hshape
 split at ha
 ·-- nothing is appended
  rename_i hn
  subst hn
  obtain ⟨rfl, rfl⟩ := Prod.mk.inj (Option.some.inj ha)
  have hn0 : new' = [] := by
   have := hnew.1
   simp at hnl
   subst hnl
   simpa using this.symm
  subst hn0
  refine ⟨ρ, .slice base' sLen sCap', w, base', sCap', [], rfl, ?_, Eff.refl ρ w st.h, hsl, by simp, Nat.le_refl _, rfl, .inl (by omega)⟩
  have : sLen + 0 ≤ sCap' := by omega
  cases base' <;> simp [appendRun, this, hlc, Sem.run_bind, storeCells]
 ·rename_i hn
  split at ha
  ·-- there is room
   rename_i hroom
   split at ha
   ·rename_i bb o
    simp only [bind, Option.bind_eq_some_iff, Option.some.injEq, Prod.mk.injEq] at ha
    obtain ⟨h1, hw, rfl, rfl⟩ := ha
    obtain ⟨L, o', c', hL, e1, g1, g2, g3, g4⟩ := hsl.inv_slice
    simp only [Value.slice.injEq] at e1
    obtain ⟨rfl, _, rfl⟩ := e1
    obtain rfl : o' = L.sh + o := by
     rcases g2 with g2 | g2
     ·exact g2
     ·omega
    obtain ⟨w', hr, he⟩ := wrN_ok (P := P) (w := w) hw hL (fun x hx => by
     obtain ⟨L', hL', hc⟩ := hm bb (by simp [blk]) x hx
     obtain rfl : L = L' := Option.some.inj (hL.symm.trans hL')
     exact hc) hnew
    refine ⟨ρ, .slice (some ⟨L.b, L.sh + o, none⟩) (sLen + n) sCap', w', _, _, [bb], rfl, ?_, he, VRel.slice hL g1 (.inl rfl) hroom g4, fun k hk => by simp at hk; subst hk; exact ⟨by simp [blk], Nat.min_le_right _ _, (wrN_own hw).1⟩, Nat.min_le_left _ _, rfl, .inl (by omega)⟩
    have hle : sLen + n ≤ sCap' := by omega
    rw [← Nat.add_assoc] at hr
    simp [appendRun, hle, Sem.run_bind, add_none, hr]
   ·cases ha
  ·-- the abstract run makes a new row
   rename_i hroom
   split at ha
   ·rename_i hbytes'
    obtain ⟨hbytes, hone1⟩ := hbytes'
    simp only [bind, Option.bind_eq_some_iff, Option.some.injEq, Prod.mk.injEq] at ha
    obtain ⟨old, hold, st1, hkill, rfl, rfl⟩ := ha
    obtain ⟨old', ho1, ho2, ho3, _⟩ := readSlice_ok (P := P) (w := w) (ρ := ρ) hold hsl hm
    -- what giving the old row up has done
    have hk : (∃ (bb o : Nat) (L : Loc) (c : List Value) (e : TypeId) (s : Nat), base = some ⟨bb, o, none⟩ ∧ ρ bb = some L ∧ st.h[bb]? = some (.cells c e (some s)) ∧ ((s = 0 ∨ s = size) ∧ e = elem) ∧ CRel ρ w L (.cells c e (some s)) ∧ st1.h = st.h.set bb .dead ∧ st1.fl = min st.fl bb ∧ (0 : Nat) = 0) ∨
      (st1 = st ∧ (base = none ∨ ∃ a, base = some a ∧ a.spot.isSome = true)) := by
     cases base with
     | none => simp [kill] at hkill; exact .inr ⟨hkill.symm, .inl rfl⟩
     | some a =>
      obtain ⟨bb, o, sp⟩ := a
      cases sp with
      | some sp => simp [kill] at hkill; exact .inr ⟨hkill.symm, .inr ⟨_, rfl, rfl⟩⟩
      | none =>
       left
       simp only [kill] at hkill
       split at hkill
       ·rename_i c e s hc
        split at hkill
        ·rename_i hss
         obtain rfl := Option.some.inj hkill
         obtain ⟨L, hL, hcr⟩ := hm bb (by simp [blk]) _ hc
         exact ⟨bb, o, L, c, e, s, rfl, hL, hc, hss, hcr, rfl, rfl, rfl⟩
        ·cases hkill
       ·cases hkill
    have hlen1 : st1.h.length = st.h.length := by
     rcases hk with ⟨bb, o, L, c, e, s, _, _, _, _, _, h1, _⟩ | ⟨rfl, _⟩
     ·rw [h1]; simp
     ·rfl
    have hdd : Dom ρ st.h := hd (by simp [hlen1])
    have hcells : LRel ρ (old ++ new) (old' ++ new') := ho1.append hnew
    have hcl : (old ++ new).length = (sLen + n) * size := by rw [List.length_append, ho2, hnl, Nat.add_mul]
    by_cases hreal : sLen + n ≤ sCap'
    ·-- the machine has room all the same
     rcases hk with ⟨bb, o, L, c, e, s, rfl, hL, hcb, hss, hcr, hh1, hfl1, hcc1⟩ | ⟨rfl, hbase⟩
     ·obtain ⟨L', o', c', hL', e1, g1, g2, g3, g4⟩ := hsl.inv_slice
      obtain rfl : L = L' := Option.some.inj (hL.symm.trans hL')
      simp only [Value.slice.injEq] at e1
      obtain ⟨rfl, _, rfl⟩ := e1
      have hcne : sCap' ≠ sCap := by omega
      obtain ⟨g5, g6⟩ := g4.resolve_left hcne
      obtain ⟨cs, e', fz, k1, k2, k3, _⟩ := hcr
      obtain ⟨rfl, rfl, k4, k5⟩ := k3 s rfl
      have hsz : L.es = size := by omega
      have hcsz : cs.size = L.sz := k5 (by omega)
      rw [hsz] at g6
      have hfit : o' + (sLen + n) * size ≤ cs.size := by
       have := Nat.mul_le_mul_right size hreal
       omega
      have hn1 : new'.length = n * size := by rw [← hnew.1]; exact hnl
      have hone : ∀ v ∈ new', v.oneCell' = true := fun v' hv' => by
       obtain ⟨j, hj⟩ := List.getElem?_of_mem hv'
       have hjl : j < new.length := by rw [hnew.1]; exact (List.getElem?_eq_some_iff.1 hj).1
       exact one1_ok (hnew.2 j _ v' (List.getElem?_eq_getElem hjl) hj) (List.all_eq_true.1 hone1 _ (List.getElem_mem hjl))
      obtain ⟨w', hr, hw⟩ := run_storeCells (P := P) new' (o' + sLen * size) 0 cs w k1 (by rw [hn1]; rw [Nat.add_mul] at hfit; omega) hone
      obtain ⟨hss, rfl⟩ := hss
      have hfit' : o' + sLen * size + new'.length ≤ cs.size := by rw [hn1]; rw [Nat.add_mul] at hfit; omega
      have hbb : bb < st.h.length := (List.getElem?_eq_some_iff.1 hcb).1
      have hcr' : CRel (upd ρ st.h.length ⟨L.b, o', size, cs.size⟩) w' ⟨L.b, o', size, cs.size⟩ (.cells (old ++ new) e' (some size)) := by
       refine ⟨_, _, _, hw.at_, ?_, fun s' hs' => ?_, by simp⟩
       ·have hle := upd_le ⟨L.b, o', size, cs.size⟩ hdd.fresh
        intro i v hv
        show ∃ v', (setA cs (o' + sLen * size + 0) new')[o' + i]? = some v' ∧ _
        rw [Nat.add_zero, setA_get _ _ _ _ hfit']
        by_cases hi : i < old.length
        ·rw [List.getElem?_append_left hi] at hv
         rw [if_neg (by omega)]
         have hs1 : sLen * size ≠ 0 := by omega
         simp only [readSlice, hs1, if_false] at hold
         unfold rdN at hold
         rw [hcb] at hold
         simp only at hold
         split at hold
         ·obtain rfl := Option.some.inj hold
          rw [List.getElem?_take_of_lt (by simp at hi; omega), List.getElem?_drop] at hv
          obtain ⟨v', q1, q2⟩ := k2 _ v hv
          refine ⟨v', ?_, q2.mono hle⟩
          have hsl0 : sCap ≠ 0 := by
           intro h; subst h
           have : sLen = 0 := by omega
           subst this; simp at hs1
          have ho : o' = L.sh + o := g2.resolve_right hsl0
          rw [ho, Nat.add_assoc]
          exact q1
         ·cases hold
        ·rw [List.getElem?_append_right (by omega)] at hv
         obtain ⟨v', q1, q2⟩ := hnew.get hv
         have hil : i - old.length < new'.length := (List.getElem?_eq_some_iff.1 q1).1
         refine ⟨v', ?_, q2.mono hle⟩
         rw [if_pos (by omega)]
         rw [show o' + i - (o' + sLen * size) = i - old.length by omega]
         exact q1
       ·obtain rfl := Option.some.inj hs'
        exact ⟨rfl, rfl, rfl, fun _ => by rw [setA_size]⟩
      have heff := Eff.appended (ρ := ρ) (w := w) (w' := w') (h := st.h) (h1 := st1.h) (ws := [bb]) (L := ⟨L.b, o', size, cs.size⟩) hdd (.inr ⟨bb, hh1, rfl, hbb⟩) hw.os hw.tape hw.output (by rw [hw.size]; exact Nat.le_refl _)
       (fun k hk hne => hw.other k (fun e => hne bb (by simp) L hL e.symm)) hcr' (.inr ⟨bb, by simp, L, hL, rfl⟩)
      refine ⟨_, .slice (some ⟨L.b, o', none⟩) (sLen + n) sCap', w', _, _, [bb], rfl, ?_, heff, ?_, fun k hk => by simp at hk; subst hk; exact ⟨by simp [blk], by rw [hfl1]; exact Nat.min_le_right _ _, _, hcb, rfl⟩, by rw [hfl1]; exact Nat.min_le_left _ _, hcc1, .inl hreal⟩
      ·simp [appendRun, hreal, Sem.run_bind, add_none, hr]
      ·rw [hlen1]
       exact VRel.slice (l := ⟨L.b, o', size, cs.size⟩) (upd_at _ _ _) hreal (.inl rfl) (Nat.le_refl _) (.inr ⟨h0, by show o' + sCap' * size ≤ cs.size; omega⟩)
     ·exfalso
      rcases hbase with rfl | ⟨a, rfl, hsp⟩
      ·cases hsl with
       | flat h1 h2 =>
        have : sLen = 0 ∧ sCap = 0 := by cases sLen <;> cases sCap <;> simp [flat] at h1 <;> exact ⟨rfl, rfl⟩
        omega
      ·obtain ⟨x, y, sp⟩ := a
       cases sp with
       | none => simp at hsp
       | some sp =>
        cases hsl with
        | flat h1 h2 => simp [isE] at h2
        | empty a => omega
    ·-- the machine makes a new row, too
     obtain ⟨old2, p1, p2, p3, _⟩ := readSlice_ok (P := P) (w := { w with drawn := w.drawn + 1 }) (ρ := ρ) hold hsl (fun k hk o ho => by
      obtain ⟨L, hL, hc⟩ := hm k hk o ho
      exact ⟨L, hL, hc.same rfl⟩)
     have hcells2 : LRel ρ (old ++ new) (old2 ++ new') := p1.append hnew
     have hzs : z.cells.size = size := by rw [← hzl, hz]; simp
     obtain ⟨newCap, hge, hrun⟩ : ∃ newCap, sLen + n ≤ newCap ∧ (choose (.appendCap (sLen + n) sCap' elem)).run P w = .ok newCap { w with drawn := w.drawn + 1 } :=
      ⟨(Question.appendCap (sLen + n) sCap' elem).cut (w.tape w.drawn (.appendCap (sLen + n) sCap' elem)), by simp [Question.cut], by simp [Question.forced]⟩
     let row : Array Value := old2.toArray ++ new'.toArray ++ Builtin.zeroCells z.cells (newCap - (sLen + n))
     have hrl : row.size = newCap * size := by
      have q1 : (old2 ++ new').length = (sLen + n) * size := by rw [← hcells2.1]; exact hcl
      simp only [List.length_append] at q1
      simp only [row, Array.size_append, List.size_toArray, Builtin.zeroCells, Array.size_map, Array.size_range, hzs]
      rw [q1, ← Nat.add_mul]
      congr 1
      omega
     have hws : ∃ ws : List Nat, ((st1.h = st.h ∧ ws = []) ∨ ∃ bb, st1.h = st.h.set bb .dead ∧ ws = [bb] ∧ bb < st.h.length) ∧ (∀ k ∈ ws, k ∈ blk (.slice base sLen sCap) ∧ st1.fl ≤ k ∧ ∃ o, st.h[k]? = some o ∧ o.own = true) ∧ st1.fl ≤ st.fl ∧ (0 : Nat) = 0 := by
      rcases hk with ⟨bb, o, L, c, e, s, rfl, hL, hcb, hss, hcr, hh1, hfl1, hcc1⟩ | ⟨rfl, hbase⟩
      ·exact ⟨[bb], .inr ⟨bb, hh1, rfl, (List.getElem?_eq_some_iff.1 hcb).1⟩, fun k hk => by simp at hk; subst hk; exact ⟨by simp [blk], by rw [hfl1]; exact Nat.min_le_right _ _, _, hcb, rfl⟩, by rw [hfl1]; exact Nat.min_le_left _ _, hcc1⟩
      ·exact ⟨[], .inl ⟨rfl, rfl⟩, by simp, Nat.le_refl _, rfl⟩
     obtain ⟨ws, hws, hfl, hfl2, hcc2⟩ := hws
     have hle := upd_le ⟨w.heap.size, 0, size, row.size⟩ hdd.fresh
     have hcr' : CRel (upd ρ st.h.length ⟨w.heap.size, 0, size, row.size⟩) { w with heap := w.heap.push (.cells row elem), drawn := w.drawn + 1 } ⟨w.heap.size, 0, size, row.size⟩ (.cells (old ++ new) elem (some size)) := by
      refine ⟨row, elem, (0, 0), wrote_new w _ _, ?_, fun s' hs' => ?_, by simp⟩
      ·intro i v hv
       obtain ⟨v', q1, q2⟩ := hcells2.get hv
       refine ⟨v', ?_, q2.mono hle⟩
       have hil : i < (old2 ++ new').length := (List.getElem?_eq_some_iff.1 q1).1
       show row[0 + i]? = some v'
       rw [Nat.zero_add]
       simp only [row]
       rw [Array.getElem?_append_left (by simpa using hil)]
       simpa using q1
      ·obtain rfl := Option.some.inj hs'
       exact ⟨rfl, rfl, rfl, fun _ => rfl⟩
     have heff := Eff.appended (ρ := ρ) (w := w) (w' := { w with heap := w.heap.push (.cells row elem), drawn := w.drawn + 1 }) (h := st.h) (h1 := st1.h) (ws := ws) (L := ⟨w.heap.size, 0, size, row.size⟩) hdd hws rfl rfl rfl (by simp)
      (fun k hk _ => heap_push_lt w _ k hk) hcr' (.inl (Nat.le_refl _))
     refine ⟨_, .slice (some ⟨w.heap.size, 0, none⟩) (sLen + n) newCap, _, _, _, ws, rfl, ?_, heff, ?_, hfl, hfl2, hcc2, .inr ⟨hbytes, hreal, hn⟩⟩
     ·simp only [appendRun, hreal, if_false, Sem.run_bind, hrun, Result.andThen_ok, run_askRoom, p3, run_newRow, Sem.run_pure]
      rfl
     ·rw [hlen1]
      exact VRel.slice (l := ⟨w.heap.size, 0, size, row.size⟩) (upd_at _ _ _) hge (.inl rfl) (Nat.le_refl _) (.inr ⟨h0, by show 0 + newCap * size ≤ row.size; rw [hrl]; omega⟩)
   ·cases ha
end Go.Ai
namespace Go.Ai
open Go.RowKit
variable {P : Program} {ρ : RM} {w : World}
theorem zeroValue_any {t : TypeId} {z : Value} (h : (zeroValue t).run P w = .ok z w) (w' : World) : (zeroValue t).run P w' = .ok z w' := by
 unfold zeroValue typeInfo at *
 simp only [Sem.run_bind, run_program, Result.andThen_ok] at *
 cases hi : P.info? t with
 | none => simp [hi] at h
 | some i =>
  cases hz : i.zero with
  | none => simp [hi, hz] at h
  | some z' => simp [hi, hz] at h ⊢; exact h
theorem run_append_slices {st xt elem ty : TypeId} {size b sLen sCap n : Nat} {base : Option Addr} {x' z : Value} {xe : TypeId} {new' : Array Value} (hu : P.underlying st = some (.slice elem)) (hxt : P.underlying xt = some (.slice xe))
  (hs : sizeC P elem = some size) (hb : bytesC P elem = some b) (h0 : 0 < b) (hz : (zeroValue elem).run P w = .ok z w)
  (hlen : Builtin.lenOf x' = (pure n : Sem Nat)) (hc0 : (Builtin.firstCells size n x').run P w = .ok new' w) (hc1 : (Builtin.firstCells size n x').run P w.drew = .ok new' w.drew)
  (hold : ¬ sLen + n ≤ sCap → ∃ old' : Array Value, (Builtin.firstCells size sLen (.slice base sLen sCap)).run P w.drew = .ok old' w.drew)
  (hbound : sLen + n ≤ sCap ∨ ((sLen + n) * b ≤ roomMax ∧ ¬ sLen + n ≤ sCap ∧ n ≠ 0)) :
  (Builtin.append_ #[st, xt] ty #[.slice base sLen sCap, x']).run P w = (appendRun elem size sLen sCap n base (.slice base sLen sCap) new' z.cells b).run P w := by
 obtain ⟨i, hi, hib⟩ := bytes_run hb
 by_cases hle : sLen + n ≤ sCap
 ·simp [Builtin.append_, appendRun, Sem.run_bind, run_underlying hu, run_underlying hxt, run_size hs, hlen, hle, hc0]
  cases base <;> rfl
 ·obtain ⟨h1, _, h3⟩ := hbound.resolve_left hle
  obtain ⟨old', hold⟩ := hold hle
  have h2 : ¬ Builtin.nextslicecap (sLen + n) sCap * b > 2 ^ 48 := by
   have := Nat.mul_le_mul_right b (nextslicecap_le (need := sLen + n) (c := sCap) (by omega))
   rw [Nat.mul_assoc] at this
   simp only [roomMax] at h1
   omega
  have h4 : ¬ b = 0 := by omega
  have hz1 := zeroValue_any hz w.drew
  simp [Builtin.append_, appendRun, Sem.run_bind, run_underlying hu, run_underlying hxt, run_size hs, hlen, hle, typeInfo, hi, hib, h2, h4, Question.forced, hc1, hz1, hold]
theorem run_append_zeros {st xt elem ty : TypeId} {size b sLen sCap n : Nat} {base : Option Addr} {z : Value} {q : IntKind} (hu : P.underlying st = some (.slice elem)) (hxt : P.underlying xt = some (.int q))
  (hs : sizeC P elem = some size) (hb : bytesC P elem = some b) (h0 : 0 < b) (hz : (zeroValue elem).run P w = .ok z w) (hzs : z.cells.size = size) (hnb : n * b ≤ 2 ^ 47)
  (hold : ¬ sLen + n ≤ sCap → ∃ old' : Array Value, (Builtin.firstCells size sLen (.slice base sLen sCap)).run P w.drew = .ok old' w.drew)
  (hbound : sLen + n ≤ sCap ∨ ((sLen + n) * b ≤ roomMax ∧ ¬ sLen + n ≤ sCap ∧ n ≠ 0)) :
  (Builtin.append_ #[st, xt] ty #[.slice base sLen sCap, .int .i64 n]).run P w = (appendRun elem size sLen sCap n base (.slice base sLen sCap) (Builtin.zeroCells z.cells n) z.cells b).run P w := by
 obtain ⟨i, hi, hib⟩ := bytes_run hb
 have hn : n ≤ 2 ^ 47 := Nat.le_trans (Nat.le_mul_of_pos_right n h0) hnb
 have hwr : IntKind.i64.wrap (n : Int) = n := IntWalk.i64_in _ (by omega)
 have hb48 : ¬ (n : Int) * (b : Int) > 2 ^ 48 := by
  have : (n : Int) * (b : Int) = ((n * b : Nat) : Int) := by simp
  rw [this]
  omega
 have hb48' : ¬ (281474976710656 : Int) < (n : Int) * (b : Int) := hb48
 have hneg : ¬ (n : Int) < 0 := by omega
 have hzl : ∀ w' : World, (zeroValue elem).run P w' = .ok z w' := zeroValue_any hz
 have hzc : n * size = 0 → Builtin.zeroCells z.cells n = #[] := fun h => by
  apply Array.size_eq_zero_iff.1
  simp [Builtin.zeroCells, hzs, h]
 by_cases hle : sLen + n ≤ sCap
 ·by_cases hns : n * size = 0
  ·have hns' : n = 0 ∨ size = 0 := Nat.mul_eq_zero.1 hns
   simp [Builtin.append_, appendRun, Sem.run_bind, run_underlying hu, run_underlying hxt, run_size hs, hle, asInt, asIntOf, hwr, typeInfo, hi, hib, hb48', hneg, hns, hns', hzc hns]
   cases base <;> rfl
  ·have hns' : ¬ (n = 0 ∨ size = 0) := fun h => hns (Nat.mul_eq_zero.2 h)
   simp [Builtin.append_, appendRun, Sem.run_bind, run_underlying hu, run_underlying hxt, run_size hs, hle, asInt, asIntOf, hwr, typeInfo, hi, hib, hb48', hneg, hns, hns', hzl]
   cases base <;> rfl
 ·obtain ⟨h1, _, h3⟩ := hbound.resolve_left hle
  obtain ⟨old', hold⟩ := hold hle
  have h2 : ¬ Builtin.nextslicecap (sLen + n) sCap * b > 2 ^ 48 := by
   have := Nat.mul_le_mul_right b (nextslicecap_le (need := sLen + n) (c := sCap) (by omega))
   rw [Nat.mul_assoc] at this
   simp only [roomMax] at h1
   omega
  have h4 : ¬ b = 0 := by omega
  have h5 : ¬ ((sLen + n : Nat) : Int) > IntKind.i64.max := by
   have : (sLen + n) * 1 ≤ (sLen + n) * b := Nat.mul_le_mul_left _ h0
   simp only [roomMax] at h1
   have : IntKind.i64.max = 9223372036854775807 := by decide
   rw [this]
   omega
  have h5' : ¬ (9223372036854775807 : Int) < (sLen : Int) + (n : Int) := by
   have e : IntKind.i64.max = 9223372036854775807 := by decide
   rw [e] at h5
   omega
  by_cases hns : n * size = 0
  ·have hns' : n = 0 ∨ size = 0 := Nat.mul_eq_zero.1 hns
   simp [Builtin.append_, appendRun, Sem.run_bind, run_underlying hu, run_underlying hxt, run_size hs, hle, asInt, asIntOf, hwr, typeInfo, hi, hib, hb48', hneg, hns, hns', hzl, hzc hns, h2, h4, h5', Question.forced, hold]
  ·have hns' : ¬ (n = 0 ∨ size = 0) := fun h => hns (Nat.mul_eq_zero.2 h)
   simp [Builtin.append_, appendRun, Sem.run_bind, run_underlying hu, run_underlying hxt, run_size hs, hle, asInt, asIntOf, hwr, typeInfo, hi, hib, hb48', hneg, hns, hns', hzl, h2, h4, h5', Question.forced, hold]
end Go.Ai
