/- The abstract machine, third part: the operations, their types resolved; what the light ones yield (they look at the heap and leave it as it is), what the heavy ones do. -/
import Derived.Test.YtbnfbpiahcjhkaaGreatAm2
namespace Go.Am
open Go

inductive Opnd where
  | t (n : Nat)
  | c (v : Value)

def Opnd.ev (env : List Value) : Opnd → Value
  | .t n => env.getD n undef
  | .c v => v

/-- How the keys of a map are held against each other: one cell (a number, a text, a bool), or so many cells of this kind. -/
inductive PK where
  | i | s | b
  deriving DecidableEq, Repr

inductive KeyKind where
  | prim (k : PK)
  | flat (ks : List PK)
  deriving DecidableEq, Repr

/-- What may be held against nil. -/
inductive NK where
  | ptr | slice | map | func
  deriving DecidableEq, Repr

inductive ACallee where
  | val (x : Opnd)
  | inv (recv : Opnd) (name : String)

inductive AOp where
  | mv (x : Opnd)
  | pick (c a b : Opnd)
  | build (zero : List Value) (parts : List (Nat × Nat × Opnd))
  | load1 (a : Opnd)
  | loadN (n : Nat) (a : Opnd)
  | nilCheck (x : Opnd)
  | bin (op : BinOp) (x y : Opnd)
  | eqB (neg : Bool) (x y : Opnd)
  | eqP (k : NK) (neg : Bool) (x y : Opnd)
  | eqI (neg con : Bool) (x y : Opnd)
  | eqS (neg : Bool) (ks : List PK) (x y : Opnd)
  | un (op : UnOp) (x : Opnd)
  | convI (k : IntKind) (x : Opnd)
  | convBS (x : Opnd)
  | mkFunc (fn : Fn) (first captured : List Opnd)
  | mkIface (t : TypeId) (x : Opnd)
  | sliceStr (x : Opnd) (lo hi : Option Opnd)
  | sliceSl (size : Nat) (x : Opnd) (lo hi mx : Option Opnd)
  | sliceArr (n size : Nat) (x : Opnd) (lo hi mx : Option Opnd)
  | addOff (off : Nat) (x : Opnd)
  | part (agg : Option Nat) (off : Nat) (x : Opnd)
  | idxAddrArr (len size : Nat) (x i : Opnd)
  | idxAddrSl (size : Nat) (x i : Opnd)
  | idxArr (len size : Nat) (agg : Bool) (x i : Opnd)
  | idxStr (x i : Opnd)
  | lookup (zero : Value) (ok : Bool) (kk : KeyKind) (m k : Opnd)
  | lenS (x : Opnd)
  | lenT (x : Opnd)
  | lenM (x : Opnd)
  | lenC (n : Nat) (x : Opnd)
  | capS (x : Opnd)
  | mxI (x y : Opnd)
  | mnI (x y : Opnd)
  | extract (i : Nat) (x : Opnd)
  | tassert (t : TypeId) (zero : Value) (ok : Bool) (x : Opnd)
  | entry (it : Opnd)
  -- heavy
  | alloc (zero : List Value)
  | box (x : Opnd)
  | mkSlice (len : Nat) (init : List Value) (parts : List (Nat × Nat × Opnd))
  | store (n : Nat) (a x : Opnd)
  | mkMap
  | makeSl (size bytes : Nat) (zero : List Value) (l c : Opnd)
  | append (size bytes : Nat) (s x : Opnd)
  | appendZ (size bytes : Nat) (zero : List Value) (s x : Opnd)
  | copy (size : Nat) (d s : Opnd)
  | delete (kk : KeyKind) (m k : Opnd)
  | clearM (m : Opnd)
  | clearS (zero : List Value) (s : Opnd)
  | mapSet (kk : KeyKind) (m k v : Opnd)
  | range (m : Opnd)
  | convSB (x : Opnd)
  | next (it : Opnd)
  | call (c : ACallee) (args : List Opnd)
  | panic (x : Opnd)

/-! ### Values -/

/-- One cell held against another one. -/
def primEq : PK → Value → Value → Option Bool
  | .i, .int k a, .int k' b => if k = k' then some (a == b) else none
  | .b, .bool a, .bool b => some (a == b)
  | .s, .string a, .string b => some (a == b)
  | _, _, _ => none

def primsEq : List PK → List Value → List Value → Option Bool
  | [], [], [] => some true
  | k :: ks, x :: xs, y :: ys => match primEq k x y with
    | some true => primsEq ks xs ys
    | some false => (primsEq ks xs ys).map fun _ => false
    | none => none
  | _, _, _ => none

def keyEq : KeyKind → Value → Value → Option Bool
  | .prim k, x, y => primEq k x y
  | .flat ks, .agg xs, .agg ys => primsEq ks xs.toList ys.toList
  | .flat _, _, _ => none

def keyFind (kk : KeyKind) (k : Value) : List MapEntry → Nat → Option (Option (Nat × Value))
  | [], _ => some none
  | e :: es, i => match keyEq kk k e.key with
    | some true => some (some (i, e.val))
    | some false => keyFind kk k es (i + 1)
    | none => none

def abin : BinOp → Value → Value → Option Value
  | .shl, .int k a, .int _ b => if b < 0 then none else some (.int k (k.wrap (a * 2 ^ (min b.toNat k.bits))))
  | .shr, .int k a, .int _ b => if b < 0 then none else some (.int k (a.fdiv (2 ^ (min b.toNat k.bits))))
  | op, .int k a, .int k' b => if k ≠ k' then none else match op with
    | .add => some (.int k (k.wrap (a + b)))
    | .sub => some (.int k (k.wrap (a - b)))
    | .mul => some (.int k (k.wrap (a * b)))
    | .quo => if b = 0 then none else some (.int k (k.wrap (a.tdiv b)))
    | .rem => if b = 0 then none else some (.int k (a.tmod b))
    | .and => some (.int k (k.wrap (BitVec.ofInt k.bits a &&& BitVec.ofInt k.bits b).toNat))
    | .or => some (.int k (k.wrap (BitVec.ofInt k.bits a ||| BitVec.ofInt k.bits b).toNat))
    | .xor => some (.int k (k.wrap (BitVec.ofInt k.bits a ^^^ BitVec.ofInt k.bits b).toNat))
    | .andNot => some (.int k (k.wrap (BitVec.ofInt k.bits a &&& ~~~ BitVec.ofInt k.bits b).toNat))
    | .eql => some (.bool (a == b))
    | .neq => some (.bool (a != b))
    | .lss => some (.bool (decide (a < b)))
    | .leq => some (.bool (decide (a ≤ b)))
    | .gtr => some (.bool (decide (a > b)))
    | .geq => some (.bool (decide (a ≥ b)))
    | _ => none
  | op, .string a, .string b => match op with
    | .add => if ((a.size + b.size : Nat) : Int) > IntKind.i64.max then none else some (.string (a ++ b))
    | .eql => some (.bool (a.toList == b.toList))
    | .neq => some (.bool !(a.toList == b.toList))
    | .lss => some (.bool (Op.bytesLess a.toList b.toList))
    | .leq => some (.bool (Op.bytesLess a.toList b.toList || a.toList == b.toList))
    | .gtr => some (.bool !(Op.bytesLess a.toList b.toList || a.toList == b.toList))
    | .geq => some (.bool !(Op.bytesLess a.toList b.toList))
    | _ => none
  | _, _, _ => none

def aun : UnOp → Value → Option Value
  | .neg, .int k n => some (.int k (k.wrap (0 - n)))
  | .xor, .int k n => some (.int k (k.wrap (BitVec.ofInt k.bits (if k.signed then -1 else k.max) ^^^ BitVec.ofInt k.bits n).toNat))
  | .not, .bool b => some (.bool !b)
  | _, _ => none

/-- Whether two values, one of which is nil, are the same. -/
def nilEq : NK → Value → Value → Option Bool
  | .ptr, .pointer none, .pointer b => some b.isNone
  | .ptr, .pointer (some _), .pointer none => some false
  | .slice, .slice none _ _, .slice b _ _ => some b.isNone
  | .slice, .slice (some _) _ _, .slice none _ _ => some false
  | .map, .map none, .map b => some b.isNone
  | .map, .map (some _), .map none => some false
  | .func, .nilFunc, .nilFunc => some true
  | .func, .nilFunc, .func .. => some false
  | .func, .func .., .nilFunc => some false
  | _, _, _ => none

/-- Interfaces: nil against one that is none. -/
def ifaceEq (con : Bool) : Value → Value → Option Bool
  | .nilIface, .nilIface => if con then some true else none
  | .nilIface, .iface _ _ => some false
  | .iface _ _, .nilIface => some false
  | .iface t x, .iface u y => if t ≠ u then some false else none
  | _, _ => none

def abound (v : Value) (y : Nat) : Option Nat :=
  match v with
  | .int _ i => if 0 ≤ i ∧ i ≤ y then some i.toNat else none
  | _ => none

def abounds (len cap : Nat) (lo hi mx : Option Value) : Option (Nat × Nat × Nat) :=
  match (match mx with | some v => abound v cap | none => some cap) with
  | none => none
  | some m =>
    match (match hi with | some v => abound v m | none => if mx.isSome then none else some len) with
    | none => none
    | some h =>
      match (match lo with | some v => abound v h | none => some 0) with
      | none => none
      | some l => some (l, h, m)

/-- An empty slice that is not nil, at a place that is not told. -/
def emptySl : Value := .slice (some ⟨0, 0, some 0⟩) 0 0

inductive Room where
  | exact
  | opn (s : Nat)
  | lost

/-- What is known of a slice's room. -/
def AHeap.room (h : AHeap) (a : Addr) (cap : Nat) : Room :=
  match h.get a.block with
  | some (.cells c (.grown s)) => if a.off + cap * s = c.length then .opn s else .exact
  | some (.cells _ _) => .exact
  | _ => .lost

def AHeap.load1 (h : AHeap) (a : Addr) : Option Value :=
  match h.get a.block with
  | some (.cells c _) => c[a.off]?
  | _ => none

def AHeap.loadN (h : AHeap) (a : Addr) (n : Nat) : Option (List Value) :=
  match h.get a.block with
  | some (.cells c _) => if a.off + n ≤ c.length then some ((c.drop a.off).take n) else none
  | _ => none

def isJunk : Value → Bool
  | .complex .. => true
  | _ => false

def fillA (cells : List Value) : List (Nat × Nat × Value) → Option (List Value)
  | [] => some cells
  | (off, size, v) :: rest =>
    if v.cells.size = size ∧ off + size ≤ cells.length ∧ isJunk v = false then fillA (cells.take off ++ v.cells.toList ++ cells.drop (off + size)) rest else none

def partA (agg : Option Nat) (off : Nat) (cs : List Value) : Option Value :=
  match agg with
  | some n => if off + n ≤ cs.length then some (.agg ((cs.drop off).take n).toArray) else none
  | none => cs[off]?

def asBytes : List Value → Option (List UInt8)
  | [] => some []
  | .int .u8 n :: l => (asBytes l).map (UInt8.ofNat n.toNat :: ·)
  | _ => none

def sliceVal (h : AHeap) (size : Nat) (a : Option Addr) (len cap : Nat) (lo hi mx : Option Value) : Option Value :=
  match abounds len cap lo hi mx with
  | none => none
  | some (l, hh, m) =>
    match a with
    | none => some (.slice none (hh - l) (m - l))
    | some a =>
      if a.spot.isSome then (if mx.isNone then some emptySl else none)
      else match h.room a cap with
        | .exact => some (.slice (some (if m = l then a else a.add (l * size))) (hh - l) (m - l))
        | .opn s => if mx.isSome then some (.slice (some (if m = l then a else a.add (l * size))) (hh - l) (m - l))
          else if s = size ∧ hh ≤ m then (if m = l then some emptySl else some (.slice (some (a.add (l * size))) (hh - l) (m - l)))
          else none
        | .lost => none

def lookupVal (zero : Value) (ok : Bool) (kk : KeyKind) (es : List MapEntry) (k : Value) : Option Value :=
  if keyEq kk k k = none then none else
  match keyFind kk k es 0 with
  | some (some (_, v)) => some (if ok then .tuple #[v, .bool true] else v)
  | some none => some (if ok then .tuple #[zero, .bool false] else zero)
  | none => none

def AOp.light : AOp → Bool
  | .mv _ | .pick .. | .build .. | .load1 _ | .loadN .. | .nilCheck _ | .bin .. | .eqB .. | .eqP .. | .eqI .. | .eqS .. | .un .. | .convI .. | .convBS _ | .mkFunc .. | .mkIface .. | .sliceStr .. | .sliceSl ..
  | .sliceArr .. | .addOff .. | .part .. | .idxAddrArr .. | .idxAddrSl .. | .idxArr .. | .idxStr .. | .lookup .. | .lenS _ | .lenT _ | .lenM _ | .lenC .. | .capS _ | .mxI .. | .mnI .. | .extract .. | .tassert .. | .entry _ => true
  | _ => false

/-- What a light operation yields. -/
def lightVal (op : AOp) (env : List Value) (h : AHeap) : Option Value :=
  match op with
  | .mv x => some (x.ev env)
  | .pick c a b => match c.ev env with
    | .bool t => some (if t then a.ev env else b.ev env)
    | _ => none
  | .build zero parts => (fillA zero (parts.map fun (o, n, x) => (o, n, x.ev env))).map fun cs => .agg cs.toArray
  | .load1 a => match a.ev env with
    | .pointer (some p) => h.load1 p
    | _ => none
  | .loadN n a => match a.ev env with
    | .pointer (some p) => (h.loadN p n).map fun cs => .agg cs.toArray
    | _ => none
  | .nilCheck x => match x.ev env with
    | .pointer (some p) => some (.pointer (some p))
    | .iface t v => some (.iface t v)
    | .func (.func f) a b => some (.func (.func f) a b)
    | .slice a l c => some (.slice a l c)
    | .map m => some (.map m)
    | _ => none
  | .bin op x y => abin op (x.ev env) (y.ev env)
  | .eqB neg x y => match x.ev env, y.ev env with
    | .bool a, .bool b => some (.bool (if neg then !(a == b) else a == b))
    | _, _ => none
  | .eqP k neg x y => (nilEq k (x.ev env) (y.ev env)).map fun b => .bool (if neg then !b else b)
  | .eqI neg con x y => (ifaceEq con (x.ev env) (y.ev env)).map fun b => .bool (if neg then !b else b)
  | .eqS neg ks x y => match x.ev env, y.ev env with
    | .agg a, .agg b => (primsEq ks a.toList b.toList).map fun b => .bool (if neg then !b else b)
    | _, _ => none
  | .un op x => aun op (x.ev env)
  | .convI k x => match x.ev env with
    | .int _ n => some (.int k (k.wrap n))
    | _ => none
  | .convBS x => match x.ev env with
    | .slice none _ _ => some (.string .empty)
    | .slice (some a) len _ => if a.spot.isSome then some (.string .empty) else match h.loadN a len with
      | some cs => (asBytes cs).map fun l => .string ⟨l.toArray⟩
      | none => none
    | _ => none
  | .mkFunc fn first captured => some (.func fn (first.map (·.ev env)).toArray (captured.map (·.ev env)).toArray)
  | .mkIface t x => some (.iface t (x.ev env))
  | .sliceStr x lo hi => match x.ev env with
    | .string s => match abounds s.size s.size (lo.map (·.ev env)) (hi.map (·.ev env)) none with
      | some (l, hh, _) => some (.string (s.extract l hh))
      | none => none
    | _ => none
  | .sliceSl size x lo hi mx => match x.ev env with
    | .slice a len cap => sliceVal h size a len cap (lo.map (·.ev env)) (hi.map (·.ev env)) (mx.map (·.ev env))
    | _ => none
  | .sliceArr n size x lo hi mx => match x.ev env with
    | .pointer (some a) => match abounds n n (lo.map (·.ev env)) (hi.map (·.ev env)) (mx.map (·.ev env)) with
      | some (l, hh, m) => some (.slice (some (if m = l then a else a.add (l * size))) (hh - l) (m - l))
      | none => none
    | _ => none
  | .addOff off x => match x.ev env with
    | .pointer (some a) => some (.pointer (some (a.add off)))
    | _ => none
  | .part agg off x => match x.ev env with
    | .agg cs => partA agg off cs.toList
    | _ => none
  | .idxAddrArr len size x i => match x.ev env, i.ev env with
    | .pointer (some a), .int _ n => if 0 ≤ n ∧ n < len then some (.pointer (some (a.add (n.toNat * size)))) else none
    | _, _ => none
  | .idxAddrSl size x i => match x.ev env, i.ev env with
    | .slice (some a) len _, .int _ n => if 0 ≤ n ∧ n < len then some (.pointer (some (a.add (n.toNat * size)))) else none
    | _, _ => none
  | .idxArr len size agg x i => match x.ev env, i.ev env with
    | .agg cs, .int _ n => if 0 ≤ n ∧ n < len then partA (if agg then some size else none) (n.toNat * size) cs.toList else none
    | _, _ => none
  | .idxStr x i => match x.ev env, i.ev env with
    | .string s, .int _ n => if 0 ≤ n then (s[n.toNat]?).map fun b => .int .u8 b.toNat else none
    | _, _ => none
  | .lookup zero ok kk m k => match m.ev env with
    | .map none => lookupVal zero ok kk [] (k.ev env)
    | .map (some r) => match h.get r with
      | some (.map es _ _) => lookupVal zero ok kk es (k.ev env)
      | _ => none
    | _ => none
  | .lenS x => match x.ev env with
    | .slice _ n _ => some (goInt n)
    | _ => none
  | .lenT x => match x.ev env with
    | .string s => some (goInt s.size)
    | _ => none
  | .lenM x => match x.ev env with
    | .map none => some (goInt 0)
    | .map (some r) => match h.get r with
      | some (.map es _ _) => some (goInt es.length)
      | _ => none
    | _ => none
  | .lenC n _ => some (goInt n)
  | .capS x => match x.ev env with
    | .slice none _ c => some (goInt c)
    | .slice (some a) _ c => if a.spot.isSome then none else match h.room a c with
      | .exact => some (goInt c)
      | _ => none
    | _ => none
  | .mxI x y => match x.ev env, y.ev env with
    | .int k a, .int _ b => some (.int k (if b > a then b else a))
    | _, _ => none
  | .mnI x y => match x.ev env, y.ev env with
    | .int k a, .int _ b => some (.int k (if b < a then b else a))
    | _, _ => none
  | .extract i x => match x.ev env with
    | .tuple vs => vs[i]?
    | _ => none
  | .tassert t zero ok x => match x.ev env with
    | .iface u v => if u = t then some (if ok then .tuple #[v, .bool true] else v) else if ok then some (.tuple #[zero, .bool false]) else none
    | .nilIface => if ok then some (.tuple #[zero, .bool false]) else none
    | _ => none
  | .entry it => match it.ev env with
    | .pointer (some a) => if a.off = 0 then match h.get a.block with
      | some (.mapIter (some m) _ seen stepped) => match seen.getLast?, h.get m with
        | some stamp, some (.map es clock _) => if clock ≠ stepped then none else match es.find? (·.born == stamp) with
          | some e => some (.tuple #[e.key, e.val])
          | none => none
        | _, _ => none
      | _ => none else none
    | _ => none
  | _ => none

/-! ### Heavy operations -/

def AHeap.storeN (h : AHeap) (a : Addr) (vs : List Value) : Option AHeap :=
  if vs.isEmpty then some h else
  match h.get a.block with
  | some (.cells c k) => if k ≠ .ro ∧ vs.all oneCell ∧ a.off + vs.length ≤ c.length then some (h.set a.block (.cells (c.take a.off ++ vs ++ c.drop (a.off + vs.length)) k)) else none
  | _ => none

/-- The cells of the elements that are appended, or copied: so many elements, of so many cells each. -/
def AHeap.elems (h : AHeap) (size n : Nat) : Value → Option (List Value)
  | .slice (some a) _ _ => if n * size = 0 then some [] else if a.spot.isSome then none else h.loadN a (n * size)
  | .slice none _ _ => some []
  | .string s => some ((s.data.toList.take n).map fun b => .int .u8 b.toNat)
  | _ => none

def lenOfA : Value → Option Nat
  | .slice _ n _ => some n
  | .string s => some s.size
  | _ => none

/-- The most bytes that an append or a make may come to here. -/
def mostBytes : Nat := 2 ^ 44

def appendWith (h : AHeap) (size bytes : Nat) (s : Value) (n : Nat) (new : List Value) : Option (Value × AHeap) :=
  match s with
  | .slice base len cap =>
    if new.length ≠ n * size ∨ size = 0 ∨ bytes = 0 then none
    else if len + n ≤ cap then
      match base with
      | none => if n = 0 then some (.slice none (len + n) cap, h) else none
      | some a => if a.spot.isSome then (if n = 0 then some (s, h) else none)
        else (h.storeN (a.add (len * size)) new).map fun h' => (.slice (some a) (len + n) cap, h')
    else if (len + n) * bytes > mostBytes ∨ !(new.all oneCell) then none
    else match base with
      | none => if len = 0 then some (.slice (some ⟨h.next, 0, none⟩) n n, h.push (.cells new (.grown size))) else none
      | some a => if a.spot.isSome then none else
        match h.loadN a (len * size) with
        | none => none
        | some old => match h.room a cap with
          | .exact => some (.slice (some ⟨h.next, 0, none⟩) (len + n) (len + n), h.push (.cells (old ++ new) (.grown size)))
          | .opn st => if st = size then some (.slice (some ⟨h.next, 0, none⟩) (len + n) (len + n), (h.kill a.block).push (.cells (old ++ new) (.grown size))) else none
          | .lost => none
  | _ => none

def heavyVal (op : AOp) (env : List Value) (h : AHeap) : Option (Value × AHeap) :=
  match op with
  | .alloc zero => some (.pointer (some ⟨h.next, 0, none⟩), h.push (.cells zero .own))
  | .box x => if isJunk (x.ev env) = false then some (.pointer (some ⟨h.next, 0, none⟩), h.push (.cells (x.ev env).cells.toList .own)) else none
  | .mkSlice len init parts => (fillA init (parts.map fun (o, n, x) => (o, n, x.ev env))).map fun cs => (.slice (some ⟨h.next, 0, none⟩) len len, h.push (.cells cs .own))
  | .store n a x => match a.ev env with
    | .pointer (some p) => if (x.ev env).cells.size = n ∧ isJunk (x.ev env) = false then (h.storeN p (x.ev env).cells.toList).map fun h' => (undef, h') else none
    | _ => none
  | .mkMap => some (.map (some h.next), h.push (.map [] 0 false))
  | .makeSl size bytes zero l c => match l.ev env, c.ev env with
    | .int _ l, .int _ c => if 0 ≤ l ∧ l ≤ c ∧ c * bytes ≤ mostBytes ∧ c ≤ mostBytes ∧ zero.length = size then
        some (.slice (some ⟨h.next, 0, none⟩) l.toNat c.toNat, h.push (.cells (List.replicate c.toNat zero).flatten .own)) else none
    | _, _ => none
  | .append size bytes s x => match lenOfA (x.ev env) with
    | none => none
    | some n => match h.elems size n (x.ev env) with
      | none => none
      | some new => appendWith h size bytes (s.ev env) n new
  | .appendZ size bytes zero s x => match x.ev env with
    | .int .i64 n => if 0 ≤ n ∧ n * bytes ≤ mostBytes ∧ n ≤ mostBytes ∧ zero.length = size then appendWith h size bytes (s.ev env) n.toNat (List.replicate n.toNat zero).flatten else none
    | _ => none
  | .copy size d s => match d.ev env, lenOfA (s.ev env) with
    | .slice base dl _, some sl => match h.elems size (Nat.min sl dl) (s.ev env) with
      | none => none
      | some cs => match base with
        | none => if Nat.min sl dl = 0 then some (goInt 0, h) else none
        | some a => if a.spot.isSome then (if cs.isEmpty then some (goInt (Nat.min sl dl), h) else none) else (h.storeN a cs).map fun h' => (goInt (Nat.min sl dl), h')
    | _, _ => none
  | .delete kk m k => if keyEq kk (k.ev env) (k.ev env) = none then none else match m.ev env with
    | .map none => some (.tuple #[], h)
    | .map (some r) => match h.get r with
      | some (.map es clock false) => match keyFind kk (k.ev env) es 0 with
        | some (some (i, _)) => some (.tuple #[], h.set r (.map (es.eraseIdx i) clock false))
        | some none => some (.tuple #[], h)
        | none => none
      | _ => none
    | _ => none
  | .clearM m => match m.ev env with
    | .map none => some (.tuple #[], h)
    | .map (some r) => match h.get r with
      | some (.map _ clock false) => some (.tuple #[], h.set r (.map [] clock false))
      | _ => none
    | _ => none
  | .clearS zero s => match s.ev env with
    | .slice none _ _ => some (.tuple #[], h)
    | .slice (some a) n _ => if n = 0 then some (.tuple #[], h) else if a.spot.isSome then none else (h.storeN a (List.replicate n zero).flatten).map fun h' => (.tuple #[], h')
    | _ => none
  | .mapSet kk m k v => if keyEq kk (k.ev env) (k.ev env) = none then none else match m.ev env with
    | .map (some r) => match h.get r with
      | some (.map es clock false) => match keyFind kk (k.ev env) es 0 with
        | some (some (i, _)) => some (undef, h.set r (.map (es.modify i fun e => { e with key := k.ev env, val := v.ev env }) clock false))
        | some none => some (undef, h.set r (.map (es ++ [{ key := k.ev env, val := v.ev env, born := clock }]) (clock + 1) false))
        | none => none
      | _ => none
    | _ => none
  | .range m => match m.ev env with
    | .map none => some (.pointer (some ⟨h.next, 0, none⟩), h.push (.mapIter none 0 [] 0))
    | .map (some r) => match h.get r with
      | some (.map _ clock _) => some (.pointer (some ⟨h.next, 0, none⟩), h.push (.mapIter (some r) clock [] clock))
      | _ => none
    | _ => none
  | .convSB x => match x.ev env with
    | .string s => if s.size ≤ mostBytes then some (if s.size = 0 then (emptySl, h) else (.slice (some ⟨h.next, 0, none⟩) s.size s.size, h.push (.cells (s.data.toList.map fun b => .int .u8 b.toNat) (.grown 1)))) else none
    | _ => none
  | _ => none

/-- What a step to the next entry of a map may come to: K holds of each. -/
def nextAll (it : Value) (h : AHeap) (K : Value → AHeap → Prop) : Prop :=
  match it with
  | .pointer (some a) => a.off = 0 ∧ match h.get a.block with
    | some (.mapIter none _ _ _) => K (.tuple #[.bool false]) h
    | some (.mapIter (some m) since seen stepped) => match h.get m with
      | some (.map es clock _) =>
        (!seen.isEmpty && !es.isEmpty && es.all (fun e => decide (e.born ≥ stepped))) = false ∧
        (∀ e ∈ es, e.born ∉ seen → K (.tuple #[.bool true, e.key, e.val]) (h.set a.block (.mapIter (some m) since (seen ++ [e.born]) clock))) ∧
        ((∀ e ∈ es, e.born ∉ seen → since ≤ e.born) → K (.tuple #[.bool false]) h)
      | _ => False
    | _ => False
  | _ => False

end Go.Am
