/- The abstract machine, fourth part: the model's operations with their types resolved ('comp'). -/
import Derived.Test.YtbnfbpiahcjhkaaGreatAm3
namespace Go.Am
open Go

def constOk : Nat → Value → Bool
  | _, .bool _ | _, .int .. | _, .string _ | _, .pointer none | _, .slice none _ _ | _, .map none | _, .nilFunc | _, .nilIface => true
  | _, .func (.func _) f c => f.isEmpty && c.isEmpty
  | n + 1, .agg cs => cs.all (constOk n)
  | n + 1, .tuple cs => cs.all (constOk n)
  | n + 1, .iface _ v => constOk n v
  | _, _ => false

theorem constOk_V (ι : Inj) : ∀ (n : Nat) (v : Value), constOk n v = true → V ι v v := by
  intro n
  induction n with
  | zero =>
    intro v h
    cases v with
    | bool b => exact .bool b
    | int k n => exact .int k n
    | string s => exact .string s
    | nilFunc => exact .nilFunc
    | nilIface => exact .nilIface
    | pointer a => cases a with | none => exact .pnone | some a => simp [constOk] at h
    | slice a l c => cases a with | none => exact .snone l c | some a => simp [constOk] at h
    | map r => cases r with | none => exact .mnone | some a => simp [constOk] at h
    | func fn f c =>
      cases fn with
      | func g =>
        simp [constOk] at h
        obtain ⟨rfl, rfl⟩ := h
        exact .func rfl rfl (fun i x y hx _ => by simp at hx) rfl (fun i x y hx _ => by simp at hx)
      | _ => simp [constOk] at h
    | _ => simp [constOk] at h
  | succ n ih =>
    intro v h
    cases v with
    | bool b => exact .bool b
    | int k n => exact .int k n
    | string s => exact .string s
    | nilFunc => exact .nilFunc
    | nilIface => exact .nilIface
    | pointer a => cases a with | none => exact .pnone | some a => simp [constOk] at h
    | slice a l c => cases a with | none => exact .snone l c | some a => simp [constOk] at h
    | map r => cases r with | none => exact .mnone | some a => simp [constOk] at h
    | func fn f c =>
      cases fn with
      | func g =>
        simp [constOk] at h
        obtain ⟨rfl, rfl⟩ := h
        exact .func rfl rfl (fun i x y hx _ => by simp at hx) rfl (fun i x y hx _ => by simp at hx)
      | _ => simp [constOk] at h
    | agg cs =>
      simp only [constOk] at h
      refine .agg rfl (fun i x y hx hy => ?_)
      rw [hx] at hy; injection hy with hy; subst hy
      exact ih x (by simpa using (Array.all_eq_true'.1 h) x (Array.mem_of_getElem? hx))
    | tuple cs =>
      simp only [constOk] at h
      refine .tuple rfl (fun i x y hx hy => ?_)
      rw [hx] at hy; injection hy with hy; subst hy
      exact ih x (by simpa using (Array.all_eq_true'.1 h) x (Array.mem_of_getElem? hx))
    | iface t v => exact .iface t (ih v (by simpa [constOk] using h))
    | _ => simp [constOk] at h

def compO : Operand → Option Opnd
  | .tmp t => some (.t t)
  | .const v => if constOk 4 v then some (.c v) else none
  | .func f => some (.c (.func (.func f) #[] #[]))
  | .global _ => none

def compOs (l : List Operand) : Option (List Opnd) := l.mapM compO
def compOo : Option Operand → Option (Option Opnd)
  | none => some none
  | some x => (compO x).map some

/-- The cells of a type's zero. -/
def zeroV (P : Program) (t : TypeId) : Option Value :=
  match P.info? t with
  | some i => match i.zero with
    | some z => if constOk 4 z then some z else none
    | none => none
  | none => none

def sizeA (P : Program) (t : TypeId) : Option Nat := (P.info? t).map (·.size)

def aggA (P : Program) (t : TypeId) : Option Bool :=
  match P.underlying t with
  | some (.struct _) | some (.array _ _) => some true
  | some _ => some false
  | none => none

def primT (P : Program) (t : TypeId) : Option PK :=
  match P.underlying t with
  | some (.int _) => some .i
  | some .string => some .s
  | some .bool => some .b
  | _ => none

/-- The kinds of a struct's fields, each of one cell, one behind the other. -/
def flatFs (P : Program) : List Field → Nat → Option (List PK)
  | [], _ => some []
  | f :: fs, i => if f.name ≠ "_" ∧ aggA P f.type = some false ∧ f.offset = i then
      match primT P f.type with
      | some k => (flatFs P fs (i + 1)).map (k :: ·)
      | none => none
    else none

/-- A struct or an array of cells, each of them a number, a text or a bool: compared cell by cell. -/
def flatT (P : Program) (t : TypeId) : Option (List PK) :=
  match P.underlying t with
  | some (.struct fs) => if P.stoodInHeld t = false ∧ P.eqGuardType P.depth t = false then flatFs P fs.toList 0 else none
  | some (.array n e) => if P.eqGuardType P.depth t = false ∧ aggA P e = some false ∧ sizeA P e = some 1 then (primT P e).map fun k => List.replicate n k else none
  | _ => none

def keyK (P : Program) (t : TypeId) : Option KeyKind :=
  match primT P t with
  | some k => some (.prim k)
  | none => (flatT P t).map .flat

def isC : Operand → Bool
  | .const _ => true
  | _ => false

def compBin (P : Program) (op : BinOp) (t : TypeId) (x y : Operand) : Option AOp := do
  let a ← compO x
  let b ← compO y
  match P.underlying t with
  | some (.int _) | some .string => some (.bin op a b)
  | some .bool => match op with
    | .eql => some (.eqB false a b)
    | .neq => some (.eqB true a b)
    | _ => none
  | some (.pointer _) => match op with
    | .eql => some (.eqP .ptr false a b)
    | .neq => some (.eqP .ptr true a b)
    | _ => none
  | some (.slice _) => match op with
    | .eql => some (.eqP .slice false a b)
    | .neq => some (.eqP .slice true a b)
    | _ => none
  | some (.map _ _) => match op with
    | .eql => some (.eqP .map false a b)
    | .neq => some (.eqP .map true a b)
    | _ => none
  | some (.func _ _ _) => match op with
    | .eql => some (.eqP .func false a b)
    | .neq => some (.eqP .func true a b)
    | _ => none
  | some (.interface _) => match op with
    | .eql => some (.eqI false (isC x || isC y) a b)
    | .neq => some (.eqI true (isC x || isC y) a b)
    | _ => none
  | some (.struct _) | some (.array _ _) => match op with
    | .eql => (flatT P t).map fun ks => .eqS false ks a b
    | .neq => (flatT P t).map fun ks => .eqS true ks a b
    | _ => none
  | _ => none

def compConv (P : Program) (s d : TypeId) (x : Operand) : Option AOp := do
  let a ← compO x
  match P.underlying s, P.underlying d with
  | some (.int _), some (.int k) => some (.convI k a)
  | some (.slice e), some .string => match P.underlying e with
    | some (.int .u8) => some (.convBS a)
    | _ => none
  | some .string, some (.slice e) => match P.underlying e with
    | some (.int .u8) => some (.convSB a)
    | _ => none
  | _, _ => none

def compSlice (P : Program) (t : TypeId) (x : Operand) (lo hi mx : Option Operand) : Option AOp := do
  let a ← compO x
  let l ← compOo lo
  let h ← compOo hi
  let m ← compOo mx
  match P.underlying t with
  | some .string => if m.isNone then some (.sliceStr a l h) else none
  | some (.slice e) => (sizeA P e).map fun n => .sliceSl n a l h m
  | some (.array n e) => (sizeA P e).map fun s => .sliceArr n s a l h m
  | some (.pointer arr) => match P.underlying arr with
    | some (.array n e) => (sizeA P e).map fun s => .sliceArr n s a l h m
    | _ => none
  | _ => none

def compParts (P : Program) (place : Nat → Option (Nat × Nat)) (parts : List (Nat × Operand)) : Option (List (Nat × Nat × Opnd)) :=
  parts.mapM fun (i, x) => do
    let (off, size) ← place i
    let a ← compO x
    pure (off, size, a)

def zeroCs (P : Program) (t : TypeId) : Option (List Value) :=
  match zeroV P t, sizeA P t with
  | some z, some n => if z.cells.size = n ∧ z.cells.all oneCell then some z.cells.toList else none
  | _, _ => none

def compBuiltin (P : Program) (b : Builtin) (argTypes : List TypeId) (args : List Operand) : Option AOp := do
  let xs ← compOs args
  match b, argTypes, xs with
  | .append, t :: u :: _, [s, x] => match P.underlying t with
    | some (.slice e) => match P.info? e, P.underlying u with
      | some i, some (.int _) => (zeroCs P e).map fun z => .appendZ i.size i.bytes z s x
      | some i, some _ => (zeroCs P e).map fun _ => .append i.size i.bytes s x
      | _, _ => none
    | _ => none
  | .len, t :: _, [x] => match P.underlying t with
    | some .string => some (.lenT x)
    | some (.slice _) => some (.lenS x)
    | some (.map _ _) => some (.lenM x)
    | some (.array n _) => some (.lenC n x)
    | some (.pointer arr) => match P.underlying arr with
      | some (.array n _) => some (.lenC n x)
      | _ => none
    | _ => none
  | .cap, t :: _, [x] => match P.underlying t with
    | some (.slice _) => some (.capS x)
    | _ => none
  | .copy, t :: _, [d, s] => match P.underlying t with
    | some (.slice e) => (sizeA P e).map fun n => .copy n d s
    | _ => none
  | .delete, t :: _, [m, k] => match P.underlying t with
    | some (.map kt _) => (keyK P kt).map fun kk => .delete kk m k
    | _ => none
  | .clear, t :: _, [x] => match P.underlying t with
    | some (.map _ _) => some (.clearM x)
    | some (.slice e) => (zeroCs P e).map fun z => .clearS z x
    | _ => none
  | .max, _, [x, y] => some (.mxI x y)
  | .min, _, [x, y] => some (.mnI x y)
  | _, _, _ => none

def comp (P : Program) (o : Op) : Option AOp :=
  match o with
  | .move x | .assign x => (compO x).map .mv
  | .pick c a b => do pure (.pick (← compO c) (← compO a) (← compO b))
  | .alloc t => (zeroCs P t).map .alloc
  | .box _ x => (compO x).map .box
  | .build t parts => do
    let z ← zeroCs P t
    match P.underlying t with
    | some (.struct fs) => if fs.toList.all (fun f => (sizeA P f.type).isSome) then (compParts P ((fs.map fun f => (f.offset, (sizeA P f.type).getD 0))[·]?) parts.toList).map (.build z) else none
    | some (.array _ e) => do
      let n ← sizeA P e
      (compParts P (fun i => some (i * n, n)) parts.toList).map (.build z)
    | _ => none
  | .buildSlice t len parts => match P.underlying t with
    | some (.slice e) => do
      let z ← zeroCs P e
      if z.length = 0 ∨ len * z.length > 2 ^ 24 then none else
      (compParts P (fun i => some (i * z.length, z.length)) parts.toList).map (.mkSlice len (List.replicate len z).flatten)
    | _ => none
  | .load t a => do
    let x ← compO a
    match aggA P t with
    | some true => (sizeA P t).map fun n => .loadN n x
    | some false => some (.load1 x)
    | none => none
  | .store t a v => do
    let x ← compO a
    let y ← compO v
    (sizeA P t).map fun n => .store n x y
  | .nilCheck x => (compO x).map .nilCheck
  | .binOp op t x y _ => compBin P op t x y
  | .unOp op _ x => (compO x).map (.un op)
  | .convert s d x => compConv P s d x
  | .makeInterface t x => match P.underlying t with
    | some (.interface _) | none => none
    | some _ => (compO x).map (.mkIface t)
  | .makeFunc fn f c => if Fn.fine fn then do pure (.mkFunc fn (← compOs f.toList) (← compOs c.toList)) else none
  | .makeMap _ none => some .mkMap
  | .makeSlice t l c => match P.underlying t with
    | some (.slice e) => do
      let z ← zeroCs P e
      let i ← P.info? e
      pure (.makeSl i.size i.bytes z (← compO l) (← compO c))
    | _ => none
  | .slice t x lo hi mx => compSlice P t x lo hi mx
  | .fieldAddr s x f => match P.underlying s with
    | some (.struct fs) => match fs[f]? with
      | some fd => if (sizeA P fd.type).getD 0 ≠ 0 then (compO x).map (.addOff fd.offset) else none
      | none => none
    | _ => none
  | .field t x f => match P.underlying t with
    | some (.struct fs) => match fs[f]? with
      | some fd => match aggA P fd.type with
        | some true => do
          let n ← sizeA P fd.type
          (compO x).map (.part (some n) fd.offset)
        | some false => (compO x).map (.part none fd.offset)
        | none => none
      | none => none
    | _ => none
  | .indexAddr t x i => match P.underlying t with
    | some (.array n e) => do pure (.idxAddrArr n (← sizeA P e) (← compO x) (← compO i))
    | some (.slice e) => do pure (.idxAddrSl (← sizeA P e) (← compO x) (← compO i))
    | _ => none
  | .index t x i => match P.underlying t with
    | some (.array n e) => do pure (.idxArr n (← sizeA P e) (← aggA P e) (← compO x) (← compO i))
    | some .string => do pure (.idxStr (← compO x) (← compO i))
    | _ => none
  | .lookup t m k ok => match P.underlying t with
    | some (.map kt e) => do pure (.lookup (← zeroV P e) ok (← keyK P kt) (← compO m) (← compO k))
    | _ => none
  | .mapUpdate t m k v | .insert t m k v => match P.underlying t with
    | some (.map kt _) => do pure (.mapSet (← keyK P kt) (← compO m) (← compO k) (← compO v))
    | _ => none
  | .range t x => match P.underlying t with
    | some (.map _ _) => (compO x).map .range
    | _ => none
  | .next it isS => if isS then none else (compO it).map .next
  | .entry it => (compO it).map .entry
  | .typeAssert x _ t ok => match P.underlying t with
    | some (.interface _) | none => none
    | some _ => do pure (.tassert t (← zeroV P t) ok (← compO x))
  | .extract x i => (compO x).map (.extract i)
  | .call { callee := .builtin b, args, argTypes } => compBuiltin P b argTypes.toList args.toList
  | .call { callee := .value f, args, .. } => do pure (.call (.val (← compO f)) (← compOs args.toList))
  | .call { callee := .invoke r name, args, .. } => do pure (.call (.inv (← compO r) name) (← compOs args.toList))
  | .panic x => (compO x).map .panic
  | _ => none

end Go.Am
