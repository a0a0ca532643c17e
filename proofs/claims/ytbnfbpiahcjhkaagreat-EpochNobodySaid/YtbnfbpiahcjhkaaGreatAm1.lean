/- The abstract machine, first part: heaps of named blocks, values related by an injection of names. No program in it. -/
import Derived.Calls
import Derived.Orders
import Derived.Laws.Cells
import Derived.Laws.World
namespace Go.Am
open Go

/-! ### A trie over numbers -/

inductive T (α : Type) where
  | nil
  | node (o : Option α) (l r : T α)

namespace T
variable {α : Type}

def getF : Nat → T α → Nat → Option α
  | 0, _, _ => none
  | _ + 1, .nil, _ => none
  | f + 1, .node o l r, k => if k = 0 then o else if k % 2 = 1 then getF f l (k / 2) else getF f r (k / 2 - 1)

def setF : Nat → T α → Nat → Option α → T α
  | 0, t, _, _ => t
  | f + 1, .nil, k, v => if k = 0 then .node v .nil .nil else if k % 2 = 1 then .node none (setF f .nil (k / 2) v) .nil else .node none .nil (setF f .nil (k / 2 - 1) v)
  | f + 1, .node o l r, k, v => if k = 0 then .node v l r else if k % 2 = 1 then .node o (setF f l (k / 2) v) r else .node o l (setF f r (k / 2 - 1) v)

def get (t : T α) (k : Nat) : Option α := getF (k + 1) t k
def set (t : T α) (k : Nat) (v : Option α) : T α := setF (k + 1) t k v

theorem getF_nil (f k : Nat) : getF f (.nil : T α) k = none := by cases f <;> rfl

theorem getF_setF : ∀ (f g : Nat) (t : T α) (k j : Nat) (v : Option α), k < f → j < g →
    getF g (setF f t k v) j = if j = k then v else getF g t j
  | 0, _, _, _, _, _, h, _ => absurd h (Nat.not_lt_zero _)
  | _ + 1, 0, _, _, _, _, _, h => absurd h (Nat.not_lt_zero _)
  | f + 1, g + 1, .nil, k, j, v, hk, hj => by
    simp only [setF]
    by_cases h0 : k = 0
    · subst h0
      simp only [if_true, getF]
      by_cases hj0 : j = 0
      · simp [hj0]
      · simp only [hj0, if_false]
        split <;> simp [getF_nil]
    · simp only [h0, if_false]
      by_cases h1 : k % 2 = 1
      · simp only [h1, if_true, getF]
        by_cases hj0 : j = 0
        · subst hj0; simp [Ne.symm h0]
        · simp only [hj0, if_false]
          by_cases hj1 : j % 2 = 1
          · simp only [hj1, if_true]
            rw [getF_setF f g .nil (k / 2) (j / 2) v (by omega) (by omega), getF_nil]
            by_cases e : j = k
            · subst e; simp
            · have : j / 2 ≠ k / 2 := by omega
              simp [e, this]
          · simp only [hj1, if_false, getF_nil]
            have : j ≠ k := by intro e; subst e; exact hj1 h1
            simp [this]
      · simp only [h1, if_false, getF]
        by_cases hj0 : j = 0
        · subst hj0; simp [Ne.symm h0]
        · simp only [hj0, if_false]
          by_cases hj1 : j % 2 = 1
          · simp only [hj1, if_true, getF_nil]
            have : j ≠ k := by intro e; subst e; exact h1 hj1
            simp [this]
          · simp only [hj1, if_false]
            rw [getF_setF f g .nil (k / 2 - 1) (j / 2 - 1) v (by omega) (by omega), getF_nil]
            by_cases e : j = k
            · subst e; simp
            · have : j / 2 - 1 ≠ k / 2 - 1 := by omega
              simp [e, this]
  | f + 1, g + 1, .node o l r, k, j, v, hk, hj => by
    simp only [setF]
    by_cases h0 : k = 0
    · subst h0
      simp only [if_true, getF]
      by_cases hj0 : j = 0
      · simp [hj0]
      · simp [hj0]
    · simp only [h0, if_false]
      by_cases h1 : k % 2 = 1
      · simp only [h1, if_true, getF]
        by_cases hj0 : j = 0
        · subst hj0; simp [Ne.symm h0]
        · simp only [hj0, if_false]
          by_cases hj1 : j % 2 = 1
          · simp only [hj1, if_true]
            rw [getF_setF f g l (k / 2) (j / 2) v (by omega) (by omega)]
            by_cases e : j = k
            · subst e; simp
            · have : j / 2 ≠ k / 2 := by omega
              simp [e, this]
          · simp only [hj1, if_false]
            have : j ≠ k := by intro e; subst e; exact hj1 h1
            simp [this]
      · simp only [h1, if_false, getF]
        by_cases hj0 : j = 0
        · subst hj0; simp [Ne.symm h0]
        · simp only [hj0, if_false]
          by_cases hj1 : j % 2 = 1
          · simp only [hj1, if_true]
            have : j ≠ k := by intro e; subst e; exact h1 hj1
            simp [this]
          · simp only [hj1, if_false]
            rw [getF_setF f g r (k / 2 - 1) (j / 2 - 1) v (by omega) (by omega)]
            by_cases e : j = k
            · subst e; simp
            · have : j / 2 - 1 ≠ k / 2 - 1 := by omega
              simp [e, this]

theorem get_set (t : T α) (k j : Nat) (v : Option α) : (t.set k v).get j = if j = k then v else t.get j :=
  getF_setF _ _ t k j v (by omega) (by omega)

theorem get_nil (k : Nat) : (.nil : T α).get k = none := getF_nil _ _
end T

/-! ### Abstract objects and heaps -/

/-- What may be done to a row: it is read alone; it is the run's own; the run's own, made by an append whose elements have so many cells (its room is not known). -/
inductive Kind where
  | ro
  | own
  | grown (s : Nat)
  deriving DecidableEq

inductive AObj where
  | cells (c : List Value) (k : Kind)
  | map (es : List MapEntry) (clock : Nat) (ro : Bool)
  | mapIter (m : Option Nat) (since : Nat) (seen : List Nat) (stepped : Nat)
  | strIter (s : ByteArray) (pos : Nat)

def AObj.mut : AObj → Bool
  | .cells _ .ro => false
  | .map _ _ ro => !ro
  | _ => true

structure AHeap where
  next : Nat
  t : T AObj

namespace AHeap
def get (h : AHeap) (r : Nat) : Option AObj := h.t.get r
def set (h : AHeap) (r : Nat) (o : AObj) : AHeap := { h with t := h.t.set r (some o) }
def kill (h : AHeap) (r : Nat) : AHeap := { h with t := h.t.set r none }
def push (h : AHeap) (o : AObj) : AHeap := { next := h.next + 1, t := h.t.set h.next (some o) }

@[simp] theorem get_set (h : AHeap) (r j : Nat) (o : AObj) : (h.set r o).get j = if j = r then some o else h.get j := T.get_set _ _ _ _
@[simp] theorem get_kill (h : AHeap) (r j : Nat) : (h.kill r).get j = if j = r then none else h.get j := T.get_set _ _ _ _
@[simp] theorem get_push (h : AHeap) (j : Nat) (o : AObj) : (h.push o).get j = if j = h.next then some o else h.get j := T.get_set _ _ _ _
@[simp] theorem next_set (h : AHeap) (r : Nat) (o : AObj) : (h.set r o).next = h.next := rfl
@[simp] theorem next_kill (h : AHeap) (r : Nat) : (h.kill r).next = h.next := rfl
@[simp] theorem next_push (h : AHeap) (o : AObj) : (h.push o).next = h.next + 1 := rfl
end AHeap

/-! ### Related values -/

structure Img where
  blk : Nat
  shift : Nat
  ext : Option (Nat × Nat × Nat)

abbrev Inj := Nat → Option Img

def Inj.le (ι ι' : Inj) : Prop := ∀ r img, ι r = some img → ι' r = some img
theorem Inj.le_refl (ι : Inj) : ι.le ι := fun _ _ h => h
theorem Inj.le_trans {ι₁ ι₂ ι₃ : Inj} (h : ι₁.le ι₂) (h' : ι₂.le ι₃) : ι₁.le ι₃ := fun r img hr => h' r img (h r img hr)

/-- A value of which nothing is known and that nothing may look at. -/
def junk : Value := .complex .f32 1 1

def ARel (ι : Inj) (a a' : Addr) : Prop := a.spot = none ∧ ∃ img, ι a.block = some img ∧ a' = ⟨img.blk, a.off + img.shift, none⟩

def CapRel (ι : Inj) (a : Addr) (cap : Nat) (a' : Addr) (cap' : Nat) : Prop :=
  cap' = cap ∨ ∃ img s n N, ι a.block = some img ∧ img.ext = some (s, n, N) ∧ 0 < s ∧ a.off + cap * s = n ∧ a'.off + cap' * s = N ∧ cap ≤ cap'

def MRel (ι : Inj) (r r' : Nat) : Prop := ∃ img, ι r = some img ∧ img.shift = 0 ∧ img.blk = r'

def Fn.fine : Fn → Bool
  | .yield _ => false
  | _ => true

inductive V (ι : Inj) : Value → Value → Prop where
  | junk (v : Value) : V ι Am.junk v
  | bool (b : Bool) : V ι (.bool b) (.bool b)
  | int (k : IntKind) (n : Int) : V ι (.int k n) (.int k n)
  | string (s : ByteArray) : V ι (.string s) (.string s)
  | pnone : V ι (.pointer none) (.pointer none)
  | psome {a a' : Addr} (h : ARel ι a a') : V ι (.pointer (some a)) (.pointer (some a'))
  | snone (len cap : Nat) : V ι (.slice none len cap) (.slice none len cap)
  | ssome {a a' : Addr} {cap cap' : Nat} (len : Nat) (h : ARel ι a a') (hc : CapRel ι a cap a' cap') : V ι (.slice (some a) len cap) (.slice (some a') len cap')
  | semp (a a' : Addr) (cap' : Nat) (ha : a.spot = some 0) : V ι (.slice (some a) 0 0) (.slice (some a') 0 cap')
  | mnone : V ι (.map none) (.map none)
  | msome {r r' : Nat} (h : MRel ι r r') : V ι (.map (some r)) (.map (some r'))
  | func {fn : Fn} {f f' c c' : Array Value} (hf : Fn.fine fn = true) (h1 : f.size = f'.size) (h2 : ∀ (i : Nat) (x y : Value), f[i]? = some x → f'[i]? = some y → V ι x y)
      (h3 : c.size = c'.size) (h4 : ∀ (i : Nat) (x y : Value), c[i]? = some x → c'[i]? = some y → V ι x y) : V ι (.func fn f c) (.func fn f' c')
  | nilFunc : V ι .nilFunc .nilFunc
  | iface {v v' : Value} (t : TypeId) (h : V ι v v') : V ι (.iface t v) (.iface t v')
  | nilIface : V ι .nilIface .nilIface
  | agg {c c' : Array Value} (h1 : c.size = c'.size) (h2 : ∀ (i : Nat) (x y : Value), c[i]? = some x → c'[i]? = some y → V ι x y) : V ι (.agg c) (.agg c')
  | tuple {c c' : Array Value} (h1 : c.size = c'.size) (h2 : ∀ (i : Nat) (x y : Value), c[i]? = some x → c'[i]? = some y → V ι x y) : V ι (.tuple c) (.tuple c')

def VA (ι : Inj) (c c' : Array Value) : Prop := c.size = c'.size ∧ ∀ (i : Nat) (x y : Value), c[i]? = some x → c'[i]? = some y → V ι x y
def VL (ι : Inj) (c c' : List Value) : Prop := c.length = c'.length ∧ ∀ (i : Nat) (x y : Value), c[i]? = some x → c'[i]? = some y → V ι x y

theorem ARel.mono {ι ι' : Inj} (h : ι.le ι') {a a' : Addr} (ha : ARel ι a a') : ARel ι' a a' :=
  let ⟨h1, img, h2, h3⟩ := ha; ⟨h1, img, h _ _ h2, h3⟩
theorem CapRel.mono {ι ι' : Inj} (h : ι.le ι') {a a' : Addr} {cap cap' : Nat} (ha : CapRel ι a cap a' cap') : CapRel ι' a cap a' cap' :=
  ha.imp id fun ⟨img, s, n, N, h1, h2⟩ => ⟨img, s, n, N, h _ _ h1, h2⟩
theorem MRel.mono {ι ι' : Inj} (h : ι.le ι') {r r' : Nat} (ha : MRel ι r r') : MRel ι' r r' :=
  let ⟨img, h1, h2⟩ := ha; ⟨img, h _ _ h1, h2⟩

theorem V.mono {ι ι' : Inj} (h : ι.le ι') {v v' : Value} (hv : V ι v v') : V ι' v v' := by
  induction hv with
  | junk v => exact .junk v
  | bool b => exact .bool b
  | int k n => exact .int k n
  | string s => exact .string s
  | pnone => exact .pnone
  | psome ha => exact .psome (ha.mono h)
  | snone l c => exact .snone l c
  | ssome l ha hc => exact .ssome l (ha.mono h) (hc.mono h)
  | semp a a' c ha => exact .semp a a' c ha
  | mnone => exact .mnone
  | msome ha => exact .msome (ha.mono h)
  | func hf h1 _ h3 _ ih1 ih2 => exact .func hf h1 ih1 h3 ih2
  | nilFunc => exact .nilFunc
  | iface t _ ih => exact .iface t ih
  | nilIface => exact .nilIface
  | agg h1 _ ih => exact .agg h1 ih
  | tuple h1 _ ih => exact .tuple h1 ih

theorem VA.mono {ι ι' : Inj} (h : ι.le ι') {c c' : Array Value} (hv : VA ι c c') : VA ι' c c' := ⟨hv.1, fun i x y hx hy => (hv.2 i x y hx hy).mono h⟩
theorem VL.mono {ι ι' : Inj} (h : ι.le ι') {c c' : List Value} (hv : VL ι c c') : VL ι' c c' := ⟨hv.1, fun i x y hx hy => (hv.2 i x y hx hy).mono h⟩

/-! Inversions: a value that is known (and is not junk) tells its partner. -/
section
variable {ι : Inj} {v' : Value}
theorem V.bool_inv {b : Bool} (h : V ι (.bool b) v') : v' = .bool b := by cases h; rfl
theorem V.int_inv {k : IntKind} {n : Int} (h : V ι (.int k n) v') : v' = .int k n := by cases h; rfl
theorem V.string_inv {s : ByteArray} (h : V ι (.string s) v') : v' = .string s := by cases h; rfl
theorem V.pnone_inv (h : V ι (.pointer none) v') : v' = .pointer none := by cases h; rfl
theorem V.psome_inv {a : Addr} (h : V ι (.pointer (some a)) v') : ∃ a', v' = .pointer (some a') ∧ ARel ι a a' := by cases h; exact ⟨_, rfl, ‹_›⟩
theorem V.snone_inv {l c : Nat} (h : V ι (.slice none l c) v') : v' = .slice none l c := by cases h; rfl
theorem V.ssome_inv {a : Addr} {l c : Nat} (h : V ι (.slice (some a) l c) v') (ha : a.spot.isSome = false) : ∃ a' c', v' = .slice (some a') l c' ∧ ARel ι a a' ∧ CapRel ι a c a' c' := by
  cases h with
  | ssome l h1 h2 => exact ⟨_, _, rfl, h1, h2⟩
  | semp a a' c h1 => rw [h1] at ha; cases ha
theorem V.semp_inv {a : Addr} {l c : Nat} (h : V ι (.slice (some a) l c) v') (ha : a.spot.isSome = true) : ∃ a' c', v' = .slice (some a') 0 c' ∧ l = 0 ∧ c = 0 := by
  cases h with
  | ssome l h1 h2 => rw [h1.1] at ha; cases ha
  | semp a a' c h1 => exact ⟨_, _, rfl, rfl, rfl⟩
theorem V.slice_inv {a : Option Addr} {l c : Nat} (h : V ι (.slice a l c) v') : ∃ a' c', v' = .slice a' l c' ∧ a'.isSome = a.isSome := by
  cases h with
  | snone l c => exact ⟨_, _, rfl, rfl⟩
  | ssome l h1 h2 => exact ⟨_, _, rfl, rfl⟩
  | semp a a' c h1 => exact ⟨_, _, rfl, rfl⟩
theorem V.mnone_inv (h : V ι (.map none) v') : v' = .map none := by cases h; rfl
theorem V.msome_inv {r : Nat} (h : V ι (.map (some r)) v') : ∃ r', v' = .map (some r') ∧ MRel ι r r' := by cases h; exact ⟨_, rfl, ‹_›⟩
theorem V.func_inv {fn : Fn} {f c : Array Value} (h : V ι (.func fn f c) v') : ∃ f' c', v' = .func fn f' c' ∧ Fn.fine fn = true ∧ VA ι f f' ∧ VA ι c c' := by
  cases h; exact ⟨_, _, rfl, ‹_›, ⟨‹_›, ‹_›⟩, ⟨‹_›, ‹_›⟩⟩
theorem V.nilFunc_inv (h : V ι .nilFunc v') : v' = .nilFunc := by cases h; rfl
theorem V.iface_inv {t : TypeId} {v : Value} (h : V ι (.iface t v) v') : ∃ u, v' = .iface t u ∧ V ι v u := by cases h; exact ⟨_, rfl, ‹_›⟩
theorem V.nilIface_inv (h : V ι .nilIface v') : v' = .nilIface := by cases h; rfl
theorem V.agg_inv {c : Array Value} (h : V ι (.agg c) v') : ∃ c', v' = .agg c' ∧ VA ι c c' := by cases h; exact ⟨_, rfl, ‹_›, ‹_›⟩
theorem V.tuple_inv {c : Array Value} (h : V ι (.tuple c) v') : ∃ c', v' = .tuple c' ∧ VA ι c c' := by cases h; exact ⟨_, rfl, ‹_›, ‹_›⟩
end

theorem V.undef (ι : Inj) : V ι undef undef := .tuple rfl (fun i x y hx _ => by simp at hx)

theorem VL.nil (ι : Inj) : VL ι [] [] := ⟨rfl, fun i x y hx _ => by simp at hx⟩
theorem VL.cons {ι : Inj} {x y : Value} {xs ys : List Value} (h : V ι x y) (hs : VL ι xs ys) : VL ι (x :: xs) (y :: ys) :=
  ⟨by simp [hs.1], fun i a b ha hb => by
    cases i with
    | zero => simp at ha hb; subst ha; subst hb; exact h
    | succ i => exact hs.2 i a b (by simpa using ha) (by simpa using hb)⟩
theorem VL.cons_inv {ι : Inj} {x : Value} {xs ys : List Value} (h : VL ι (x :: xs) ys) : ∃ y ys', ys = y :: ys' ∧ V ι x y ∧ VL ι xs ys' := by
  cases ys with
  | nil => exact absurd h.1 (by simp)
  | cons y ys' => exact ⟨y, ys', rfl, h.2 0 x y rfl rfl, by simpa using h.1, fun i a b ha hb => h.2 (i + 1) a b (by simpa using ha) (by simpa using hb)⟩
theorem VL.nil_inv {ι : Inj} {ys : List Value} (h : VL ι [] ys) : ys = [] := by
  cases ys with
  | nil => rfl
  | cons y ys' => exact absurd h.1 (by simp)
theorem VL.get {ι : Inj} {xs ys : List Value} (h : VL ι xs ys) {i : Nat} {x : Value} (hx : xs[i]? = some x) : ∃ y, ys[i]? = some y ∧ V ι x y := by
  have hi : i < ys.length := by rw [← h.1]; exact (List.getElem?_eq_some_iff.1 hx).1
  exact ⟨ys[i], List.getElem?_eq_getElem hi, h.2 i x _ hx (List.getElem?_eq_getElem hi)⟩
theorem VL.append {ι : Inj} {xs ys xs' ys' : List Value} (h : VL ι xs ys) (h' : VL ι xs' ys') : VL ι (xs ++ xs') (ys ++ ys') := by
  refine ⟨by simp [h.1, h'.1], fun i a b ha hb => ?_⟩
  by_cases hi : i < xs.length
  · rw [List.getElem?_append_left hi] at ha
    rw [List.getElem?_append_left (h.1 ▸ hi)] at hb
    exact h.2 i a b ha hb
  · rw [List.getElem?_append_right (by omega)] at ha
    rw [List.getElem?_append_right (by rw [← h.1]; omega), ← h.1] at hb
    exact h'.2 _ a b ha hb
theorem VL.take {ι : Inj} {xs ys : List Value} (h : VL ι xs ys) (n : Nat) : VL ι (xs.take n) (ys.take n) := by
  refine ⟨by simp [h.1], fun i a b ha hb => ?_⟩
  rw [List.getElem?_take] at ha hb
  split at ha <;> rename_i hi
  · rw [if_pos hi] at hb; exact h.2 i a b ha hb
  · exact absurd ha (by simp)
theorem VL.drop {ι : Inj} {xs ys : List Value} (h : VL ι xs ys) (n : Nat) : VL ι (xs.drop n) (ys.drop n) := by
  refine ⟨by simp [h.1], fun i a b ha hb => ?_⟩
  rw [List.getElem?_drop] at ha hb
  exact h.2 _ a b ha hb
theorem VL.set {ι : Inj} {xs ys : List Value} (h : VL ι xs ys) (n : Nat) {x y : Value} (hx : V ι x y) : VL ι (xs.set n x) (ys.set n y) := by
  refine ⟨by simp [h.1], fun i a b ha hb => ?_⟩
  rw [List.getElem?_set] at ha hb
  by_cases e : n = i
  · subst e
    simp only [if_true] at ha hb
    split at ha
    · split at hb
      · injection ha with ha; injection hb with hb; subst ha; subst hb; exact hx
      · exact absurd hb (by simp)
    · exact absurd ha (by simp)
  · simp only [e, if_false] at ha hb; exact h.2 i a b ha hb
theorem VL.replicate {ι : Inj} (n : Nat) {x y : Value} (hx : V ι x y) : VL ι (List.replicate n x) (List.replicate n y) := by
  refine ⟨by simp, fun i a b ha hb => ?_⟩
  rw [List.getElem?_replicate] at ha hb
  split at ha
  · rw [if_pos ‹_›] at hb; injection ha with ha; injection hb with hb; rw [← ha, ← hb]; exact hx
  · exact absurd ha (by simp)

theorem VA.toList {ι : Inj} {c c' : Array Value} (h : VA ι c c') : VL ι c.toList c'.toList :=
  ⟨by simpa using h.1, fun i x y hx hy => h.2 i x y (by simpa using hx) (by simpa using hy)⟩
theorem VL.toArray {ι : Inj} {c c' : List Value} (h : VL ι c c') : VA ι c.toArray c'.toArray :=
  ⟨by simpa using h.1, fun i x y hx hy => h.2 i x y (by simpa using hx) (by simpa using hy)⟩
theorem V.aggL {ι : Inj} {c c' : List Value} (h : VL ι c c') : V ι (.agg c.toArray) (.agg c'.toArray) := .agg h.toArray.1 h.toArray.2
theorem V.agg' {ι : Inj} {c c' : Array Value} (h : VA ι c c') : V ι (.agg c) (.agg c') := .agg h.1 h.2
theorem V.tuple' {ι : Inj} {c c' : Array Value} (h : VA ι c c') : V ι (.tuple c) (.tuple c') := .tuple h.1 h.2

/-- The cells of related values are related, unless the abstract one is junk (one cell of junk). -/
theorem V.cells {ι : Inj} {v v' : Value} (h : V ι v v') (hj : v ≠ Am.junk) : VA ι v.cells v'.cells := by
  have one : ∀ {a b : Value}, V ι a b → VA ι #[a] #[b] := fun {a b} h =>
    ⟨rfl, fun i x y hx hy => by
      cases i with
      | zero => simp at hx hy; subst hx; subst hy; exact h
      | succ i => simp at hx⟩
  cases h with
  | junk v => exact absurd rfl hj
  | agg h1 h2 => exact ⟨h1, h2⟩
  | bool b => exact one (.bool b)
  | int k n => exact one (.int k n)
  | string s => exact one (.string s)
  | pnone => exact one .pnone
  | psome ha => exact one (.psome ha)
  | snone l c => exact one (.snone l c)
  | ssome l ha hc => exact one (.ssome l ha hc)
  | semp a a' c ha => exact one (.semp a a' c ha)
  | mnone => exact one .mnone
  | msome ha => exact one (.msome ha)
  | func hf h1 h2 h3 h4 => exact one (.func hf h1 h2 h3 h4)
  | nilFunc => exact one .nilFunc
  | iface t h => exact one (.iface t h)
  | nilIface => exact one .nilIface
  | tuple h1 h2 => exact one (.tuple h1 h2)

/-- One cell, and known: what may be stored into a cell. -/
def oneCell : Value → Bool
  | .agg _ | .tuple _ | .complex .. => false
  | _ => true

theorem V.oneCell {ι : Inj} {v v' : Value} (h : V ι v v') (h1 : oneCell v = true) : v'.oneCell' = true := by
  cases h <;> first | rfl | (simp [Am.oneCell, Am.junk] at h1)

end Go.Am
