/- The abstract machine, eighteenth part: one operation of a region: what is asked of it, and that it is sound. Calls by contract. -/
import Derived.Test.YtbnfbpiahcjhkaaGreatAm17
namespace Go.Am
open Go

inductive AEnd where
  | ret (v : Value)
  | panic (v : Value)

def ERet (ι : Inj) : AEnd → Ending → Prop
  | .ret v, .returned v' => V ι v v'
  | .panic v, .panicked chain => ∃ v', chain = [{ v := v', recovered := false }] ∧ V ι v v'
  | _, _ => False

/-- A function of the program with a body. -/
def Bodied (P : Program) (f : FuncId) : Prop := ∃ fn, P.funcs[f]? = some fn ∧ (fn.name == "runtime.NumGoroutine") = false ∧ fn.body.isNone = false

/-- A CONTRACT: called with these arguments over this heap the function ends so. -/
def SoundF (P : Program) (f : FuncId) (args : List Value) (h : AHeap) (K : AEnd → AHeap → Prop) : Prop :=
  Bodied P f ∧ ∀ (ι : Inj) (w : World) (args' : List Value), R ι h w → VL ι args args' →
    Calls P f args'.toArray w fun e w' => ∃ ι' r h', K r h' ∧ ERet ι' r e ∧ R ι' h' w' ∧ Step ι h w ι' h' w'

/-- The same of a function without a body, by what the model gives it. -/
def SoundX (P : Program) (f : FuncId) (args : List Value) (h : AHeap) (K : AEnd → AHeap → Prop) : Prop :=
  ∀ (ι : Inj) (w : World) (args' : List Value), R ι h w → VL ι args args' →
    ∃ v' w' ι' v h', (callFunc f args'.toArray).run P w = .ok (.value v') w' ∧ K (.ret v) h' ∧ V ι' v v' ∧ R ι' h' w' ∧ Step ι h w ι' h' w'

def SoundC (P : Program) (f : FuncId) (args : List Value) (h : AHeap) (K : AEnd → AHeap → Prop) : Prop := SoundF P f args h K ∨ SoundX P f args h K

theorem SoundF.mono {P : Program} {f : FuncId} {args : List Value} {h : AHeap} {K K' : AEnd → AHeap → Prop} (hs : SoundF P f args h K) (hk : ∀ r h', K r h' → K' r h') : SoundF P f args h K' :=
  ⟨hs.1, fun ι w args' hR hV => (hs.2 ι w args' hR hV).mono fun _ _ ⟨ι', r, h', a, b⟩ => ⟨ι', r, h', hk _ _ a, b⟩⟩
theorem SoundX.mono {P : Program} {f : FuncId} {args : List Value} {h : AHeap} {K K' : AEnd → AHeap → Prop} (hs : SoundX P f args h K) (hk : ∀ r h', K r h' → K' r h') : SoundX P f args h K' :=
  fun ι w args' hR hV => let ⟨v', w', ι', v, h', a, b, c⟩ := hs ι w args' hR hV; ⟨v', w', ι', v, h', a, hk _ _ b, c⟩
theorem SoundC.mono {P : Program} {f : FuncId} {args : List Value} {h : AHeap} {K K' : AEnd → AHeap → Prop} (hs : SoundC P f args h K) (hk : ∀ r h', K r h' → K' r h') : SoundC P f args h K' :=
  hs.imp (·.mono hk) (·.mono hk)

/-- The method of this name of this type is this function, and takes the very value for its receiver. -/
def MethodIs (P : Program) (t : TypeId) (name : String) (f : FuncId) : Prop := ∀ (v : Value) (w : World), (method (P.types.size + Made.depth) t v name).run P w = .ok (f, v) w

def callA (P : Program) (c : ACallee) (args : List Value) (env : List Value) (h : AHeap) (K : AEnd → AHeap → Prop) : Prop :=
  match c with
  | .val x => match x.ev env with
    | .func (.func f) first captured => SoundC P f (first.toList ++ args ++ captured.toList) h K
    | .func (.method name) first captured => captured = #[] ∧ match first.toList ++ args with
      | .iface t v :: rest => ∃ f, MethodIs P t name f ∧ SoundC P f (v :: rest) h K
      | _ => False
    | _ => False
  | .inv r name => match r.ev env with
    | .iface t v => ∃ f, MethodIs P t name f ∧ SoundC P f (v :: args) h K
    | _ => False

structure AOper where
  dst : Option Nat
  op : AOp
  guard : Option (Nat × Bool)

def aput (env : List Value) (dst : Option Nat) (v : Value) : List Value :=
  match dst with
  | some d => env.set d v
  | none => env

/-- Whether the operation is wanted; none: it is not known. -/
def guardA (env : List Value) : Option (Nat × Bool) → Option Bool
  | none => some true
  | some (t, want) => match env.getD t undef with
    | .bool b => some (b == want)
    | .complex .. => none
    | _ => some false

def kend (K X : Value → AHeap → Prop) : AEnd → AHeap → Prop
  | .ret v, h => K v h
  | .panic v, h => X v h

/-- The operation is carried out. -/
def runA (P : Program) (op : AOp) (K : Value → AHeap → Prop) (X : Value → AHeap → Prop) (env : List Value) (h : AHeap) : Prop :=
  match op with
  | .call c args => callA P c (args.map (·.ev env)) env h (kend K X)
  | .next it => nextAll (it.ev env) h K
  | .panic x => match x.ev env with
    | .iface t v => X (.iface t v) h
    | _ => False
  | op => if op.light then (match lightVal op env h with | some v => K v h | none => False)
    else match heavyVal op env h with
      | some (v, h') => K v h'
      | none => False

def wopA (P : Program) (o : AOper) (K : List Value → AHeap → Prop) (X : Value → AHeap → Prop) (env : List Value) (h : AHeap) : Prop :=
  match guardA env o.guard with
  | none => False
  | some false => K (aput env o.dst undef) h
  | some true => runA P o.op (fun v h' => K (aput env o.dst v) h') X env h

theorem callA_mono {P : Program} {c : ACallee} {args : List Value} {env : List Value} {h : AHeap} {K K' : AEnd → AHeap → Prop} (hk : ∀ r h', K r h' → K' r h') (hh : callA P c args env h K) : callA P c args env h K' := by
  unfold callA at *
  cases c with
  | val x =>
    simp only at *
    split at hh
    · exact hh.mono hk
    · obtain ⟨h1, h2⟩ := hh
      refine ⟨h1, ?_⟩
      split at h2
      · obtain ⟨f, a, b⟩ := h2; exact ⟨f, a, b.mono hk⟩
      · exact h2.elim
    · exact hh.elim
  | inv r name =>
    simp only at *
    split at hh
    · obtain ⟨f, a, b⟩ := hh; exact ⟨f, a, b.mono hk⟩
    · exact hh.elim

theorem nextAll_mono {it : Value} {h : AHeap} {K K' : Value → AHeap → Prop} (hk : ∀ v h', K v h' → K' v h') (hh : nextAll it h K) : nextAll it h K' := by
  unfold nextAll at *
  split at hh
  · obtain ⟨h0, hh⟩ := hh
    refine ⟨h0, ?_⟩
    split at hh
    · exact hk _ _ hh
    · split at hh
      · obtain ⟨a, b, c⟩ := hh
        exact ⟨a, fun e he hb => hk _ _ (b e he hb), fun hc => hk _ _ (c hc)⟩
      · exact hh.elim
    · exact hh.elim
  · exact hh.elim

theorem runA_mono {P : Program} {op : AOp} {K K' : Value → AHeap → Prop} {X : Value → AHeap → Prop} {env : List Value} {h : AHeap} (hk : ∀ v h', K v h' → K' v h') (hh : runA P op K X env h) : runA P op K' X env h := by
  unfold runA at *
  split at hh
  · exact callA_mono (fun r h' hr => by cases r <;> first | exact hk _ _ hr | exact hr) hh
  · exact nextAll_mono hk hh
  · exact hh
  · split at hh
    · rename_i hl
      rw [if_pos hl]
      split at hh
      · exact hk _ _ hh
      · exact hh.elim
    · rename_i hl
      rw [if_neg hl]
      split at hh
      · exact hk _ _ hh
      · exact hh.elim

theorem wopA_mono {P : Program} {o : AOper} {K K' : List Value → AHeap → Prop} {X : Value → AHeap → Prop} {env : List Value} {h : AHeap} (hk : ∀ e h', K e h' → K' e h') (hh : wopA P o K X env h) : wopA P o K' X env h := by
  unfold wopA at *
  split at hh
  · exact hh.elim
  · exact hk _ _ hh
  · exact runA_mono (fun v h' hv => hk _ _ hv) hh

/-! ### The model's operation and ours -/

/-- The operation with its types resolved; its guard by the temporary that bears it. -/
def compOper (P : Program) (ops : Array Oper) (o : Oper) : Option AOper :=
  match comp P o.op with
  | none => none
  | some op => match o.guard with
    | none => some { dst := o.dst, op, guard := none }
    | some (j, want) => match (ops[j]?).bind (·.dst) with
      | some t => some { dst := o.dst, op, guard := some (t, want) }
      | none => none

section
variable {P : Program} {ι : Inj} {h : AHeap} {w : World} {env : List Value} {a : Act}

theorem ERel.put (hE : ERel ι env a) {dst : Option Nat} {v v' : Value} (hv : V ι v v') : ERel ι (aput env dst v) (a.put dst v') := by
  cases dst with
  | none => exact hE
  | some d =>
    unfold ERel aput Act.put
    simp only [Array.toList_setIfInBounds]
    exact VL.set hE d hv

theorem put_defers {dst : Option Nat} {v : Value} : (a.put dst v).defers = a.defers := by cases dst <;> rfl

theorem tmp_rel (hE : ERel ι env a) (t : Nat) : V ι (env.getD t undef) (a.tmps.getD t undef) := ev_rel (x := .tmp t) (y := .t t) hE rfl

theorem guard_rel (hE : ERel ι env a) {ops : Array Oper} {o : Oper} {ao : AOper} (hc : compOper P ops o = some ao) {b : Bool} (hg : guardA env ao.guard = some b) : Region.wanted o (yielded ops a.tmps) = b := by
  unfold compOper at hc
  split at hc
  · cases hc
  · split at hc
    · rename_i hn
      injection hc with hc; subst hc
      simp only [guardA, Option.some.injEq] at hg; subst hg
      simp [Region.wanted, hn]
    · rename_i j want hn
      split at hc
      · rename_i t ht
        injection hc with hc; subst hc
        simp only [guardA] at hg
        have hV := tmp_rel hE t
        simp only [Region.wanted, hn]
        have hy : yielded ops a.tmps j = match a.tmps[t]? with | some (.bool b) => some b | _ => none := by unfold yielded; rw [ht]; rfl
        rw [hy]
        rw [Array.getD_eq_getD_getElem?] at hV
        split at hg
        · rename_i c hc
          injection hg with hg; subst hg
          rw [hc] at hV
          have := hV.bool_inv
          cases hx : a.tmps[t]? with
          | none => rw [hx] at this; simp [undef] at this
          | some y =>
            rw [hx] at this; simp at this; subst this
            simp
        · cases hg
        · rename_i hnb hnc
          injection hg with hg; subst hg
          cases hx : a.tmps[t]? with
          | none => rfl
          | some y =>
            rw [hx] at hV; simp only [Option.getD_some] at hV
            have : ∀ b, y ≠ .bool b := fun b hb => by
              subst hb
              generalize env.getD t undef = u at *
              cases hV with
              | junk v => exact hnc _ _ _ rfl
              | bool b => exact hnb _ rfl
            cases y <;> first | rfl | exact absurd rfl (this _)
      · cases hc

theorem comp_dst {ops : Array Oper} {o : Oper} {ao : AOper} (hc : compOper P ops o = some ao) : ao.dst = o.dst ∧ comp P o.op = some ao.op := by
  unfold compOper at hc
  split at hc
  · cases hc
  · rename_i op hop
    split at hc
    · injection hc with hc; subst hc; exact ⟨rfl, hop⟩
    · split at hc
      · injection hc with hc; subst hc; exact ⟨rfl, hop⟩
      · cases hc

end
end Go.Am
