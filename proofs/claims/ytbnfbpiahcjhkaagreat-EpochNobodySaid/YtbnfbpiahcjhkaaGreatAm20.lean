/- The abstract machine, twentieth part: REGIONS. Without a draw: one order. With a draw: heavy operations in their chain, light ones as early as they may come; whatever order the tape picks comes to the same. -/
import Derived.Test.YtbnfbpiahcjhkaaGreatAm19
namespace Go.Am
open Go

/-! ### What an operation looks at -/

def Opnd.tmps : Opnd → List Nat
  | .t n => [n]
  | .c _ => []

def oo (x : Option Opnd) : List Opnd := x.toList

def AOp.opnds : AOp → List Opnd
  | .mv x | .load1 x | .loadN _ x | .nilCheck x | .un _ x | .convI _ x | .convBS x | .mkIface _ x | .addOff _ x | .part _ _ x | .lenS x | .lenT x | .lenM x | .lenC _ x | .capS x | .extract _ x | .tassert _ _ _ x | .entry x
  | .box x | .clearM x | .clearS _ x | .range x | .convSB x | .next x | .panic x => [x]
  | .pick c a b => [c, a, b]
  | .build _ ps | .mkSlice _ _ ps => ps.map (·.2.2)
  | .bin _ x y | .eqB _ x y | .eqP _ _ x y | .eqI _ _ x y | .eqS _ _ x y | .idxAddrArr _ _ x y | .idxAddrSl _ x y | .idxArr _ _ _ x y | .idxStr x y | .lookup _ _ _ x y | .mxI x y | .mnI x y | .store _ x y | .makeSl _ _ _ x y
  | .append _ _ x y | .appendZ _ _ _ x y | .copy _ x y | .delete _ x y => [x, y]
  | .mkFunc _ f c => f ++ c
  | .sliceStr x l h => [x] ++ oo l ++ oo h
  | .sliceSl _ x l h m | .sliceArr _ _ x l h m => [x] ++ oo l ++ oo h ++ oo m
  | .alloc _ | .mkMap => []
  | .mapSet _ m k v => [m, k, v]
  | .call (.val x) args => x :: args
  | .call (.inv x _) args => x :: args

def AOper.names (o : AOper) : List Nat := o.op.opnds.flatMap Opnd.tmps ++ (match o.guard with | some (t, _) => [t] | none => [])

theorem ev_congr {env env' : List Value} {x : Opnd} (h : ∀ t ∈ x.tmps, env.getD t undef = env'.getD t undef) : x.ev env = x.ev env' := by
  cases x with
  | t n => exact h n (by simp [Opnd.tmps])
  | c v => rfl

theorem opnds_congr {env env' : List Value} {op : AOp} (h : ∀ t ∈ op.opnds.flatMap Opnd.tmps, env.getD t undef = env'.getD t undef) : ∀ x ∈ op.opnds, x.ev env = x.ev env' :=
  fun _ hx => ev_congr fun t ht => h t (List.mem_flatMap.2 ⟨_, hx, ht⟩)

theorem map_ev_congr {env env' : List Value} {l : List Opnd} (h : ∀ x ∈ l, x.ev env = x.ev env') : l.map (·.ev env) = l.map (·.ev env') := List.map_congr_left h

theorem parts_ev_congr {env env' : List Value} {l : List (Nat × Nat × Opnd)} (h : ∀ x ∈ l.map (·.2.2), x.ev env = x.ev env') : (l.map fun (o, n, x) => (o, n, x.ev env)) = (l.map fun (o, n, x) => (o, n, x.ev env')) :=
  List.map_congr_left fun p hp => by
    obtain ⟨o, n, x⟩ := p
    simp only [h x (List.mem_map.2 ⟨_, hp, rfl⟩)]

theorem oo_ev_congr {env env' : List Value} {x : Option Opnd} (h : ∀ y ∈ oo x, y.ev env = y.ev env') : x.map (·.ev env) = x.map (·.ev env') := by
  cases x with
  | none => rfl
  | some y => simp [h y (by simp [oo])]

theorem lightVal_congr {op : AOp} {env env' : List Value} {h : AHeap} (hx : ∀ x ∈ op.opnds, x.ev env = x.ev env') : lightVal op env h = lightVal op env' h := by
  cases op <;> simp only [AOp.opnds] at hx <;> simp only [lightVal]
  case build z ps => rw [parts_ev_congr hx]
  case mkFunc fn f c => rw [map_ev_congr (l := f) fun x h => hx x (by simp [h]), map_ev_congr (l := c) fun x h => hx x (by simp [h])]
  case sliceStr x l hh => rw [hx x (by simp), oo_ev_congr (x := l) fun y h => hx y (by simp [h]), oo_ev_congr (x := hh) fun y h => hx y (by simp [h])]
  case sliceSl n x l hh m => rw [hx x (by simp), oo_ev_congr (x := l) fun y h => hx y (by simp [h]), oo_ev_congr (x := hh) fun y h => hx y (by simp [h]), oo_ev_congr (x := m) fun y h => hx y (by simp [h])]
  case sliceArr n k x l hh m => rw [hx x (by simp), oo_ev_congr (x := l) fun y h => hx y (by simp [h]), oo_ev_congr (x := hh) fun y h => hx y (by simp [h]), oo_ev_congr (x := m) fun y h => hx y (by simp [h])]
  all_goals simp_all

theorem heavyVal_congr {op : AOp} {env env' : List Value} {h : AHeap} (hx : ∀ x ∈ op.opnds, x.ev env = x.ev env') : heavyVal op env h = heavyVal op env' h := by
  cases op <;> simp only [AOp.opnds] at hx <;> simp only [heavyVal]
  case mkSlice n z ps => rw [parts_ev_congr hx]
  all_goals simp_all

theorem runA_congr {P : Program} {op : AOp} {K : Value → AHeap → Prop} {X : Value → AHeap → Prop} {env env' : List Value} {h : AHeap} (hx : ∀ x ∈ op.opnds, x.ev env = x.ev env') (hr : runA P op K X env h) : runA P op K X env' h := by
  unfold runA at *
  cases op <;> simp only at hr ⊢
  case call c args =>
    cases c with
    | val x =>
      simp only [AOp.opnds] at hx
      rw [map_ev_congr (l := args) fun y h => hx y (by simp [h])] at hr
      unfold callA at *
      simp only at *
      rw [hx x (by simp)] at hr
      exact hr
    | inv x n =>
      simp only [AOp.opnds] at hx
      rw [map_ev_congr (l := args) fun y h => hx y (by simp [h])] at hr
      unfold callA at *
      simp only at *
      rw [hx x (by simp)] at hr
      exact hr
  case next it => simp only [AOp.opnds] at hx; rw [hx it (by simp)] at hr; exact hr
  case panic x => simp only [AOp.opnds] at hx; rw [hx x (by simp)] at hr; exact hr
  all_goals (rw [lightVal_congr hx, heavyVal_congr hx] at hr; exact hr)

/-- Whether the operation looks into the heap. -/
def AOp.looks : AOp → Bool
  | .load1 _ | .loadN .. | .convBS _ | .sliceSl .. | .lookup .. | .lenM _ | .capS _ | .entry _ => true
  | _ => false

theorem lightVal_blind {op : AOp} (hl : op.looks = false) (env : List Value) (h h' : AHeap) : lightVal op env h = lightVal op env h' := by
  cases op <;> simp [AOp.looks] at hl <;> rfl

theorem guardA_congr {env env' : List Value} {g : Option (Nat × Bool)} (h : ∀ t ∈ (match g with | some (t, _) => [t] | none => []), env.getD t undef = env'.getD t undef) : guardA env g = guardA env' g := by
  cases g with
  | none => rfl
  | some p =>
    obtain ⟨t, want⟩ := p
    simp only [guardA]
    rw [h t (by simp)]

theorem wopA_congr {P : Program} {o : AOper} {K K' : List Value → AHeap → Prop} {X : Value → AHeap → Prop} {env env' : List Value} {h : AHeap} (hn : ∀ t ∈ o.names, env.getD t undef = env'.getD t undef)
    (hk : ∀ v h', K (aput env o.dst v) h' → K' (aput env' o.dst v) h') (hr : wopA P o K X env h) : wopA P o K' X env' h := by
  unfold wopA at *
  have hg : guardA env o.guard = guardA env' o.guard := guardA_congr fun t ht => hn t (by unfold AOper.names; exact List.mem_append_right _ ht)
  rw [← hg]
  split at hr
  · exact hr.elim
  · exact hk _ _ hr
  · refine runA_congr (opnds_congr fun t ht => hn t (by unfold AOper.names; exact List.mem_append_left _ ht)) (runA_mono (fun v h' hv => hk _ _ hv) hr)

/-! ### A region in the order of its text -/

def wopsA (P : Program) (K : List Value → AHeap → Prop) (X : Value → AHeap → Prop) : List AOper → List Value → AHeap → Prop
  | [], env, h => K env h
  | o :: rest, env, h => wopA P o (wopsA P K X rest) X env h

section
variable {P : Program} {ops : Array Oper} {Q : Exit → Act → World → Prop}

theorem wopsA_sound {K : List Value → AHeap → Prop} {X : Value → AHeap → Prop} {ι0 : Inj} {h0 : AHeap} {w0 : World}
    (hK : ∀ ι' env' h' a' w', K env' h' → R ι' h' w' → ERel ι' env' a' → a'.defers = [] → Step ι0 h0 w0 ι' h' w' → Q .normal a' w')
    (hX : ∀ ι' v v' h' a' w', X v h' → V ι' v v' → R ι' h' w' → a'.defers = [] → Step ι0 h0 w0 ι' h' w' → Q (.panic [{ v := v', recovered := false }]) a' w') :
    ∀ (l : List Nat) (aos : List AOper), (l.mapM fun i => (ops[i]?).bind (compOper P ops)) = some aos → ∀ (ι : Inj) (env : List Value) (h : AHeap) (a : Act) (w : World), wopsA P K X aos env h → R ι h w → ERel ι env a → a.defers = [] → Step ι0 h0 w0 ι h w →
      wpOps P ops Q l a w
  | [], aos, hl, ι, env, h, a, w, hw, hR, hE, hd, hS => by
    simp at hl; subst hl
    exact hK ι env h a w hw hR hE hd hS
  | i :: l, aos, hl, ι, env, h, a, w, hw, hR, hE, hd, hS => by
    simp only [List.mapM_cons, Option.bind_eq_bind, Option.pure_def, Option.bind_eq_some_iff, Option.some.injEq] at hl
    obtain ⟨ao, ⟨o, ho, hc⟩, aos', hl', rfl⟩ := hl
    rw [wpOps_cons]
    refine wopA_sound ho hc hw hR hE hd (fun ι' env' h' a' w' hk hR' hE' hd' hS' => ?_) (fun ι' v v' h' w' hx hV hR' hS' => hX ι' v v' h' a w' hx hV hR' hd (hS.trans hS'))
    exact wopsA_sound hK hX l aos' hl' ι' env' h' a' w' hk hR' hE' hd' (hS.trans hS')

end
end Go.Am
