/- The abstract machine, twenty-third part: CODE. -/
import Derived.Test.YtbnfbpiahcjhkaaGreatAm22
namespace Go.Am
open Go

inductive ACode where
  | skip
  | ops (aos : List AOper)
  | draw (aos : List AOper) (t : OTree)
  | seq (a b : ACode)
  | cond (c : Opnd) (a b : ACode)
  | block (id : Nat) (b : ACode)
  | loop (live : List Nat) (b : ACode)
  | exit (id : Nat)
  | ret
  | stuck

inductive AExit where
  | normal
  | exit (id : Nat)
  | ret
  | panic (v : Value)

/-- What is dead is forgotten. -/
def junkFrom (live : List Nat) : Nat → List Value → List Value
  | _, [] => []
  | i, v :: l => (if live.contains i then v else junk) :: junkFrom live (i + 1) l

def junkDead (live : List Nat) (env : List Value) : List Value := junkFrom live 0 env

theorem junkFrom_rel {ι : Inj} {live : List Nat} : ∀ {i : Nat} {env ys : List Value}, VL ι env ys → VL ι (junkFrom live i env) ys
  | i, [], ys, h => by rw [h.nil_inv]; exact VL.nil ι
  | i, v :: env, ys, h => by
    obtain ⟨y, ys', rfl, h1, h2⟩ := h.cons_inv
    refine VL.cons ?_ (junkFrom_rel h2)
    split
    · exact h1
    · exact .junk y

abbrev Post := AExit → List Value → AHeap → Prop

def Post.then (next : List Value → AHeap → Prop) (Q : Post) : Post
  | .normal, env, h => next env h
  | e, env, h => Q e env h

def Post.inBlock (id : Nat) (Q : Post) : Post
  | .exit j, env, h => if j = id then Q .normal env h else Q (.exit j) env h
  | e, env, h => Q e env h

def wcode (P : Program) : ACode → Post → List Value → AHeap → Prop
  | .skip, Q, env, h => Q .normal env h
  | .ops aos, Q, env, h => wopsA P (Q .normal) (fun v h => Q (.panic v) [] h) aos env h
  | .draw aos t, Q, env, h => wtree P aos (Q .normal) (fun v h => Q (.panic v) [] h) t env h
  | .seq a b, Q, env, h => wcode P a (Post.then (wcode P b Q) Q) env h
  | .cond c a b, Q, env, h => match c.ev env with
    | .bool true => wcode P a Q env h
    | .bool false => wcode P b Q env h
    | _ => False
  | .block id b, Q, env, h => wcode P b (Post.inBlock id Q) env h
  | .loop live b, Q, env, h => ∃ (I : List Value → AHeap → Prop) (μ : List Value → AHeap → Nat), I (junkDead live env) h ∧
      ∀ env h, I env h → wcode P b (Post.then (fun env' h' => I (junkDead live env') h' ∧ μ (junkDead live env') h' < μ env h) Q) env h
  | .exit id, Q, env, h => Q (.exit id) env h
  | .ret, Q, env, h => Q .ret env h
  | .stuck, _, _, _ => False

/-! ### The model's code and ours -/

/-- The plan of a region, by program: unchecked. -/
def mkPlan (ops : Array Oper) (aos : List AOper) (A : List (List Nat)) : Nat → Array Bool → List Nat → OTree
  | 0, _, _ => .done
  | f + 1, listed, fl =>
    let rs := Region.ready .any ops listed
    match rs.find? (isLight aos) with
    | some i => .light i (mkPlan ops aos A f (listed.setIfInBounds i true) (i :: fl))
    | none => if rs.isEmpty then .done else rs.foldr (fun i rest =>
        let fl' := fl.filter fun r => !(A.getD i []).contains r
        .alt i (fl'.filter (isLooks aos)) (mkPlan ops aos A f (listed.setIfInBounds i true) fl') rest) .stop

def compOps (P : Program) (ops : Array Oper) : Option (List AOper) := ops.toList.mapM (compOper P ops)

/-- What is not covered is stuck. -/
def compCode (P : Program) : Code → ACode
  | .skip => .skip
  | .region _ ops draw => match compOps P ops with
    | none => .stuck
    | some aos => if draw then
        let A := ancs ops ops.size
        let t := mkPlan ops aos A (ops.size + 1) (Array.replicate ops.size false) []
        if okT ops aos A t false (Array.replicate ops.size false) [] then .draw aos t else .stuck
      else .ops aos
  | .seq a b => .seq (compCode P a) (compCode P b)
  | .cond c a b => match compO c with
    | some c => .cond c (compCode P a) (compCode P b)
    | none => .stuck
  | .block id b => .block id (compCode P b)
  | .loop b => .loop [] (compCode P b)
  | .exit id => .exit id
  | .ret => .ret
  | _ => .stuck

/-- The same code, the loops' hints struck. -/
def ACode.bare : ACode → ACode
  | .seq a b => .seq a.bare b.bare
  | .cond c a b => .cond c a.bare b.bare
  | .block id b => .block id b.bare
  | .loop _ b => .loop [] b.bare
  | c => c

section
variable {P : Program}

/-- What is told of the world where the code has ended. -/
def Lift (ι0 : Inj) (h0 : AHeap) (w0 : World) (Q : Post) (e : Exit) (a : Act) (w : World) : Prop :=
  ∃ ι h, R ι h w ∧ a.defers = [] ∧ Step ι0 h0 w0 ι h w ∧
    ((∃ v v', e = .panic [{ v := v', recovered := false }] ∧ V ι v v' ∧ Q (.panic v) [] h) ∨
     (e = .normal ∧ ∃ env, ERel ι env a ∧ Q .normal env h) ∨ (∃ id, e = .exit id ∧ ∃ env, ERel ι env a ∧ Q (.exit id) env h) ∨ (e = .ret ∧ ∃ env, ERel ι env a ∧ Q .ret env h))

theorem Lift.step {ι0 ι1 : Inj} {h0 h1 : AHeap} {w0 w1 : World} (hS : Step ι0 h0 w0 ι1 h1 w1) {Q : Post} {e : Exit} {a : Act} {w : World} (hl : Lift ι1 h1 w1 Q e a w) : Lift ι0 h0 w0 Q e a w :=
  let ⟨ι, h, a, b, c, d⟩ := hl; ⟨ι, h, a, b, hS.trans c, d⟩

theorem mapM_range {ops : Array Oper} {f : Oper → Option AOper} {aos : List AOper} (h : ops.toList.mapM f = some aos) : ((List.range ops.size).mapM fun i => (ops[i]?).bind f) = some aos := by
  have key : ∀ (l : List Oper) (k : Nat), (∀ j, l[j]? = ops[k + j]?) → ((List.range' k l.length).mapM fun i => (ops[i]?).bind f) = l.mapM f := by
    intro l
    induction l with
    | nil => intro k _; rfl
    | cons o l ih =>
      intro k hk
      have h0 : ops[k]? = some o := by simpa using (hk 0).symm
      simp only [List.length_cons, List.range'_succ, List.mapM_cons, h0, Option.bind_some]
      rw [ih (k + 1) (fun j => by have := hk (j + 1); simpa [Nat.add_assoc, Nat.add_comm 1 j] using this)]
  have := key ops.toList 0 (by simp)
  rw [List.range_eq_range']
  simpa [h] using this

theorem mapM_get {ops : Array Oper} {f : Oper → Option AOper} {aos : List AOper} (h : ops.toList.mapM f = some aos) : aos.length = ops.size ∧ ∀ (i : Nat) (o : Oper), ops[i]? = some o → ∃ ao, aos[i]? = some ao ∧ f o = some ao := by
  have key : ∀ (l : List Oper) (as : List AOper), l.mapM f = some as → as.length = l.length ∧ ∀ (i : Nat) (o : Oper), l[i]? = some o → ∃ ao, as[i]? = some ao ∧ f o = some ao := by
    intro l
    induction l with
    | nil => intro as h; simp at h; subst h; simp
    | cons x l ih =>
      intro as h
      simp only [List.mapM_cons, Option.bind_eq_bind, Option.pure_def, Option.bind_eq_some_iff, Option.some.injEq] at h
      obtain ⟨y, hy, ys, hys, rfl⟩ := h
      obtain ⟨h1, h2⟩ := ih ys hys
      refine ⟨by simp [h1], fun i o ho => ?_⟩
      cases i with
      | zero => simp at ho; subst ho; exact ⟨y, rfl, hy⟩
      | succ i => exact h2 i o (by simpa using ho)
  obtain ⟨h1, h2⟩ := key _ _ h
  exact ⟨by simpa using h1, fun i o ho => h2 i o (by simpa using ho)⟩

/-- Whatever comes up next, in the world. -/
theorem any_sound {ops : Array Oper} {aos : List AOper} (hc : compOps P ops = some aos) {Q : Post} {ι0 : Inj} {h0 : AHeap} {w0 : World} : ∀ (fuel : Nat) (listed : Array Bool) (ι : Inj) (env : List Value) (h : AHeap) (a : Act) (w : World),
    AnyA P ops aos (Q .normal) (fun v h => Q (.panic v) [] h) fuel listed env h → R ι h w → ERel ι env a → a.defers = [] → Step ι0 h0 w0 ι h w → wpAny P .any ops (Lift ι0 h0 w0 Q) fuel listed a w
  | 0, listed, ι, env, h, a, w, hA, hR, hE, hd, hS => ⟨hA.1, ⟨ι, h, hR, hd, hS, .inr (.inl ⟨rfl, env, hE, hA.2⟩)⟩⟩
  | fuel + 1, listed, ι, env, h, a, w, hA, hR, hE, hd, hS => by
    refine ⟨fun hr => ⟨ι, h, hR, hd, hS, .inr (.inl ⟨rfl, env, hE, hA.1 hr⟩)⟩, fun i hi => ?_⟩
    obtain ⟨ao, hao, hw⟩ := hA.2 i hi
    obtain ⟨_, hlt, _⟩ := ready_iff.1 hi
    obtain ⟨ao', h1, h2⟩ := (mapM_get hc).2 i ops[i] (Array.getElem?_eq_getElem hlt)
    rw [hao] at h1; injection h1 with h1; subst h1
    refine wopA_sound (Array.getElem?_eq_getElem hlt) h2 hw hR hE hd (fun ι' env' h' a' w' hk hR' hE' hd' hS' => ?_) (fun ι' v v' h' w' hx hV hR' hS' => ?_)
    · exact any_sound hc fuel _ ι' env' h' a' w' hk hR' hE' hd' (hS.trans hS')
    · exact ⟨ι', h', hR', hd, hS.trans hS', .inl ⟨v, v', rfl, hV, hx⟩⟩

end
end Go.Am
