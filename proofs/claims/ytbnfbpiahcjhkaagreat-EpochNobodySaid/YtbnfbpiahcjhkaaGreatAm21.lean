/- The abstract machine, twenty-first part: REGIONS THAT DRAW THEIR ORDER. The plan of a region ('OTree') takes light operations as early as they may come and heavy ones in their chain (or by cases); whatever order the tape picks comes to the same. -/
import Derived.Test.YtbnfbpiahcjhkaaGreatAm20
namespace Go.Am
open Go

inductive OTree where
  | done
  | light (i : Nat) (t : OTree)
  | alt (i : Nat) (chk : List Nat) (t rest : OTree)
  | stop

def OTree.heads : OTree → List Nat
  | .alt i _ _ rest => i :: rest.heads
  | _ => []

/-- What an operation waits for. -/
def dd (ops : Array Oper) (i : Nat) : List Nat :=
  match ops[i]? with
  | some o => (o.after.toList.filter fun e => Region.binds .any e).map (·.on)
  | none => []

/-- All that an operation waits for, of the first n. -/
def ancs (ops : Array Oper) : Nat → List (List Nat)
  | 0 => []
  | n + 1 => let A := ancs ops n; A ++ [((dd ops n).flatMap fun j => j :: A.getD j []).eraseDups]

def dstOf (aos : List AOper) (i : Nat) : Option Nat := (aos[i]?).bind (·.dst)

def namesOf (aos : List AOper) (i : Nat) : List Nat := ((aos[i]?).map AOper.names).getD []

def inNames (d : Option Nat) (l : List Nat) : Bool := match d with | some t => l.contains t | none => false

def sameDst (d e : Option Nat) : Bool := match d, e with | some t, some u => t == u | _, _ => false

/-- Later one x, earlier one y. -/
def fits (ops : Array Oper) (aos : List AOper) (x y : Nat) : Bool :=
  !inNames (dstOf aos x) (namesOf aos y) && !sameDst (dstOf aos x) (dstOf aos y) && (!inNames (dstOf aos y) (namesOf aos x) || (dd ops x).contains y)

def isLight (aos : List AOper) (i : Nat) : Bool := ((aos[i]?).map (·.op.light)).getD false
def isLooks (aos : List AOper) (i : Nat) : Bool := ((aos[i]?).map (·.op.looks)).getD false

def okT (ops : Array Oper) (aos : List AOper) (A : List (List Nat)) : OTree → Bool → Array Bool → List Nat → Bool
  | .done, b, listed, _ => !b && (Region.ready .any ops listed).isEmpty
  | .light i t, b, listed, fl => !b && (Region.ready .any ops listed).contains i && isLight aos i && !inNames (dstOf aos i) (namesOf aos i) && fl.all (fits ops aos i) &&
      okT ops aos A t false (listed.setIfInBounds i true) (i :: fl)
  | .alt i chk t rest, b, listed, fl =>
    let fl' := fl.filter fun r => !(A.getD i []).contains r
    (Region.ready .any ops listed).contains i && (aos[i]?).isSome && fl.all (fun r => !inNames (dstOf aos r) (namesOf aos i) || (dd ops i).contains r) &&
      fl'.all (fun r => !inNames (dstOf aos i) (namesOf aos r) && !sameDst (dstOf aos i) (dstOf aos r)) &&
      fl'.all (fun r => !isLooks aos r || (chk.contains r && (dstOf aos r).isSome)) &&
      okT ops aos A t false (listed.setIfInBounds i true) fl' && okT ops aos A rest true listed fl && (match rest with | .alt .. | .stop => true | _ => false) &&
      (b || (Region.ready .any ops listed).all fun j => (i :: rest.heads).contains j)
  | .stop, b, _, _ => b

/-- A value that was read ahead is read still. -/
def chkOk (aos : List AOper) (r : Nat) (env : List Value) (h : AHeap) : Prop :=
  match aos[r]? with
  | some o => match o.dst with
    | some d => guardA env o.guard = some true → lightVal o.op env h = some (env.getD d undef)
    | none => True
  | none => False

def chksOk (aos : List AOper) : List Nat → List Value → AHeap → Prop
  | [], _, _ => True
  | r :: rs, env, h => chkOk aos r env h ∧ chksOk aos rs env h

def wtree (P : Program) (aos : List AOper) (K : List Value → AHeap → Prop) (X : Value → AHeap → Prop) : OTree → List Value → AHeap → Prop
  | .done, env, h => K env h
  | .light i t, env, h => match aos[i]? with
    | none => False
    | some o => match guardA env o.guard with
      | none => False
      | some false => wtree P aos K X t (aput env o.dst undef) h
      | some true => match lightVal o.op env h with
        | some v => wtree P aos K X t (aput env o.dst v) h
        | none => False
  | .alt i chk t rest, env, h => (match aos[i]? with
    | none => False
    | some o => wopA P o (fun env' h' => chksOk aos chk env' h' ∧ wtree P aos K X t env' h') X env h) ∧ wtree P aos K X rest env h
  | .stop, _, _ => True

/-- Whatever comes up next. -/
def AnyA (P : Program) (ops : Array Oper) (aos : List AOper) (K : List Value → AHeap → Prop) (X : Value → AHeap → Prop) : Nat → Array Bool → List Value → AHeap → Prop
  | 0, listed, env, h => Region.ready .any ops listed = [] ∧ K env h
  | f + 1, listed, env, h => (Region.ready .any ops listed = [] → K env h) ∧
    ∀ i ∈ Region.ready .any ops listed, ∃ o, aos[i]? = some o ∧ wopA P o (AnyA P ops aos K X f (listed.setIfInBounds i true)) X env h

def DownC (ops : Array Oper) (l : Array Bool) : Prop := ∀ i, l.getD i false = true → ∀ j ∈ dd ops i, l.getD j false = true

theorem mem_dd {ops : Array Oper} {i j : Nat} : j ∈ dd ops i ↔ ∃ o, ops[i]? = some o ∧ ∃ e ∈ o.after, Region.binds .any e = true ∧ e.on = j := by
  unfold dd
  cases h : ops[i]? with
  | none => simp
  | some o => simp [and_assoc]

theorem ready_iff {ops : Array Oper} {l : Array Bool} {i : Nat} : i ∈ Region.ready .any ops l ↔ l.getD i true = false ∧ i < ops.size ∧ ∀ j ∈ dd ops i, l.getD j false = true := by
  rw [mem_ready]
  constructor
  · rintro ⟨h0, o, ho, h⟩
    refine ⟨h0, (Array.getElem?_eq_some_iff.1 ho).1, fun j hj => ?_⟩
    obtain ⟨o', ho', e, he, hb, rfl⟩ := mem_dd.1 hj
    rw [ho] at ho'; injection ho' with ho'; subst ho'
    exact h e he hb
  · rintro ⟨h0, hlt, h⟩
    refine ⟨h0, ops[i], Array.getElem?_eq_getElem hlt, fun e he hb => h _ (mem_dd.2 ⟨_, Array.getElem?_eq_getElem hlt, e, he, hb, rfl⟩)⟩

theorem unl_of {l : Array Bool} {i : Nat} (h : l.getD i true = false) : l.getD i false = false ∧ i < l.size := by
  rcases Nat.lt_or_ge i l.size with hlt | hge
  · simp [hlt] at h ⊢; exact h
  · simp [Array.getElem?_eq_none hge] at h

theorem unl_to {l : Array Bool} {i : Nat} (h : l.getD i false = false) (hi : i < l.size) : l.getD i true = false := by
  simp [hi] at h ⊢; exact h

theorem set_getD {l : Array Bool} {i j : Nat} (hi : i < l.size) : (l.setIfInBounds i true).getD j false = if j = i then true else l.getD j false := by
  by_cases e : j = i
  · subst e; simp [hi]
  · rw [if_neg e, getD_set_ne false (Ne.symm e)]

theorem DownC.set {ops : Array Oper} {l : Array Bool} {i : Nat} (h : DownC ops l) (hr : i ∈ Region.ready .any ops l) : DownC ops (l.setIfInBounds i true) := by
  obtain ⟨h0, _, hd⟩ := ready_iff.1 hr
  have hi := (unl_of h0).2
  intro x hx j hj
  rw [set_getD hi] at hx ⊢
  split
  · rfl
  · by_cases e : x = i
    · subst e; exact hd j hj
    · rw [if_neg e] at hx; exact h x hx j hj

theorem ancs_length (ops : Array Oper) : ∀ n, (ancs ops n).length = n
  | 0 => rfl
  | n + 1 => by simp [ancs, ancs_length ops n]

theorem anc_listed {ops : Array Oper} {l : Array Bool} (hl : DownC ops l) : ∀ (n i : Nat), (∀ j ∈ dd ops i, l.getD j false = true) → ∀ j ∈ (ancs ops n).getD i [], l.getD j false = true
  | 0, i, _, j, hj => by simp [ancs] at hj
  | n + 1, i, hi, j, hj => by
    simp only [ancs, List.getD_eq_getElem?_getD] at hj
    by_cases h : i < (ancs ops n).length
    · rw [List.getElem?_append_left h, ← List.getD_eq_getElem?_getD] at hj
      exact anc_listed hl n i hi j hj
    · rw [List.getElem?_append_right (by omega)] at hj
      rw [ancs_length] at hj h
      by_cases e : i - n = 0
      · have : i = n := by omega
        subst this
        simp only [e, List.getElem?_cons_zero, Option.getD_some, List.mem_eraseDups, List.mem_flatMap, List.mem_cons] at hj
        obtain ⟨k, hk, rfl | hj⟩ := hj
        · exact hi _ hk
        · exact anc_listed hl i k (hl k (hi k hk)) j (by rw [List.getD_eq_getElem?_getD]; exact hj)
      · rw [List.getElem?_eq_none (by simp; omega)] at hj
        simp at hj


/-! ### The invariant -/

structure Inv (ops : Array Oper) (aos : List AOper) (listed : Array Bool) (env : List Value) (lstar : Array Bool) (fl : List Nat) (envs : List Value) (h : AHeap) : Prop where
  size : listed.size = ops.size
  sizes : lstar.size = ops.size
  down : DownC ops listed
  downs : DownC ops lstar
  sub : ∀ i, listed.getD i false = true → lstar.getD i false = true
  fl_in : ∀ i ∈ fl, lstar.getD i false = true ∧ isLight aos i = true ∧ inNames (dstOf aos i) (namesOf aos i) = false ∧ i ∉ dd ops i
  rest : ∀ i, lstar.getD i false = true → listed.getD i false = false → i ∈ fl
  ord : fl.Pairwise fun x y => x ∉ dd ops y
  pw : fl.Pairwise fun x y => fits ops aos x y = true
  len : env.length = envs.length
  agree : ∀ t, (∀ i ∈ fl, listed.getD i false = false → dstOf aos i ≠ some t) → env.getD t undef = envs.getD t undef
  prom : ∀ i ∈ fl, listed.getD i false = false → ∀ o, aos[i]? = some o →
    (guardA envs o.guard = some false ∧ ∀ d, o.dst = some d → envs.getD d undef = undef) ∨
    (guardA envs o.guard = some true ∧ ∃ v, lightVal o.op envs h = some v ∧ ∀ d, o.dst = some d → d < envs.length → envs.getD d undef = v)

theorem getD_set (l : List Value) (d t : Nat) (v : Value) : (l.set d v).getD t undef = if t = d ∧ d < l.length then v else l.getD t undef := by
  simp only [List.getD_eq_getElem?_getD, List.getElem?_set]
  by_cases e : d = t
  · subst e
    by_cases hl : d < l.length
    · simp [hl]
    · simp [hl]
  · simp [e, Ne.symm e]

theorem aput_getD (env : List Value) (dst : Option Nat) (v : Value) (t : Nat) : (aput env dst v).getD t undef = if dst = some t ∧ t < env.length then v else env.getD t undef := by
  cases dst with
  | none => simp [aput]
  | some d =>
    simp only [aput, getD_set, Option.some.injEq]
    by_cases e : d = t
    · subst e; simp
    · simp [e, Ne.symm e]

theorem aput_length (env : List Value) (dst : Option Nat) (v : Value) : (aput env dst v).length = env.length := by cases dst <;> simp [aput]

theorem inNames_false {d : Option Nat} {l : List Nat} (h : inNames d l = false) : ∀ t ∈ l, d ≠ some t := fun t ht e => by
  subst e; simp [inNames] at h; exact h ht

theorem inNames_true {d : Nat} {l : List Nat} (h : d ∈ l) : inNames (some d) l = true := by simp [inNames, h]

theorem sameDst_false {d e : Option Nat} (h : sameDst d e = false) : ∀ t, d = some t → e ≠ some t := fun t h1 h2 => by
  subst h1 h2; simp [sameDst] at h

theorem names_aput {env : List Value} {dst : Option Nat} {l : List Nat} (h : inNames dst l = false) (v : Value) : ∀ t ∈ l, (aput env dst v).getD t undef = env.getD t undef := fun t ht => by
  rw [aput_getD, if_neg (fun c => inNames_false h t ht c.1)]

theorem guard_names {o : AOper} : ∀ t ∈ (match o.guard with | some (t, _) => [t] | none => []), t ∈ o.names := fun t ht => List.mem_append_right _ ht
theorem op_names {o : AOper} : ∀ t ∈ o.op.opnds.flatMap Opnd.tmps, t ∈ o.names := fun t ht => List.mem_append_left _ ht

theorem guardA_names {env env' : List Value} {o : AOper} (h : ∀ t ∈ o.names, env.getD t undef = env'.getD t undef) : guardA env o.guard = guardA env' o.guard :=
  guardA_congr fun t ht => h t (guard_names t ht)
theorem lightVal_names {env env' : List Value} {o : AOper} (h : ∀ t ∈ o.names, env.getD t undef = env'.getD t undef) (hp : AHeap) : lightVal o.op env hp = lightVal o.op env' hp :=
  lightVal_congr (opnds_congr fun t ht => h t (op_names t ht))

theorem fits_iff {ops : Array Oper} {aos : List AOper} {x y : Nat} : fits ops aos x y = true ↔ inNames (dstOf aos x) (namesOf aos y) = false ∧ sameDst (dstOf aos x) (dstOf aos y) = false ∧ (inNames (dstOf aos y) (namesOf aos x) = true → y ∈ dd ops x) := by
  simp only [fits, Bool.and_eq_true, Bool.not_eq_true', Bool.or_eq_true, List.contains_iff_mem, and_assoc]
  constructor
  · rintro ⟨a, b, c⟩
    exact ⟨a, b, fun h => c.resolve_left (by rw [h]; simp)⟩
  · rintro ⟨a, b, c⟩
    refine ⟨a, b, ?_⟩
    cases hq : inNames (dstOf aos y) (namesOf aos x) with
    | false => exact .inl rfl
    | true => exact .inr (c hq)

theorem runA_light {P : Program} {op : AOp} (hl : op.light = true) {K : Value → AHeap → Prop} {X : Value → AHeap → Prop} {env : List Value} {h : AHeap} {v : Value} (hv : lightVal op env h = some v) (hk : K v h) : runA P op K X env h := by
  unfold runA
  split
  · simp [AOp.light] at hl
  · simp [AOp.light] at hl
  · simp [AOp.light] at hl
  · rw [if_pos hl, hv]; exact hk

section
variable {P : Program} {ops : Array Oper} {aos : List AOper} {K : List Value → AHeap → Prop} {X : Value → AHeap → Prop}

/-- What an operation that may come up reads is the same in both runs. -/
theorem Inv.names {listed lstar : Array Bool} {fl : List Nat} {env envs : List Value} {h : AHeap} (I : Inv ops aos listed env lstar fl envs h) {i : Nat} {o : AOper} (ho : aos[i]? = some o)
    (hr : ∀ j ∈ dd ops i, listed.getD j false = true) (hn : ∀ r ∈ fl, listed.getD r false = false → inNames (dstOf aos r) (namesOf aos i) = true → r ∈ dd ops i) : ∀ t ∈ o.names, env.getD t undef = envs.getD t undef := fun t ht => by
  refine I.agree t fun r hrf hu e => ?_
  have : inNames (dstOf aos r) (namesOf aos i) = true := by
    rw [e]; refine inNames_true ?_; simp [namesOf, ho, ht]
  have := hr r (hn r hrf hu this)
  rw [hu] at this; cases this

/-- The plan takes what may be taken at once. -/
theorem saturate {A : List (List Nat)} : ∀ (t : OTree) (listed lstar : Array Bool) (fl : List Nat) (env envs : List Value) (h : AHeap), okT ops aos A t false lstar fl = true → wtree P aos K X t envs h → Inv ops aos listed env lstar fl envs h →
    ∃ t' lstar' fl' envs', (∀ i s, t' ≠ .light i s) ∧ okT ops aos A t' false lstar' fl' = true ∧ wtree P aos K X t' envs' h ∧ Inv ops aos listed env lstar' fl' envs' h
  | .done, listed, lstar, fl, env, envs, h, hk, hw, I => ⟨.done, lstar, fl, envs, by simp, hk, hw, I⟩
  | .alt i c t r, listed, lstar, fl, env, envs, h, hk, hw, I => ⟨.alt i c t r, lstar, fl, envs, by simp, hk, hw, I⟩
  | .stop, listed, lstar, fl, env, envs, h, hk, hw, I => by simp [okT] at hk
  | .light i t, listed, lstar, fl, env, envs, h, hk, hw, I => by
    simp only [okT, Bool.and_eq_true, Bool.not_eq_true', List.contains_iff_mem, List.all_eq_true] at hk
    obtain ⟨⟨⟨⟨⟨_, hready⟩, hlight⟩, hself⟩, hfits⟩, hok⟩ := hk
    obtain ⟨hu, hlt, hdd⟩ := ready_iff.1 hready
    have hu' := unl_of hu
    have hunl : listed.getD i false = false := by
      cases hq : listed.getD i false with
      | false => rfl
      | true => have := I.sub i hq; rw [hu'.1] at this; cases this
    simp only [wtree] at hw
    split at hw
    · exact hw.elim
    · rename_i o ho
      have hlo : o.op.light = true := by simpa [isLight, ho] using hlight
      have hdst : dstOf aos i = o.dst := by simp [dstOf, ho]
      have hnames : namesOf aos i = o.names := by simp [namesOf, ho]
      rw [hdst, hnames] at hself
      have mk : ∀ v, ((guardA envs o.guard = some false ∧ v = undef) ∨ (guardA envs o.guard = some true ∧ lightVal o.op envs h = some v)) → Inv ops aos listed env (lstar.setIfInBounds i true) (i :: fl) (aput envs o.dst v) h := fun v hv => by
        have hfree : ∀ y ∈ fl, y ≠ i := fun y hy e => by
          have := (I.fl_in y hy).1; rw [e, hu'.1] at this; cases this
        refine ⟨I.size, by simp [I.sizes], I.down, I.downs.set hready, fun j hj => ?_, fun j hj => ?_, fun j h1 h2 => ?_, ?_, ?_, by rw [aput_length]; exact I.len, fun u hu2 => ?_, fun j hj hjn oj hoj => ?_⟩
        · rw [set_getD hu'.2]; split
          · rfl
          · exact I.sub j hj
        · rw [set_getD hu'.2]
          rcases List.mem_cons.1 hj with rfl | hj
          · refine ⟨by simp, hlight, by rw [hdst, hnames]; exact hself, fun c => ?_⟩
            have := hdd _ c; rw [hu'.1] at this; cases this
          · obtain ⟨a, b⟩ := I.fl_in j hj
            exact ⟨by split <;> first | rfl | exact a, b⟩
        · rw [set_getD hu'.2] at h1
          by_cases e : j = i
          · subst e; exact List.mem_cons_self
          · rw [if_neg e] at h1; exact List.mem_cons_of_mem _ (I.rest j h1 h2)
        · refine List.pairwise_cons.2 ⟨fun y hy c => ?_, I.ord⟩
          have := I.downs y (I.fl_in y hy).1 i c
          rw [hu'.1] at this; cases this
        · exact List.pairwise_cons.2 ⟨fun y hy => hfits y hy, I.pw⟩
        · rw [aput_getD, if_neg (fun c => hu2 i List.mem_cons_self hunl (by rw [hdst]; exact c.1))]
          exact I.agree u fun r hr hrn => hu2 r (List.mem_cons_of_mem _ hr) hrn
        · rcases List.mem_cons.1 hj with rfl | hj
          · rw [ho] at hoj; injection hoj with hoj; subst hoj
            have hn := names_aput (env := envs) hself v
            rw [guardA_names hn, lightVal_names hn]
            rcases hv with ⟨h1, rfl⟩ | ⟨h1, h2⟩
            · refine .inl ⟨h1, fun d hd => ?_⟩
              rw [aput_getD]; split
              · rfl
              · rename_i hc
                rw [List.getD_eq_getElem?_getD, List.getElem?_eq_none]; rfl
                simp [hd] at hc; exact hc
            · refine .inr ⟨h1, v, h2, fun d hd hdl => ?_⟩
              rw [aput_length] at hdl
              rw [aput_getD, if_pos ⟨hd, hdl⟩]
          · have hf := fits_iff.1 (hfits j hj)
            rw [hdst] at hf
            have hnj : namesOf aos j = oj.names := by simp [namesOf, hoj]
            have hdj : dstOf aos j = oj.dst := by simp [dstOf, hoj]
            rw [hnj, hdj] at hf
            have hn := names_aput (env := envs) hf.1 v
            rw [guardA_names hn, lightVal_names hn]
            have hdne : ∀ d, oj.dst = some d → (aput envs o.dst v).getD d undef = envs.getD d undef := fun d hd => by
              rw [aput_getD, if_neg (fun c => sameDst_false hf.2.1 d c.1 hd)]
            rcases I.prom j hj hjn oj hoj with ⟨a, b⟩ | ⟨a, u, b, c⟩
            · exact .inl ⟨a, fun d hd => by rw [hdne d hd]; exact b d hd⟩
            · exact .inr ⟨a, u, b, fun d hd hdl => by rw [hdne d hd]; rw [aput_length] at hdl; exact c d hd hdl⟩
      split at hw
      · exact hw.elim
      · rename_i hg
        exact saturate t listed _ _ env _ h hok hw (mk undef (.inl ⟨hg, rfl⟩))
      · rename_i hg
        split at hw
        · rename_i v hv
          exact saturate t listed _ _ env _ h hok hw (mk v (.inr ⟨hg, hv⟩))
        · exact hw.elim

end
end Go.Am
