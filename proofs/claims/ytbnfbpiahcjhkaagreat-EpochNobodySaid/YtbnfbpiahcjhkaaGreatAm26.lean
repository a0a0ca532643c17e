/- The abstract machine, twenty-sixth part: THE EVALUATOR: the same as the calculus, with answers of yes and no and with fuel. What it says yes to holds. -/
import Derived.Test.YtbnfbpiahcjhkaaGreatAm25
namespace Go.Am
open Go

/-! ### Values that are the same -/

def vseqW (f : Value → Value → Bool) : List Value → List Value → Bool
  | [], [] => true
  | x :: xs, y :: ys => f x y && vseqW f xs ys
  | _, _ => false

def veq : Nat → Value → Value → Bool
  | 0, _, _ => false
  | n + 1, x, y => match x, y with
    | .bool a, .bool b => a == b
    | .int k a, .int k' b => decide (k = k') && decide (a = b)
    | .string a, .string b => decide (a.data.toList = b.data.toList)
    | .pointer a, .pointer b => decide (a = b)
    | .slice a l c, .slice b l' c' => decide (a = b) && decide (l = l') && decide (c = c')
    | .map a, .map b => decide (a = b)
    | .nilFunc, .nilFunc => true
    | .nilIface, .nilIface => true
    | .iface t v, .iface u v' => decide (t = u) && veq n v v'
    | .agg a, .agg b => vseqW (veq n) a.toList b.toList
    | .tuple a, .tuple b => vseqW (veq n) a.toList b.toList
    | .func (.func f) a b, .func (.func g) c d => decide (f = g) && vseqW (veq n) a.toList c.toList && vseqW (veq n) b.toList d.toList
    | _, _ => false

theorem vseqW_eq {f : Value → Value → Bool} (hf : ∀ x y, f x y = true → x = y) : ∀ {xs ys : List Value}, vseqW f xs ys = true → xs = ys
  | [], [], _ => rfl
  | x :: xs, y :: ys, h => by
    simp only [vseqW, Bool.and_eq_true] at h
    rw [hf _ _ h.1, vseqW_eq hf h.2]
  | [], _ :: _, h => by simp [vseqW] at h
  | _ :: _, [], h => by simp [vseqW] at h

theorem veq_eq : ∀ (n : Nat) (x y : Value), veq n x y = true → x = y
  | 0, _, _, h => by simp [veq] at h
  | n + 1, x, y, h => by
    have ih := veq_eq n
    simp only [veq] at h
    split at h
    all_goals first
      | rfl
      | (simp at h; done)
      | (simp only [beq_iff_eq] at h; rw [h])
      | (simp only [Bool.and_eq_true, decide_eq_true_eq] at h; obtain ⟨rfl, rfl⟩ := h; rfl)
      | (simp only [decide_eq_true_eq] at h; rw [h])
      | (simp only [decide_eq_true_eq] at h; congr 1; exact ByteArray.ext (Array.toList_inj.1 h))
      | (simp only [Bool.and_eq_true, decide_eq_true_eq] at h; obtain ⟨⟨rfl, rfl⟩, rfl⟩ := h; rfl)
      | (simp only [Bool.and_eq_true, decide_eq_true_eq] at h; obtain ⟨rfl, h⟩ := h; rw [ih _ _ h])
      | (have := vseqW_eq ih h; rw [Array.toList_inj.1 this])
      | (simp only [Bool.and_eq_true, decide_eq_true_eq] at h; obtain ⟨⟨rfl, h1⟩, h2⟩ := h; rw [Array.toList_inj.1 (vseqW_eq ih h1), Array.toList_inj.1 (vseqW_eq ih h2)])

/-! ### The machine -/

structure Mach where
  fn : FuncId → Option AFun
  meth : TypeId → String → Option FuncId
  spec : FuncId → List Value → AHeap → Option (List (AEnd × AHeap))

structure MachOk (P : Program) (M : Mach) : Prop where
  fn : ∀ f F, M.fn f = some F → FOk P f F
  meth : ∀ t n f, M.meth t n = some f → MethodIs P t n f
  spec : ∀ f args h l, M.spec f args h = some l → SoundC P f args h fun r h' => (r, h') ∈ l

abbrev XQ := AExit → List Value → AHeap → Bool
abbrev XRec := ACode → XQ → List Value → AHeap → Bool

def xretQ (F : AFun) (K : AEnd → AHeap → Bool) : XQ
  | .normal, env, h | .ret, env, h => match evRes env h F.res with
    | some vs => K (.ret (retV vs)) h
    | none => false
  | .panic v, _, h => K (.panic v) h
  | .exit _, _, _ => false

def xfun (M : Mach) (rec : XRec) (f : FuncId) (args : List Value) (h : AHeap) (K : AEnd → AHeap → Bool) : Bool :=
  match M.spec f args h with
  | some l => l.all fun p => K p.1 p.2
  | none => match M.fn f with
    | some F => rec F.body (xretQ F K) (F.env0 args) h
    | none => false

def xcall (M : Mach) (rec : XRec) (c : ACallee) (args : List Value) (env : List Value) (h : AHeap) (K : AEnd → AHeap → Bool) : Bool :=
  match c with
  | .val x => match x.ev env with
    | .func (.func f) first captured => xfun M rec f (first.toList ++ args ++ captured.toList) h K
    | .func (.method name) first captured => captured.isEmpty && match first.toList ++ args with
      | .iface t v :: rest => match M.meth t name with
        | some f => xfun M rec f (v :: rest) h K
        | none => false
      | _ => false
    | _ => false
  | .inv r name => match r.ev env with
    | .iface t v => match M.meth t name with
      | some f => xfun M rec f (v :: args) h K
      | none => false
    | _ => false

def xnext (it : Value) (h : AHeap) (K : Value → AHeap → Bool) : Bool :=
  match it with
  | .pointer (some a) => decide (a.off = 0) && match h.get a.block with
    | some (.mapIter none _ _ _) => K (.tuple #[.bool false]) h
    | some (.mapIter (some m) since seen stepped) => match h.get m with
      | some (.map es clock _) =>
        !(!seen.isEmpty && !es.isEmpty && es.all (fun e => decide (e.born ≥ stepped))) &&
        es.all (fun e => seen.contains e.born || K (.tuple #[.bool true, e.key, e.val]) (h.set a.block (.mapIter (some m) since (seen ++ [e.born]) clock))) &&
        (!es.all (fun e => seen.contains e.born || decide (since ≤ e.born)) || K (.tuple #[.bool false]) h)
      | _ => false
    | _ => false
  | _ => false

def xkend (K X : Value → AHeap → Bool) : AEnd → AHeap → Bool
  | .ret v, h => K v h
  | .panic v, h => X v h

def xrun (M : Mach) (rec : XRec) (op : AOp) (K X : Value → AHeap → Bool) (env : List Value) (h : AHeap) : Bool :=
  match op with
  | .call c args => xcall M rec c (args.map (·.ev env)) env h (xkend K X)
  | .next it => xnext (it.ev env) h K
  | .panic x => match x.ev env with
    | .iface t v => X (.iface t v) h
    | _ => false
  | op => if op.light then (match lightVal op env h with | some v => K v h | none => false)
    else match heavyVal op env h with
      | some (v, h') => K v h'
      | none => false

def xop (M : Mach) (rec : XRec) (o : AOper) (K : List Value → AHeap → Bool) (X : Value → AHeap → Bool) (env : List Value) (h : AHeap) : Bool :=
  match guardA env o.guard with
  | none => false
  | some false => K (aput env o.dst undef) h
  | some true => xrun M rec o.op (fun v h' => K (aput env o.dst v) h') X env h

def xops (M : Mach) (rec : XRec) (K : List Value → AHeap → Bool) (X : Value → AHeap → Bool) : List AOper → List Value → AHeap → Bool
  | [], env, h => K env h
  | o :: os, env, h => xop M rec o (xops M rec K X os) X env h

def xchk (aos : List AOper) (r : Nat) (env : List Value) (h : AHeap) : Bool :=
  match aos[r]? with
  | some o => match o.dst with
    | some d => (match guardA env o.guard with
      | some true => (match lightVal o.op env h with
        | some v => veq 8 v (env.getD d undef)
        | none => false)
      | _ => true)
    | none => true
  | none => false

def xtree (M : Mach) (rec : XRec) (aos : List AOper) (K : List Value → AHeap → Bool) (X : Value → AHeap → Bool) : OTree → List Value → AHeap → Bool
  | .done, env, h => K env h
  | .light i t, env, h => match aos[i]? with
    | none => false
    | some o => match guardA env o.guard with
      | none => false
      | some false => xtree M rec aos K X t (aput env o.dst undef) h
      | some true => match lightVal o.op env h with
        | some v => xtree M rec aos K X t (aput env o.dst v) h
        | none => false
  | .alt i chk t rest, env, h => (match aos[i]? with
    | none => false
    | some o => xop M rec o (fun env' h' => chk.all (fun r => xchk aos r env' h') && xtree M rec aos K X t env' h') X env h) && xtree M rec aos K X rest env h
  | .stop, _, _ => true

def xstep (M : Mach) (rec : XRec) : XRec
  | .skip, Q, env, h => Q .normal env h
  | .ops aos, Q, env, h => xops M rec (Q .normal) (fun v h => Q (.panic v) [] h) aos env h
  | .draw aos t, Q, env, h => xtree M rec aos (Q .normal) (fun v h => Q (.panic v) [] h) t env h
  | .seq a b, Q, env, h => rec a (fun e env h => match e with
    | .normal => rec b Q env h
    | e => Q e env h) env h
  | .cond c a b, Q, env, h => match c.ev env with
    | .bool true => rec a Q env h
    | .bool false => rec b Q env h
    | _ => false
  | .block id b, Q, env, h => rec b (fun e env h => match e with
    | .exit j => if j = id then Q .normal env h else Q (.exit j) env h
    | e => Q e env h) env h
  | .loop live b, Q, env, h => rec b (fun e env h => match e with
    | .normal => rec (.loop live b) Q env h
    | e => Q e env h) (junkDead live env) h
  | .exit id, Q, env, h => Q (.exit id) env h
  | .ret, Q, env, h => Q .ret env h
  | .stuck, _, _, _ => false

def xcode (M : Mach) (n : Nat) : XRec := Nat.rec (fun _ _ _ _ => false) (fun _ r => xstep M r) n

theorem xcode_succ (M : Mach) (n : Nat) : xcode M (n + 1) = xstep M (xcode M n) := rfl

section
variable {P : Program} {M : Mach}

/-- What a fuel says of code holds of it. -/
def RecOk (P : Program) (rec : XRec) : Prop := ∀ c Q env h, rec c Q env h = true → wcode P c (fun e env h => Q e env h = true) env h

theorem runA_mono2 {op : AOp} {K K' X X' : Value → AHeap → Prop} {env : List Value} {h : AHeap} (hk : ∀ v h', K v h' → K' v h') (hx : ∀ v h', X v h' → X' v h') (hh : runA P op K X env h) : runA P op K' X' env h := by
  unfold runA at *
  split at hh
  · exact callA_mono (fun r h' hr => by cases r <;> first | exact hk _ _ hr | exact hx _ _ hr) hh
  · exact nextAll_mono hk hh
  · split at hh
    · exact hx _ _ hh
    · exact hh.elim
  · split at hh
    · rename_i hl
      rw [if_pos hl]
      split at hh
      · exact hk _ _ hh
      · exact hh.elim
    · rename_i hl
      rw [if_neg hl]
      split at hh
      · exact hk _ _ hh
      · exact hh.elim

theorem wopA_mono2 {o : AOper} {K K' : List Value → AHeap → Prop} {X X' : Value → AHeap → Prop} {env : List Value} {h : AHeap} (hk : ∀ e h', K e h' → K' e h') (hx : ∀ v h', X v h' → X' v h') (hh : wopA P o K X env h) : wopA P o K' X' env h := by
  unfold wopA at *
  split at hh
  · exact hh.elim
  · exact hk _ _ hh
  · exact runA_mono2 (fun v h' hv => hk _ _ hv) hx hh

theorem wopsA_mono {K K' : List Value → AHeap → Prop} {X X' : Value → AHeap → Prop} (hk : ∀ e h', K e h' → K' e h') (hx : ∀ v h', X v h' → X' v h') : ∀ (l : List AOper) (env : List Value) (h : AHeap), wopsA P K X l env h → wopsA P K' X' l env h
  | [], _, _, hh => hk _ _ hh
  | _ :: l, _, _, hh => wopA_mono2 (fun _ _ he => wopsA_mono hk hx l _ _ he) hx hh

theorem wtree_mono {aos : List AOper} {K K' : List Value → AHeap → Prop} {X X' : Value → AHeap → Prop} (hk : ∀ e h', K e h' → K' e h') (hx : ∀ v h', X v h' → X' v h') : ∀ (t : OTree) (env : List Value) (h : AHeap), wtree P aos K X t env h → wtree P aos K' X' t env h
  | .done, _, _, hh => hk _ _ hh
  | .stop, _, _, _ => trivial
  | .light i t, env, h, hh => by
    simp only [wtree] at hh ⊢
    revert hh
    cases aos[i]? with
    | none => exact id
    | some o =>
      simp only
      cases guardA env o.guard with
      | none => exact id
      | some b =>
        cases b with
        | false => exact fun hh => wtree_mono hk hx t _ _ hh
        | true =>
          simp only
          cases lightVal o.op env h with
          | none => exact id
          | some v => exact fun hh => wtree_mono hk hx t _ _ hh
  | .alt i chk t rest, env, h, hh => by
    simp only [wtree] at hh ⊢
    refine ⟨?_, wtree_mono hk hx rest _ _ hh.2⟩
    have h1 := hh.1
    revert h1
    cases aos[i]? with
    | none => exact id
    | some o => exact fun h1 => wopA_mono2 (fun _ _ he => ⟨he.1, wtree_mono hk hx t _ _ he.2⟩) hx h1

theorem wcode_mono : ∀ (c : ACode) {Q Q' : Post}, (∀ e env h, Q e env h → Q' e env h) → ∀ (env : List Value) (h : AHeap), wcode P c Q env h → wcode P c Q' env h := by
  intro c
  induction c with
  | skip => intro Q Q' hq env h hh; exact hq _ _ _ hh
  | exit id => intro Q Q' hq env h hh; exact hq _ _ _ hh
  | ret => intro Q Q' hq env h hh; exact hq _ _ _ hh
  | stuck => intro Q Q' hq env h hh; exact hh
  | ops aos => intro Q Q' hq env h hh; exact wopsA_mono (fun _ _ => hq _ _ _) (fun _ _ => hq _ _ _) _ _ _ hh
  | draw aos t => intro Q Q' hq env h hh; exact wtree_mono (fun _ _ => hq _ _ _) (fun _ _ => hq _ _ _) _ _ _ hh
  | seq a b iha ihb =>
    intro Q Q' hq env h hh
    exact iha (fun e env h he => by cases e <;> first | exact ihb hq _ _ he | exact hq _ _ _ he) _ _ hh
  | cond c a b iha ihb =>
    intro Q Q' hq env h hh
    simp only [wcode] at hh ⊢
    split at hh
    · exact iha hq _ _ hh
    · exact ihb hq _ _ hh
    · exact hh.elim
  | block id b ih =>
    intro Q Q' hq env h hh
    refine ih (fun e env h he => ?_) _ _ hh
    cases e with
    | exit j =>
      simp only [Post.inBlock] at he ⊢
      split at he
      · rename_i e; rw [if_pos e]; exact hq _ _ _ he
      · rename_i e; rw [if_neg e]; exact hq _ _ _ he
    | normal => exact hq _ _ _ he
    | ret => exact hq _ _ _ he
    | panic v => exact hq _ _ _ he
  | loop live b ih =>
    intro Q Q' hq env h hh
    obtain ⟨I, μ, h0, hr⟩ := hh
    exact ⟨I, μ, h0, fun env h hI => ih (fun e env h he => by cases e <;> first | exact he | exact hq _ _ _ he) _ _ (hr env h hI)⟩

theorem xfun_ok (hm : P.follows .mixedOrders = true) (ok : MachOk P M) {rec : XRec} (hr : RecOk P rec) {f : FuncId} {args : List Value} {h : AHeap} {K : AEnd → AHeap → Bool} (hx : xfun M rec f args h K = true) : SoundC P f args h fun r h' => K r h' = true := by
  unfold xfun at hx
  split at hx
  · rename_i l hl
    refine (ok.spec _ _ _ _ hl).mono fun r h' hmem => ?_
    exact List.all_eq_true.1 hx _ hmem
  · split at hx
    · rename_i F hF
      refine .inl (soundF_of_body hm (ok.fn _ _ hF) (wcode_mono _ (fun e env h hq => ?_) _ _ (hr _ _ _ _ hx)))
      cases e <;> simp only [xretQ, retQ] at hq ⊢
      · split at hq <;> simp_all
      · simp at hq
      · split at hq <;> simp_all
      · exact hq
    · cases hx

theorem xcall_ok (hm : P.follows .mixedOrders = true) (ok : MachOk P M) {rec : XRec} (hr : RecOk P rec) {c : ACallee} {args env : List Value} {h : AHeap} {K : AEnd → AHeap → Bool} (hx : xcall M rec c args env h K = true) : callA P c args env h fun r h' => K r h' = true := by
  unfold xcall at hx
  unfold callA
  cases c with
  | val x =>
    simp only at hx ⊢
    split at hx
    · rename_i e; rw [e]
      exact xfun_ok hm ok hr hx
    · rename_i e; rw [e]
      simp only [Bool.and_eq_true, Array.isEmpty_iff] at hx
      refine ⟨hx.1, ?_⟩
      have h2 := hx.2
      split at h2
      · rename_i e2; rw [e2]
        split at h2
        · exact ⟨_, ok.meth _ _ _ ‹_›, xfun_ok hm ok hr h2⟩
        · cases h2
      · cases h2
    · cases hx
  | inv r name =>
    simp only at hx ⊢
    split at hx
    · rename_i e; rw [e]
      split at hx
      · exact ⟨_, ok.meth _ _ _ ‹_›, xfun_ok hm ok hr hx⟩
      · cases hx
    · cases hx

theorem xnext_ok {it : Value} {h : AHeap} {K : Value → AHeap → Bool} (hx : xnext it h K = true) : nextAll it h fun v h' => K v h' = true := by
  unfold xnext at hx
  unfold nextAll
  split at hx
  · simp only [Bool.and_eq_true, decide_eq_true_eq] at hx
    refine ⟨hx.1, ?_⟩
    have h2 := hx.2
    split at h2
    · rename_i e; rw [e]
      exact h2
    · rename_i e; rw [e]
      simp only
      split at h2
      · rename_i e; rw [e]
        simp only [Bool.and_eq_true, Bool.not_eq_true'] at h2
        obtain ⟨⟨a, b⟩, c⟩ := h2
        refine ⟨a, fun e he hb => ?_, fun hc => ?_⟩
        · have := List.all_eq_true.1 b e he
          simp only [Bool.or_eq_true, List.contains_iff_mem] at this
          exact this.resolve_left hb
        · simp only [Bool.or_eq_true, Bool.not_eq_true'] at c
          refine c.resolve_left fun hf => ?_
          rw [List.all_eq_false] at hf
          obtain ⟨e, he, hf⟩ := hf
          apply hf
          simp only [Bool.or_eq_true, List.contains_iff_mem, decide_eq_true_eq]
          exact (Decidable.em _).imp id (hc e he)
      · cases h2
    · cases h2
  · cases hx

theorem xrun_ok (hm : P.follows .mixedOrders = true) (ok : MachOk P M) {rec : XRec} (hr : RecOk P rec) {op : AOp} {K X : Value → AHeap → Bool} {env : List Value} {h : AHeap} (hx : xrun M rec op K X env h = true) :
    runA P op (fun v h => K v h = true) (fun v h => X v h = true) env h := by
  unfold xrun at hx
  unfold runA
  split at hx
  · refine callA_mono (fun r h' hq => ?_) (xcall_ok hm ok hr hx)
    cases r <;> exact hq
  · exact xnext_ok hx
  · simp only
    split at hx
    · rename_i e; rw [e]; exact hx
    · cases hx
  · simp only
    split at hx
    · rename_i hl
      rw [if_pos hl]
      split at hx
      · rename_i e; rw [e]; exact hx
      · cases hx
    · rename_i hl
      rw [if_neg hl]
      split at hx
      · rename_i e; rw [e]; exact hx
      · cases hx

theorem xop_ok (hm : P.follows .mixedOrders = true) (ok : MachOk P M) {rec : XRec} (hr : RecOk P rec) {o : AOper} {K : List Value → AHeap → Bool} {X : Value → AHeap → Bool} {env : List Value} {h : AHeap} (hx : xop M rec o K X env h = true) :
    wopA P o (fun e h => K e h = true) (fun v h => X v h = true) env h := by
  unfold xop at hx
  unfold wopA
  split at hx
  · cases hx
  · rename_i e; rw [e]; exact hx
  · rename_i e; rw [e]; exact xrun_ok hm ok hr hx

theorem xops_ok (hm : P.follows .mixedOrders = true) (ok : MachOk P M) {rec : XRec} (hr : RecOk P rec) {K : List Value → AHeap → Bool} {X : Value → AHeap → Bool} : ∀ {l : List AOper} {env : List Value} {h : AHeap}, xops M rec K X l env h = true →
    wopsA P (fun e h => K e h = true) (fun v h => X v h = true) l env h
  | [], _, _, hx => hx
  | _ :: _, _, _, hx => wopA_mono (fun _ _ hk => xops_ok hm ok hr hk) (xop_ok hm ok hr hx)

theorem xchk_ok {aos : List AOper} {env : List Value} {h : AHeap} : ∀ {chk : List Nat}, chk.all (fun r => xchk aos r env h) = true → chksOk aos chk env h
  | [], _ => trivial
  | r :: rs, hx => by
    simp only [List.all_cons, Bool.and_eq_true] at hx
    refine ⟨?_, xchk_ok hx.2⟩
    have h1 := hx.1
    unfold xchk at h1
    unfold chkOk
    revert h1
    cases aos[r]? with
    | none => simp
    | some o =>
      simp only
      cases o.dst with
      | none => simp
      | some d =>
        simp only
        intro h1 hg
        rw [hg] at h1
        simp only at h1
        split at h1
        · rename_i v hv
          rw [hv, veq_eq _ _ _ h1]
        · cases h1

theorem xtree_ok (hm : P.follows .mixedOrders = true) (ok : MachOk P M) {rec : XRec} (hr : RecOk P rec) {aos : List AOper} {K : List Value → AHeap → Bool} {X : Value → AHeap → Bool} : ∀ {t : OTree} {env : List Value} {h : AHeap}, xtree M rec aos K X t env h = true →
    wtree P aos (fun e h => K e h = true) (fun v h => X v h = true) t env h
  | .done, _, _, hx => hx
  | .stop, _, _, _ => trivial
  | .light i t, env, h, hx => by
    simp only [xtree] at hx
    simp only [wtree]
    revert hx
    cases aos[i]? with
    | none => simp
    | some o =>
      simp only
      cases guardA env o.guard with
      | none => simp
      | some b =>
        cases b with
        | false => exact fun hx => xtree_ok hm ok hr hx
        | true =>
          simp only
          cases lightVal o.op env h with
          | none => simp
          | some v => exact fun hx => xtree_ok hm ok hr hx
  | .alt i chk t rest, env, h, hx => by
    simp only [xtree, Bool.and_eq_true] at hx
    simp only [wtree]
    refine ⟨?_, xtree_ok hm ok hr hx.2⟩
    have h1 := hx.1
    revert h1
    cases aos[i]? with
    | none => simp
    | some o =>
      intro h1
      refine wopA_mono (fun e h' hk => ?_) (xop_ok hm ok hr h1)
      simp only [Bool.and_eq_true] at hk
      exact ⟨xchk_ok hk.1, xtree_ok hm ok hr hk.2⟩

theorem exists_least {p : Nat → Prop} (h : ∃ n, p n) : ∃ n, p n ∧ ∀ m, m < n → ¬ p m := by
  obtain ⟨n, hn⟩ := h
  induction n using Nat.strongRecOn with
  | _ n ih =>
    by_cases h : ∃ m, m < n ∧ p m
    · obtain ⟨m, hm, hp⟩ := h; exact ih m hm hp
    · exact ⟨n, hn, fun m hm hp => h ⟨m, hm, hp⟩⟩

theorem xcode_ok (hm : P.follows .mixedOrders = true) (ok : MachOk P M) : ∀ n, RecOk P (xcode M n) := by
  intro n
  induction n using Nat.strongRecOn with
  | _ n ih =>
    cases n with
    | zero => intro c Q env h hx; cases hx
    | succ n =>
      intro c Q env h hx
      have hr := ih n (Nat.lt_succ_self n)
      rw [xcode_succ] at hx
      cases c with
      | skip => exact hx
      | exit id => exact hx
      | ret => exact hx
      | stuck => cases hx
      | ops aos => exact xops_ok hm ok hr hx
      | draw aos t => exact xtree_ok hm ok hr hx
      | seq a b =>
        refine wcode_mono a (fun e env h he => ?_) _ _ (hr _ _ _ _ hx)
        cases e with
        | normal => exact hr _ _ _ _ he
        | exit j => exact he
        | ret => exact he
        | panic v => exact he
      | cond c a b =>
        simp only [xstep] at hx
        simp only [wcode]
        split at hx
        · rename_i e; rw [e]; exact hr _ _ _ _ hx
        · rename_i e; rw [e]; exact hr _ _ _ _ hx
        · cases hx
      | block id b =>
        refine wcode_mono b (fun e env h he => ?_) _ _ (hr _ _ _ _ hx)
        cases e with
        | exit j =>
          simp only [Post.inBlock] at he ⊢
          split at he
          · rename_i e; rw [if_pos e]; exact he
          · rename_i e; rw [if_neg e]; exact he
        | normal => exact he
        | ret => exact he
        | panic v => exact he
      | loop live b =>
        let run (m : Nat) (env : List Value) (h : AHeap) : Bool := xcode M m b (fun e env h => match e with
          | .normal => xcode M m (.loop live b) Q env h
          | e => Q e env h) env h
        have hlt : ∃ m, m < n + 1 ∧ run m (junkDead live env) h = true := ⟨n, Nat.lt_succ_self n, hx⟩
        let I (env : List Value) (h : AHeap) : Prop := ∃ m, m < n + 1 ∧ run m env h = true
        open Classical in
        let μ (env : List Value) (h : AHeap) : Nat := if hh : I env h then (exists_least hh).choose else 0
        have hμ : ∀ env h, I env h → (μ env h < n + 1 ∧ run (μ env h) env h = true) ∧ ∀ m, (m < n + 1 ∧ run m env h = true) → μ env h ≤ m := by
          intro env h hI
          have e : μ env h = (exists_least hI).choose := dif_pos hI
          have hs := (exists_least hI).choose_spec
          rw [← e] at hs
          refine ⟨hs.1, fun m hp => ?_⟩
          rcases Nat.lt_or_ge m (μ env h) with hlt | hge
          · exact absurd hp (hs.2 m hlt)
          · exact hge
        refine ⟨I, μ, hlt, fun env h hI => ?_⟩
        obtain ⟨⟨h1, h2⟩, _⟩ := hμ env h hI
        refine wcode_mono b (fun e env' h' he => ?_) _ _ (ih _ h1 _ _ _ _ h2)
        cases e with
        | normal =>
          simp only at he
          generalize hm' : μ env h = m at *
          cases m with
          | zero => cases he
          | succ m =>
            have hp : m < n + 1 ∧ run m (junkDead live env') h' = true := ⟨by omega, he⟩
            have hI' : I (junkDead live env') h' := ⟨m, hp⟩
            have := (hμ _ _ hI').2 m hp
            exact ⟨hI', by omega⟩
        | exit j => exact he
        | ret => exact he
        | panic v => exact he

end
end Go.Am
