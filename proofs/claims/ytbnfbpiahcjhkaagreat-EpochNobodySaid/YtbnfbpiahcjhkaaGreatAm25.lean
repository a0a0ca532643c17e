/- The abstract machine, twenty-fifth part: FUNCTIONS: a contract by the body. -/
import Derived.Test.YtbnfbpiahcjhkaaGreatAm24
namespace Go.Am
open Go

inductive ARes where
  | tmp (t : Nat)
  | one (t : Nat)
  | many (n t : Nat)

def ARes.ev (env : List Value) (h : AHeap) : ARes → Option Value
  | .tmp t => some (env.getD t undef)
  | .one t => match env.getD t undef with
    | .pointer (some p) => h.load1 p
    | _ => none
  | .many n t => match env.getD t undef with
    | .pointer (some p) => (h.loadN p n).map fun cs => .agg cs.toArray
    | _ => none

def compRes (P : Program) : ResultVar → Option ARes
  | .tmp t => some (.tmp t)
  | .cell a t => match aggA P t with
    | some false => some (.one a)
    | some true => (sizeA P t).map fun n => .many n a
    | none => none

def evRes (env : List Value) (h : AHeap) : List ARes → Option (List Value)
  | [] => some []
  | r :: rs => match r.ev env h with
    | some v => (evRes env h rs).map (v :: ·)
    | none => none

def retV : List Value → Value
  | [v] => v
  | l => .tuple l.toArray

structure AFun where
  ntmps : Nat
  res : List ARes
  body : ACode

/-- The function as it is written here is the program's. -/
def FOk (P : Program) (f : FuncId) (F : AFun) : Prop :=
  ∃ fn c, P.funcs[f]? = some fn ∧ fn.body = some c ∧ (fn.name == "runtime.NumGoroutine") = false ∧ fn.ntmps = F.ntmps ∧ fn.results.toList.mapM (compRes P) = some F.res ∧ CompR P c F.body

def retQ (F : AFun) (K : AEnd → AHeap → Prop) : Post
  | .normal, env, h | .ret, env, h => match evRes env h F.res with
    | some vs => K (.ret (retV vs)) h
    | none => False
  | .panic v, _, h => K (.panic v) h
  | .exit _, _, _ => False

def AFun.env0 (F : AFun) (args : List Value) : List Value := args ++ List.replicate (F.ntmps - args.length) undef

section
variable {P : Program} {ι : Inj} {h : AHeap} {w : World}

theorem res_run (hR : R ι h w) {env : List Value} {tmps : Array Value} (hE : VL ι env tmps.toList) {r : ResultVar} {ar : ARes} (hc : compRes P r = some ar) {v : Value} (hv : ar.ev env h = some v) :
    ∃ v', Sem.run P (match r with | .tmp t => pure (tmps.getD t undef) | .cell a t => do loadVar t (← asAddr (tmps.getD a undef)) : Sem Value) w = .ok v' w ∧ V ι v v' := by
  have hT : ∀ t, V ι (env.getD t undef) (tmps.getD t undef) := fun t => tmp_rel (a := { tmps, defers := [] }) hE t
  cases r with
  | tmp t =>
    simp only [compRes, Option.some.injEq] at hc; subst hc
    simp only [ARes.ev, Option.some.injEq] at hv; subst hv
    exact ⟨_, rfl, hT t⟩
  | cell a t =>
    simp only [compRes] at hc
    split at hc
    · rename_i hag
      injection hc with hc; subst hc
      simp only [ARes.ev] at hv
      split at hv
      · rename_i p hp
        have hX := hT a
        rw [hp] at hX
        obtain ⟨p', e1, hA⟩ := hX.psome_inv
        obtain ⟨v', h1, h2⟩ := hR.load1 hA hv
        refine ⟨v', ?_, h2⟩
        simp only [e1]; simp [asAddr, run_loadVar1 hag h1]
      · cases hv
    · rename_i hag
      simp only [Option.map_eq_some_iff] at hc
      obtain ⟨n, hn, rfl⟩ := hc
      simp only [ARes.ev] at hv
      split at hv
      · rename_i p hp
        have hX := hT a
        rw [hp] at hX
        obtain ⟨p', e1, hA⟩ := hX.psome_inv
        simp only [Option.map_eq_some_iff] at hv
        obtain ⟨cs, hcs, rfl⟩ := hv
        obtain ⟨hlen, cs', h1, h2⟩ := hR.loadN hA hcs
        refine ⟨_, ?_, V.aggL h1⟩
        simp only [e1]; simp [asAddr, run_loadVarN hag hn (by rw [← h1.1]; exact hlen) h2]
      · cases hv
    · cases hc

theorem ress_run (hR : R ι h w) {env : List Value} {tmps : Array Value} (hE : VL ι env tmps.toList) : ∀ {rs : List ResultVar} {ars : List ARes}, rs.mapM (compRes P) = some ars → ∀ {vs : List Value}, evRes env h ars = some vs →
    ∃ vs', Sem.run P (rs.mapM fun r => (match r with | .tmp t => pure (tmps.getD t undef) | .cell a t => do loadVar t (← asAddr (tmps.getD a undef)) : Sem Value)) w = .ok vs' w ∧ VL ι vs vs'
  | [], ars, hc, vs, hv => by
    simp at hc; subst hc
    simp only [evRes, Option.some.injEq] at hv; subst hv
    exact ⟨[], rfl, VL.nil ι⟩
  | r :: rs, ars, hc, vs, hv => by
    simp only [List.mapM_cons, Option.bind_eq_bind, Option.pure_def, Option.bind_eq_some_iff, Option.some.injEq] at hc
    obtain ⟨a, ha, as, has, rfl⟩ := hc
    simp only [evRes] at hv
    split at hv
    · rename_i v hv1
      simp only [Option.map_eq_some_iff] at hv
      obtain ⟨vs1, hvs, rfl⟩ := hv
      obtain ⟨v', e1, h1⟩ := res_run hR hE ha hv1
      obtain ⟨vs', e2, h2⟩ := ress_run hR hE has hvs
      refine ⟨v' :: vs', ?_, VL.cons h1 h2⟩
      simp [-Array.getD_eq_getD_getElem?, List.mapM_cons, e1, e2]
    · cases hv

theorem results_sound (hR : R ι h w) {env : List Value} {tmps : Array Value} (hE : VL ι env tmps.toList) {fn : Func} {F : AFun} (hc : fn.results.toList.mapM (compRes P) = some F.res) {vs : List Value} (hv : evRes env h F.res = some vs) :
    ∃ v', (results fn tmps).run P w = .ok v' w ∧ V ι (retV vs) v' := by
  obtain ⟨vs', e, hV⟩ := ress_run hR hE hc hv
  have e' : (results fn tmps).run P w = .ok (if h : vs'.toArray.size = 1 then vs'.toArray[0] else .tuple vs'.toArray) w := by
    unfold results
    rw [Array.mapM_eq_mapM_toList]
    simp [-Array.getD_eq_getD_getElem?]
    exact congrArg (fun r : Result (List Value) => r.andThen fun a w' => Result.ok (if h : a.length = 1 then a[0] else Value.tuple a.toArray) w') e
  refine ⟨_, e', ?_⟩
  match vs, vs', hV with
  | [], ys, hV => rw [hV.nil_inv]; exact V.tuple' (VL.nil ι).toArray
  | [x], ys, hV =>
    obtain ⟨y, ys', rfl, h1, h2⟩ := hV.cons_inv
    rw [h2.nil_inv]; exact h1
  | x :: x2 :: xs, ys, hV =>
    have := hV.1
    rw [dif_neg (by simp at this ⊢; omega)]
    exact V.tuple' hV.toArray

/-- **A FUNCTION IS SOUND** by its body. -/
theorem soundF_of_body (hm : P.follows .mixedOrders = true) {f : FuncId} {F : AFun} (hF : FOk P f F) {args : List Value} {h : AHeap} {K : AEnd → AHeap → Prop} (hw : wcode P F.body (retQ F K) (F.env0 args) h) : SoundF P f args h K := by
  obtain ⟨fn, c, h1, h2, h3, h4, h5, h6⟩ := hF
  refine ⟨⟨fn, h1, h3, by rw [h2]; rfl⟩, fun ι w args' hR hV => ?_⟩
  refine calls_of_wp h1 h2 (wp_mono (wcode_sound hm c F.body h6 _ ι _ h _ w hw hR ?_ rfl) fun e a w' hl => ?_)
  · have hl : args.length = args'.length := hV.1
    simp only [ERel, AFun.env0, Array.toList_append, Array.toList_replicate]
    rw [h4, hl]
    exact VL.append hV (VL.replicate _ (V.undef ι))
  · obtain ⟨ι', h', hR', hd, hS, hl⟩ := hl
    rcases hl with ⟨v, v', rfl, hv, hq⟩ | ⟨rfl, env, hE, hq⟩ | ⟨id, rfl, env, hE, hq⟩ | ⟨rfl, env, hE, hq⟩
    · exact ⟨hd, ⟨ι', .panic v, h', hq, ⟨v', rfl, hv⟩, hR', hS⟩⟩
    · simp only [retQ] at hq
      split at hq
      · rename_i vs hvs
        obtain ⟨v', e1, hv⟩ := results_sound hR' hE h5 hvs
        exact ⟨hd, v', e1, ⟨ι', .ret (retV vs), h', hq, hv, hR', hS⟩⟩
      · exact hq.elim
    · exact hq.elim
    · simp only [retQ] at hq
      split at hq
      · rename_i vs hvs
        obtain ⟨v', e1, hv⟩ := results_sound hR' hE h5 hvs
        exact ⟨hd, v', e1, ⟨ι', .ret (retV vs), h', hq, hv, hR', hS⟩⟩
      · exact hq.elim

end
end Go.Am
