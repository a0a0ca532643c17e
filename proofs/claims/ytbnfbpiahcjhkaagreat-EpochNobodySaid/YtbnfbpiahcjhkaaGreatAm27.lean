/- The abstract machine, twenty-seventh part: THE BRIDGE: a law's contract, and what the row asks behind the call: true, and the arguments read as they did. -/
import Derived.Test.YtbnfbpiahcjhkaaGreatAm26
import Derived.ProofKit
import Derived.OpenShut
import Derived.ReadAgain
namespace Go.Am
open Go Go.ChangeShapes Go.WideShapes Go.ChangeAt Go.RowKit

/-- Nothing of what was is turned. -/
structure Kept (W W' : World) : Prop where
  heap : ∀ b, b < W.heap.size → W'.heap[b]? = W.heap[b]?
  os : W'.os = W.os
  out : W'.output = W.output

theorem Kept.same {W W' : World} (h : Kept W W') {p : MemPlace} (hp : p.block < W.heap.size) : W.sameAt W' p := by
  cases p with
  | cell b off => simp only [World.sameAt, World.cell?, h.heap b hp]
  | map b => exact h.heap b hp

theorem Kept.keptBut {W W' : World} (h : Kept W W') (may : MemPlace → Prop) : W.keptBut W' may := by
  refine ⟨h.os, h.out, fun i hi => ?_⟩
  rw [h.heap i hi]
  split
  · rename_i h1 h2
    rw [h1] at h2
    injection h2 with h2
    injection h2 with a b c
    subst a; subst b; subst c
    exact ⟨rfl, rfl, rfl, fun _ _ => rfl⟩
  · rename_i h1 h2
    rw [h1] at h2
    injection h2 with h2
    injection h2 with a b
    subst a; subst b
    exact .inr ⟨rfl, rfl⟩
  · rfl

section
variable {H : Type} {enc : TypeId × Value → H} {P : Program} {T : TypeId → Prop}

theorem trodAll_carry {W W' : World} {base : Nat} {sp : Nat → Bool} {held : Bool} : ∀ {ts : List TypeId} {vs : List Value} {ds : List (DataW H)} {ps : List MemPlace}, DataW.TrodAll enc P W base sp held ts vs ds ps → (∀ p ∈ ps, W.sameAt W' p) → DataW.TrodAll enc P W' base sp held ts vs ds ps
  | [], [], [], _, h, _ => h
  | _ :: _, _ :: _, _ :: _, _, ⟨p, q, ⟨n, h1⟩, h2, e⟩, hs =>
    ⟨p, q, ⟨n, DataW.trod_carry n _ _ _ h1 (fun x hx => hs x (by rw [e]; exact List.mem_append_left _ hx))⟩, trodAll_carry h2 (fun x hx => hs x (by rw [e]; exact List.mem_append_right _ hx)), e⟩

/-- WHAT THE ROW ASKS BEHIND THE CALL. -/
theorem post_law {fn : Func} {s : ChangeSpec} {apart fresh handsOn again : Bool} {W W' : World} {args : Array Value} {ds gs : List (DataW H)} {before : List MemPlace} {tb : TypeId}
    (K : Kids P T) (hz : ∀ t e, T t → P.underlying t = some (.slice e) → 0 < P.cellsOf e) (hT : ∀ t ∈ fn.params.toList, T t) (hr : fn.resultTypes = #[tb]) (hb : P.underlying tb = some .bool)
    (hvars : s.vars = []) (hfn : ∀ gs', gs' = [] → s.fn H (ds ++ gs') = { results := [.lit (.bool true)], args := ds })
    (hW : DataW.Whole enc P fn.params.toList s.vars apart W args.toList ds gs before) (hk : Kept W W') : s.post enc P fn apart fresh handsOn again W args (.bool true) W' := by
  have hlt := hW.lt
  have hW' := hW
  obtain ⟨p, q, hA, hV, e, hfz, hnd⟩ := hW'
  rw [hvars] at hV
  obtain ⟨rfl, rfl⟩ := trodVars_none hV
  have hf := hfn [] rfl
  rw [List.append_nil] at e
  subst e
  have hres : ∀ (b : Nat) (sp : Nat → Bool) (hd : Bool), DataW.TrodAll enc P W' b sp hd fn.resultTypes.toList ((Value.bool true).resultList fn.resultTypes.size) (s.fn H (ds ++ [])).results [] := fun b sp hd => by
    rw [hf, hr]
    exact trodAll_mk1 (shut_bool hb true)
  have hargs : ∀ sp : Nat → Bool, (∀ p ∈ before, sp p.block = true) → DataW.TrodAll enc P W' 0 sp true fn.params.toList args.toList (s.fn H (ds ++ [])).args before := fun sp hsp => by
    rw [hf]
    exact trodAll_carry (DataW.TrodAll.respare K hz hT hA hsp) fun p hp => hk.same (hlt p hp)
  have hvs : ∀ sp : Nat → Bool, DataW.TrodVars enc P W' sp s.vars (s.fn H (ds ++ [])).vars [] := fun sp => by
    rw [hf, hvars]; rfl
  refine ⟨ds, [], before, [], before, [], hW, hres _ _ _, hargs _ (fun p hp => by simpa using hlt p hp), hvs _, hk.keptBut _, fun _ => ⟨?_, _, _, before, ⟨[] ++ before, [], trodAll_append (hargs _ (fun _ _ => rfl)) (hres _ _ _), hvs _, by simp, ?_, ?_⟩, fun p hp _ => hp⟩⟩
  · intro j t r h1 h2
    have hsz : fn.resultTypes.size = 1 := by rw [hr]; rfl
    rw [hr] at h1
    cases j with
    | zero =>
      simp at h1; subst h1
      rw [hsz] at h2
      simp [Value.resultList] at h2
      subst h2
      exact okWide_bool_mk hb true
    | succ j => simp at h1
  · intro b off hp
    have := hfz b off (by simpa using hp)
    have hb' := hlt _ (by simpa using hp)
    simp only [World.frozen?] at this ⊢
    rw [hk.heap b hb']
    exact this
  · intro ha
    have := hnd ha
    simpa using this

end

/-- A law's contract over a heap in which nothing may be turned. -/
theorem calls_of_law {P : Program} {f : FuncId} {args : List Value} {h : AHeap} {K : AEnd → AHeap → Prop} (hs : SoundF P f args h K) (hK : ∀ r h', K r h' → r = .ret (.bool true)) {ι : Inj} {W : World} {args' : Array Value}
    (hR : R ι h W) (hV : VL ι args args'.toList) (hro : ∀ b, ¬ Foot ι h b) : Calls P f args' W fun e W' => e = .returned (.bool true) ∧ Kept W W' := by
  refine (hs.2 ι W _ hR hV).mono fun e W' ⟨ι', r, h', hk, hE, hR', hS⟩ => ?_
  have hr := hK r h' hk
  subst hr
  cases e <;> simp only [ERet] at hE
  refine ⟨by rw [hE.bool_inv], ⟨fun b hb => hS.frame b hb (hro b), hS.os, hS.out⟩⟩

end Go.Am
