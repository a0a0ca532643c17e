/- The abstract machine, twenty-eighth part: A LAW BY A RUN: a machine out of a list of functions; a run that comes to 'true' over the empty heap. -/
import Derived.Test.YtbnfbpiahcjhkaaGreatAm27
namespace Go.Am
open Go Go.ChangeShapes Go.WideShapes Go.ChangeAt Go.RowKit

def lookF : List (Nat × AFun) → Nat → Option AFun
  | [], _ => none
  | p :: l, f => if p.1 = f then some p.2 else lookF l f

theorem lookF_mem : ∀ {l : List (Nat × AFun)} {f : Nat} {F : AFun}, lookF l f = some F → (f, F) ∈ l
  | p :: l, f, F, h => by
    simp only [lookF] at h
    split at h
    · rename_i e; injection h with h; subst h; subst e; exact List.mem_cons_self
    · exact List.mem_cons_of_mem _ (lookF_mem h)

def lookM : List (Nat × String × Nat) → Nat → String → Option Nat
  | [], _, _ => none
  | p :: l, t, n => if p.1 = t ∧ p.2.1 = n then some p.2.2 else lookM l t n

theorem lookM_mem : ∀ {l : List (Nat × String × Nat)} {t : Nat} {n : String} {f : Nat}, lookM l t n = some f → (t, n, f) ∈ l
  | p :: l, t, n, f, h => by
    simp only [lookM] at h
    split at h
    · rename_i e; injection h with h; subst h; obtain ⟨e1, e2⟩ := e; subst e1; subst e2; exact List.mem_cons_self
    · exact List.mem_cons_of_mem _ (lookM_mem h)

def machOf (fs : List (Nat × AFun)) (ms : List (Nat × String × Nat)) (spec : FuncId → List Value → AHeap → Option (List (AEnd × AHeap))) : Mach := { fn := lookF fs, meth := lookM ms, spec }

theorem machOf_ok {P : Program} {fs : List (Nat × AFun)} {ms : List (Nat × String × Nat)} {spec : FuncId → List Value → AHeap → Option (List (AEnd × AHeap))} (h1 : ∀ p ∈ fs, FOk P p.1 p.2) (h2 : ∀ p ∈ ms, MethodIs P p.1 p.2.1 p.2.2)
    (h3 : ∀ f args h l, spec f args h = some l → SoundC P f args h fun r h' => (r, h') ∈ l) : MachOk P (machOf fs ms spec) where
  fn := fun _ _ h => h1 _ (lookF_mem h)
  meth := fun _ _ _ h => h2 _ (lookM_mem h)
  spec := h3

def noSpec : FuncId → List Value → AHeap → Option (List (AEnd × AHeap)) := fun _ _ _ => none
theorem noSpec_ok {P : Program} : ∀ f args h l, noSpec f args h = some l → SoundC P f args h fun r h' => (r, h') ∈ l := fun _ _ _ _ h => nomatch h

theorem sound_of_run {P : Program} {M : Mach} (hm : P.follows .mixedOrders = true) (ok : MachOk P M) {f : FuncId} {F : AFun} (hF : FOk P f F) {n : Nat} {args : List Value} {h : AHeap} {K : AEnd → AHeap → Bool}
    (hx : xcode M n F.body (xretQ F K) (F.env0 args) h = true) : SoundF P f args h fun r h' => K r h' = true := by
  refine soundF_of_body hm hF (wcode_mono _ (fun e env h hq => ?_) _ _ (xcode_ok hm ok n _ _ _ _ hx))
  cases e <;> simp only [xretQ, retQ] at hq ⊢
  · split at hq <;> simp_all
  · simp at hq
  · split at hq <;> simp_all
  · exact hq

def isTrue : AEnd → AHeap → Bool
  | .ret (.bool b), _ => b
  | _, _ => false

theorem isTrue_eq {r : AEnd} {h : AHeap} (hr : isTrue r h = true) : r = .ret (.bool true) := by
  unfold isTrue at hr
  split at hr
  · rw [hr]
  · cases hr

def h0 : AHeap := ⟨0, .nil⟩

theorem h0_get (r : Nat) : h0.get r = none := T.get_nil r

theorem R.empty (W : World) : R (fun _ => none) h0 W :=
  ⟨fun r img h => (by cases h), fun r o h => (by rw [h0_get] at h; cases h), fun r1 r2 o1 o2 i1 i2 h => (by rw [h0_get] at h; cases h)⟩

theorem foot_empty {ι : Inj} (b : Nat) : ¬ Foot ι h0 b := fun ⟨r, o, _, h, _⟩ => by rw [h0_get] at h; cases h

theorem V.aggJunk {ι : Inj} {n : Nat} {cs : Array Value} (h : cs.size = n) : V ι (.agg (Array.replicate n Am.junk)) (.agg cs) := by
  refine .agg (by simp [h]) fun i x y hx _ => ?_
  rw [Array.getElem?_replicate] at hx
  split at hx
  · injection hx with hx; subst hx; exact .junk _
  · cases hx

theorem okWide_agg {P : Program} {W : World} {base : Nat} {t : TypeId} {v : Value} {n : Nat} {fs : Array Field} (ht : P.underlying t = some (.struct fs)) (hn : P.cellsOf t = n) (hv : Value.okWide P W .any base t v) : ∃ cs, v = .agg cs ∧ cs.size = n := by
  unfold Value.okWide at hv
  rw [ht] at hv
  obtain ⟨cs, h1, h2, _⟩ := hv
  exact ⟨cs, h1, h2.trans hn⟩

end Go.Am
