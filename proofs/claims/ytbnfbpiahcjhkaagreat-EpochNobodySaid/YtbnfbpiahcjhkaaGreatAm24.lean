/- The abstract machine, twenty-fourth part: CODE IS SOUND; functions by contract. -/
import Derived.Test.YtbnfbpiahcjhkaaGreatAm23
namespace Go.Am
open Go

section
variable {P : Program}

theorem Lift.mono {ι0 : Inj} {h0 : AHeap} {w0 : World} {Q Q' : Post} {e : Exit} {a : Act} {w : World} (hq : ∀ x env h, Q x env h → Q' x env h) (hl : Lift ι0 h0 w0 Q e a w) : Lift ι0 h0 w0 Q' e a w := by
  obtain ⟨ι, h, hR, hd, hS, hl⟩ := hl
  refine ⟨ι, h, hR, hd, hS, ?_⟩
  rcases hl with ⟨v, v', a, b, c⟩ | ⟨a, env, b, c⟩ | ⟨id, a, env, b, c⟩ | ⟨a, env, b, c⟩
  · exact .inl ⟨v, v', a, b, hq _ _ _ c⟩
  · exact .inr (.inl ⟨a, env, b, hq _ _ _ c⟩)
  · exact .inr (.inr (.inl ⟨id, a, env, b, hq _ _ _ c⟩))
  · exact .inr (.inr (.inr ⟨a, env, b, hq _ _ _ c⟩))

theorem any_init {ops : Array Oper} {aos : List AOper} (hc : compOps P ops = some aos) {t : OTree} (hok : okT ops aos (ancs ops ops.size) t false (Array.replicate ops.size false) [] = true) {K : List Value → AHeap → Prop} {X : Value → AHeap → Prop}
    {env : List Value} {h : AHeap} (hw : wtree P aos K X t env h) : AnyA P ops aos K X ops.size (Array.replicate ops.size false) env h := by
  have _ := hc
  have hf : ∀ i, (Array.replicate ops.size false).getD i false = false := fun i => by
    rw [Array.getD_eq_getD_getElem?]
    rcases Nat.lt_or_ge i ops.size with h | h
    · simp [h]
    · rw [Array.getElem?_eq_none (by simpa using h)]; rfl
  refine tree_any ops.size t _ _ [] env env h hok hw ⟨by simp, by simp, fun i hi => (by rw [hf] at hi; cases hi), fun i hi => (by rw [hf] at hi; cases hi), fun i hi => hi, fun i hi => (by cases hi), fun i hi => (by rw [hf] at hi; cases hi),
    List.Pairwise.nil, List.Pairwise.nil, rfl, fun _ _ => rfl, fun i hi => (by cases hi)⟩ (by simp)

/-- Code as it is written here is the model's. -/
def CompR (P : Program) : Code → ACode → Prop
  | .skip, .skip => True
  | .region _ ops draw, .ops aos => draw = false ∧ compOps P ops = some aos
  | .region _ ops draw, .draw aos t => draw = true ∧ compOps P ops = some aos ∧ okT ops aos (ancs ops ops.size) t false (Array.replicate ops.size false) [] = true
  | .seq a b, .seq x y => CompR P a x ∧ CompR P b y
  | .cond c a b, .cond c' x y => compO c = some c' ∧ CompR P a x ∧ CompR P b y
  | .block id b, .block id' x => id = id' ∧ CompR P b x
  | .loop b, .loop _ x => CompR P b x
  | .exit id, .exit id' => id = id'
  | .ret, .ret => True
  | _, .stuck => True
  | _, _ => False

/-- Loops: by a measure that the heap's words tell. -/
theorem wp_loop_am {c : Code} {Q : Exit → Act → World → Prop} {S : Type} (rel : S → Act → World → Prop) (μ : S → Nat) {s0 : S} {a : Act} {w : World} (h0 : rel s0 a w)
    (round : ∀ s a w, rel s a w → c.wp P (Exit.then (fun a' w' => ∃ s', rel s' a' w' ∧ μ s' < μ s) Q) a w) : (Code.loop c).wp P Q a w := by
  intro b k cs
  have key : ∀ n s a w, μ s = n → rel s a w → ∃ e a' w', Q e a' w' ∧ Arrives P (lone (b.at a (.code c :: .inLoop c :: k)) cs w) b k cs e a' w' := by
    intro n
    induction n using Nat.strongRecOn with
    | _ n ih =>
      intro s a w hn hI
      obtain ⟨e, a₁, w₁, hq, harr⟩ := round s a w hI b (.inLoop c :: k) cs
      cases e with
      | normal =>
        obtain ⟨s', hI₁, hlt⟩ := hq
        obtain ⟨e₂, a₂, w₂, hq₂, harr₂⟩ := ih (μ s') (hn ▸ hlt) s' a₁ w₁ rfl hI₁
        exact ⟨e₂, a₂, w₂, hq₂, .of_steps (Steps.trans harr (.one step_inLoop)) harr₂⟩
      | exit id => exact ⟨_, a₁, w₁, hq, .pass (x := .inLoop c) rfl (fun _ _ => .inl (by simp)) harr⟩
      | goto l => exact ⟨_, a₁, w₁, hq, .pass (x := .inLoop c) rfl (fun _ _ => .inl (by simp)) harr⟩
      | ret => exact ⟨_, a₁, w₁, hq, .pass (x := .inLoop c) rfl (fun _ _ => .inl (by simp)) harr⟩
      | panic ch => exact ⟨_, a₁, w₁, hq, .pass (x := .inLoop c) rfl (fun _ _ => .inl (by simp)) harr⟩
      | outgrown => exact ⟨_, a₁, w₁, hq, .pass (x := .inLoop c) rfl (fun _ _ => .inl (by simp)) harr⟩
  obtain ⟨e, a', w', hq, harr⟩ := key _ s0 a w rfl h0
  exact ⟨e, a', w', hq, .of_steps (.one step_loop) harr⟩

/-- **CODE IS SOUND.** -/
theorem wcode_sound (hm : P.follows .mixedOrders = true) : ∀ (c : Code) (ac : ACode), CompR P c ac → ∀ (Q : Post) (ι : Inj) (env : List Value) (h : AHeap) (a : Act) (w : World),
    wcode P ac Q env h → R ι h w → ERel ι env a → a.defers = [] → c.wp P (Lift ι h w Q) a w := by
  intro c
  induction c with
  | skip =>
    intro ac hc Q ι env h a w hw hR hE hd
    cases ac <;> simp [CompR] at hc
    case stuck => exact hw.elim
    exact wp_skip (⟨ι, h, hR, hd, Step.refl _ _ _, .inr (.inl ⟨rfl, env, hE, hw⟩)⟩)
  | exit id =>
    intro ac hc Q ι env h a w hw hR hE hd
    cases ac <;> simp [CompR] at hc
    case stuck => exact hw.elim
    subst hc
    exact wp_exit (⟨ι, h, hR, hd, Step.refl _ _ _, .inr (.inr (.inl ⟨_, rfl, env, hE, hw⟩))⟩)
  | ret =>
    intro ac hc Q ι env h a w hw hR hE hd
    cases ac <;> simp [CompR] at hc
    case stuck => exact hw.elim
    exact wp_ret (⟨ι, h, hR, hd, Step.refl _ _ _, .inr (.inr (.inr ⟨rfl, env, hE, hw⟩))⟩)
  | region id ops draw =>
    intro ac hc Q ι env h a w hw hR hE hd
    cases ac <;> simp [CompR] at hc
    case stuck => exact hw.elim
    case draw aos t =>
      obtain ⟨rfl, hcomp, hok⟩ := hc
      refine wp_region_any hm ?_
      exact any_sound hcomp _ _ ι env h a _ (any_init hcomp hok hw) (hR.drew _) hE hd (Step.drew _)
    case ops aos =>
      obtain ⟨rfl, hcomp⟩ := hc
      refine wp_region ?_
      refine wopsA_sound (K := Q .normal) (X := fun v h => Q (.panic v) [] h) (ι0 := ι) (h0 := h) (w0 := w) (fun ι' env' h' a' w' hk hR' hE' hd' hS' => ?_) (fun ι' v v' h' a' w' hx hV hR' hd' hS' => ?_) _ _ (mapM_range hcomp) ι env h a w hw hR hE hd (Step.refl _ _ _)
      · exact ⟨ι', h', hR', hd', hS', .inr (.inl ⟨rfl, env', hE', hk⟩)⟩
      · exact ⟨ι', h', hR', hd', hS', .inl ⟨v, v', rfl, hV, hx⟩⟩
  | seq x y ihx ihy =>
    intro ac hc Q ι env h a w hw hR hE hd
    cases ac <;> simp [CompR] at hc
    case stuck => exact hw.elim
    obtain ⟨hx, hy⟩ := hc
    refine wp_seq ((wp_mono (ihx _ hx _ ι env h a w hw hR hE hd)) fun e a' w' hl => ?_)
    obtain ⟨ι', h', hR', hd', hS', hl⟩ := hl
    rcases hl with ⟨v, v', rfl, hV, hq⟩ | ⟨rfl, env', hE', hq⟩ | ⟨id, rfl, env', hE', hq⟩ | ⟨rfl, env', hE', hq⟩
    · exact ⟨ι', h', hR', hd', hS', .inl ⟨v, v', rfl, hV, hq⟩⟩
    · exact wp_mono (ihy _ hy _ ι' env' h' a' w' hq hR' hE' hd') fun _ _ _ hl => hl.step hS'
    · exact ⟨ι', h', hR', hd', hS', .inr (.inr (.inl ⟨id, rfl, env', hE', hq⟩))⟩
    · exact ⟨ι', h', hR', hd', hS', .inr (.inr (.inr ⟨rfl, env', hE', hq⟩))⟩
  | cond c x y ihx ihy =>
    intro ac hc Q ι env h a w hw hR hE hd
    cases ac <;> simp [CompR] at hc
    case stuck => exact hw.elim
    obtain ⟨ho, hx, hy⟩ := hc
    have hC := ev_rel hE ho
    simp only [wcode] at hw
    split at hw
    · rename_i hb
      rw [hb] at hC
      exact wp_cond_true hC.bool_inv (ihx _ hx _ ι env h a w hw hR hE hd)
    · rename_i hb
      rw [hb] at hC
      exact wp_cond_false hC.bool_inv (ihy _ hy _ ι env h a w hw hR hE hd)
    · exact hw.elim
  | block id b ih =>
    intro ac hc Q ι env h a w hw hR hE hd
    cases ac <;> simp [CompR] at hc
    case stuck => exact hw.elim
    obtain ⟨rfl, hb⟩ := hc
    refine wp_block (wp_mono (ih _ hb _ ι env h a w hw hR hE hd) fun e a' w' hl => ?_)
    obtain ⟨ι', h', hR', hd', hS', hl⟩ := hl
    rcases hl with ⟨v, v', rfl, hV, hq⟩ | ⟨rfl, env', hE', hq⟩ | ⟨j, rfl, env', hE', hq⟩ | ⟨rfl, env', hE', hq⟩
    · exact ⟨ι', h', hR', hd', hS', .inl ⟨v, v', rfl, hV, hq⟩⟩
    · exact ⟨ι', h', hR', hd', hS', .inr (.inl ⟨rfl, env', hE', hq⟩)⟩
    · simp only [Exit.inBlock, Post.inBlock] at hq ⊢
      by_cases e : j = id
      · rw [if_pos e] at hq ⊢
        exact ⟨ι', h', hR', hd', hS', .inr (.inl ⟨rfl, env', hE', hq⟩)⟩
      · rw [if_neg e] at hq ⊢
        exact ⟨ι', h', hR', hd', hS', .inr (.inr (.inl ⟨j, rfl, env', hE', hq⟩))⟩
    · exact ⟨ι', h', hR', hd', hS', .inr (.inr (.inr ⟨rfl, env', hE', hq⟩))⟩
  | loop b ih =>
    intro ac hc Q ι env h a w hw hR hE hd
    cases ac <;> simp [CompR] at hc
    case stuck => exact hw.elim
    rename_i live bb
    obtain ⟨I, μ, hI, hround⟩ := hw
    refine wp_loop_am (S := List Value × AHeap) (rel := fun s a' w' => ∃ ι', R ι' s.2 w' ∧ ERel ι' s.1 a' ∧ a'.defers = [] ∧ Step ι h w ι' s.2 w' ∧ I s.1 s.2) (μ := fun s => μ s.1 s.2) (s0 := (junkDead live env, h)) ⟨ι, hR, junkFrom_rel hE, hd, Step.refl _ _ _, hI⟩ fun s a' w' hs => ?_
    obtain ⟨env', h'⟩ := s
    obtain ⟨ι', hR', hE', hd', hS', hI'⟩ := hs
    refine wp_mono (ih bb hc _ ι' env' h' a' w' (hround env' h' hI') hR' hE' hd') fun e a2 w2 hl => ?_
    obtain ⟨ι2, h2, hR2, hd2, hS2, hl⟩ := hl
    rcases hl with ⟨v, v', rfl, hV, hq⟩ | ⟨rfl, env2, hE2, hq⟩ | ⟨j, rfl, env2, hE2, hq⟩ | ⟨rfl, env2, hE2, hq⟩
    · exact ⟨ι2, h2, hR2, hd2, hS'.trans hS2, .inl ⟨v, v', rfl, hV, hq⟩⟩
    · exact ⟨(junkDead live env2, h2), ⟨ι2, hR2, junkFrom_rel hE2, hd2, hS'.trans hS2, hq.1⟩, hq.2⟩
    · exact ⟨ι2, h2, hR2, hd2, hS'.trans hS2, .inr (.inr (.inl ⟨j, rfl, env2, hE2, hq⟩))⟩
    · exact ⟨ι2, h2, hR2, hd2, hS'.trans hS2, .inr (.inr (.inr ⟨rfl, env2, hE2, hq⟩))⟩
  | rangeFunc f params assign body _ _ =>
    intro ac hc Q ι env h a w hw
    cases ac <;> simp [CompR] at hc
    exact hw.elim
  | scope b _ =>
    intro ac hc Q ι env h a w hw
    cases ac <;> simp [CompR] at hc
    exact hw.elim
  | label l =>
    intro ac hc Q ι env h a w hw
    cases ac <;> simp [CompR] at hc
    exact hw.elim
  | goto l =>
    intro ac hc Q ι env h a w hw
    cases ac <;> simp [CompR] at hc
    exact hw.elim
  | refuse why =>
    intro ac hc Q ι env h a w hw
    cases ac <;> simp [CompR] at hc
    exact hw.elim

end
end Go.Am
