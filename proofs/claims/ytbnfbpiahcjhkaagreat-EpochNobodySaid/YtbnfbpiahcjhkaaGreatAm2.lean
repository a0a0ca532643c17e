/- The abstract machine, second part: an abstract heap describes a part of a world; what happens to it when a block is made, written, let go, or goes on as another one. -/
import Derived.Test.YtbnfbpiahcjhkaaGreatAm1
namespace Go.Am
open Go

def noFz (fz : Nat × Nat) (n : Nat) : Prop := ∀ k, k < n → (decide (fz.1 ≤ k) && decide (k < fz.2)) = false

def KindRel (img : Img) (n n' : Nat) (fz : Nat × Nat) : Kind → Prop
  | .ro => img.ext = none
  | .own => img.ext = none ∧ noFz fz n'
  | .grown s => noFz fz n' ∧ 0 < s ∧ img.ext = some (s, n, n')

def CellsRel (ι : Inj) (img : Img) (c : List Value) (k : Kind) (o' : Obj) : Prop :=
  ∃ c' e fz, o' = .cells c' e fz ∧ c.length + img.shift ≤ c'.size ∧ (∀ (i : Nat) (v : Value), c[i]? = some v → ∃ v', c'[i + img.shift]? = some v' ∧ V ι v v') ∧ KindRel img c.length c'.size fz k

def EsRel (ι : Inj) (es : List MapEntry) (es' : Array MapEntry) : Prop :=
  es.length = es'.size ∧ ∀ (i : Nat) (e e' : MapEntry), es[i]? = some e → es'[i]? = some e' → V ι e.key e'.key ∧ V ι e.val e'.val ∧ e'.born = e.born

def MoRel (ι : Inj) : Option Nat → Option Nat → Prop
  | none, none => True
  | some r, some r' => MRel ι r r'
  | _, _ => False

def ObjRel (ι : Inj) (img : Img) : AObj → Obj → Prop
  | .cells c k, o' => CellsRel ι img c k o'
  | .map es clock _, o' => img.shift = 0 ∧ ∃ es', o' = .map es' clock ∧ EsRel ι es es'
  | .mapIter m since seen stepped, o' => img.shift = 0 ∧ ∃ m', o' = .mapIter m' since seen.toArray stepped ∧ MoRel ι m m'
  | .strIter s pos, o' => img.shift = 0 ∧ o' = .stringIter s pos

theorem EsRel.mono {ι ι' : Inj} (h : ι.le ι') {es : List MapEntry} {es' : Array MapEntry} (he : EsRel ι es es') : EsRel ι' es es' :=
  ⟨he.1, fun i e e' h1 h2 => let ⟨a, b, c⟩ := he.2 i e e' h1 h2; ⟨a.mono h, b.mono h, c⟩⟩
theorem MoRel.mono {ι ι' : Inj} (h : ι.le ι') {m m' : Option Nat} (hm : MoRel ι m m') : MoRel ι' m m' := by
  cases m <;> cases m' <;> first | exact hm | exact MRel.mono h hm
theorem ObjRel.mono {ι ι' : Inj} (h : ι.le ι') {img : Img} {o : AObj} {o' : Obj} (ho : ObjRel ι img o o') : ObjRel ι' img o o' := by
  cases o with
  | cells c k =>
    obtain ⟨c', e, fz, h1, h2, h3, h4⟩ := ho
    exact ⟨c', e, fz, h1, h2, fun i v hv => let ⟨v', a, b⟩ := h3 i v hv; ⟨v', a, b.mono h⟩, h4⟩
  | map es clock ro => obtain ⟨h0, es', h1, h2⟩ := ho; exact ⟨h0, es', h1, h2.mono h⟩
  | mapIter m since seen stepped => obtain ⟨h0, m', h1, h2⟩ := ho; exact ⟨h0, m', h1, h2.mono h⟩
  | strIter s pos => exact ho

structure R (ι : Inj) (h : AHeap) (w : World) : Prop where
  dom : ∀ r img, ι r = some img → r < h.next ∧ img.blk < w.heap.size
  live : ∀ r o, h.get r = some o → ∃ img o', ι r = some img ∧ w.heap[img.blk]? = some o' ∧ ObjRel ι img o o'
  inj : ∀ r1 r2 o1 o2 img1 img2, h.get r1 = some o1 → h.get r2 = some o2 → ι r1 = some img1 → ι r2 = some img2 → img1.blk = img2.blk → r1 = r2 ∨ (o1.mut = false ∧ o2.mut = false)

def Foot (ι : Inj) (h : AHeap) (b : Nat) : Prop := ∃ r o img, h.get r = some o ∧ o.mut = true ∧ ι r = some img ∧ img.blk = b

structure Step (ι : Inj) (h : AHeap) (w : World) (ι' : Inj) (h' : AHeap) (w' : World) : Prop where
  le : ι.le ι'
  next : h.next ≤ h'.next
  size : w.heap.size ≤ w'.heap.size
  frame : ∀ b, b < w.heap.size → ¬ Foot ι h b → w'.heap[b]? = w.heap[b]?
  foot : ∀ b, Foot ι' h' b → b < w.heap.size → Foot ι h b
  os : w'.os = w.os
  out : w'.output = w.output
  tape : w'.tape = w.tape

theorem Step.refl (ι : Inj) (h : AHeap) (w : World) : Step ι h w ι h w :=
  ⟨ι.le_refl, Nat.le_refl _, Nat.le_refl _, fun _ _ _ => rfl, fun _ h _ => h, rfl, rfl, rfl⟩

theorem Step.trans {ι₁ ι₂ ι₃ : Inj} {h₁ h₂ h₃ : AHeap} {w₁ w₂ w₃ : World} (a : Step ι₁ h₁ w₁ ι₂ h₂ w₂) (b : Step ι₂ h₂ w₂ ι₃ h₃ w₃) : Step ι₁ h₁ w₁ ι₃ h₃ w₃ where
  le := Inj.le_trans a.le b.le
  next := Nat.le_trans a.next b.next
  size := Nat.le_trans a.size b.size
  frame := fun x hx hf => by rw [b.frame x (Nat.lt_of_lt_of_le hx a.size) (fun h => hf (a.foot x h hx)), a.frame x hx hf]
  foot := fun x hx hlt => a.foot x (b.foot x hx (Nat.lt_of_lt_of_le hlt a.size)) hlt
  os := by rw [b.os, a.os]
  out := by rw [b.out, a.out]
  tape := by rw [b.tape, a.tape]

/-- A world that differs in its count of draws alone. -/
theorem R.drew {ι : Inj} {h : AHeap} {w : World} (hR : R ι h w) (n : Nat) : R ι h { w with drawn := n } := ⟨hR.dom, hR.live, hR.inj⟩
theorem Step.drew {ι : Inj} {h : AHeap} {w : World} (n : Nat) : Step ι h w ι h { w with drawn := n } :=
  ⟨ι.le_refl, Nat.le_refl _, Nat.le_refl _, fun _ _ _ => rfl, fun _ h _ => h, rfl, rfl, rfl⟩

def Inj.upd (ι : Inj) (r : Nat) (img : Img) : Inj := fun s => if s = r then some img else ι s

theorem Inj.le_upd {ι : Inj} {r : Nat} (img : Img) (h : ι r = none) : ι.le (ι.upd r img) := fun s i hs => by
  unfold Inj.upd
  by_cases e : s = r
  · subst e; rw [h] at hs; cases hs
  · rw [if_neg e]; exact hs

theorem R.fresh {ι : Inj} {h : AHeap} {w : World} (hR : R ι h w) : ι h.next = none := by
  cases e : ι h.next with
  | none => rfl
  | some img => exact absurd (hR.dom _ _ e).1 (Nat.lt_irrefl _)

theorem R.get_next {ι : Inj} {h : AHeap} {w : World} (hR : R ι h w) : h.get h.next = none := by
  cases e : h.get h.next with
  | none => rfl
  | some o => obtain ⟨img, _, hi, _⟩ := hR.live _ _ e; rw [hR.fresh] at hi; cases hi

section
variable {ι : Inj} {h : AHeap} {w : World}

/-- A new block. -/
theorem R.push (hR : R ι h w) (o : AObj) (o' : Obj) (ext : Option (Nat × Nat × Nat)) (ho : ObjRel ι ⟨w.heap.size, 0, ext⟩ o o') :
    R (ι.upd h.next ⟨w.heap.size, 0, ext⟩) (h.push o) (w.alloc o') ∧ Step ι h w (ι.upd h.next ⟨w.heap.size, 0, ext⟩) (h.push o) (w.alloc o') := by
  have hfr := hR.fresh
  have hle : ι.le (ι.upd h.next ⟨w.heap.size, 0, ext⟩) := Inj.le_upd _ hfr
  have hsz : (w.alloc o').heap.size = w.heap.size + 1 := by simp
  have hold : ∀ b, b < w.heap.size → (w.alloc o').heap[b]? = w.heap[b]? := fun b hb => by
    simp only [World.alloc, Array.getElem?_push]; rw [if_neg (by omega)]
  have hnew : (w.alloc o').heap[w.heap.size]? = some o' := by show (w.heap.push o')[w.heap.size]? = some o'; simp
  have hup : ∀ r img, (ι.upd h.next ⟨w.heap.size, 0, ext⟩) r = some img → (r = h.next ∧ img = ⟨w.heap.size, 0, ext⟩) ∨ (r ≠ h.next ∧ ι r = some img) := fun r img hr => by
    unfold Inj.upd at hr
    by_cases e : r = h.next
    · rw [if_pos e] at hr; injection hr with hr; exact .inl ⟨e, hr.symm⟩
    · rw [if_neg e] at hr; exact .inr ⟨e, hr⟩
  have hself : (ι.upd h.next ⟨w.heap.size, 0, ext⟩) h.next = some ⟨w.heap.size, 0, ext⟩ := by simp [Inj.upd]
  refine ⟨⟨fun r img hr => ?_, fun r o1 hr => ?_, fun r1 r2 o1 o2 i1 i2 h1 h2 g1 g2 e => ?_⟩, ⟨hle, by simp, by omega, fun b hb _ => hold b hb, fun b hb hlt => ?_, rfl, rfl, rfl⟩⟩
  · rcases hup r img hr with ⟨rfl, rfl⟩ | ⟨_, hr⟩
    · simp
    · have := hR.dom r img hr; simp; omega
  · rw [AHeap.get_push] at hr
    by_cases e : r = h.next
    · subst e; rw [if_pos rfl] at hr; injection hr with hr; subst hr
      exact ⟨_, o', hself, hnew, ho.mono hle⟩
    · rw [if_neg e] at hr
      obtain ⟨img, o2, a, b, c⟩ := hR.live r o1 hr
      exact ⟨img, o2, hle _ _ a, by rw [hold _ (hR.dom _ _ a).2]; exact b, c.mono hle⟩
  · rw [AHeap.get_push] at h1 h2
    by_cases e1 : r1 = h.next
    · by_cases e2 : r2 = h.next
      · exact .inl (e1.trans e2.symm)
      · rcases hup _ _ g1 with ⟨_, rfl⟩ | ⟨c, _⟩
        · rcases hup _ _ g2 with ⟨c, _⟩ | ⟨_, g2⟩
          · exact absurd c e2
          · have := (hR.dom _ _ g2).2; simp at e; omega
        · exact absurd e1 c
    · by_cases e2 : r2 = h.next
      · rcases hup _ _ g2 with ⟨_, rfl⟩ | ⟨c, _⟩
        · rcases hup _ _ g1 with ⟨c, _⟩ | ⟨_, g1⟩
          · exact absurd c e1
          · have := (hR.dom _ _ g1).2; simp at e; omega
        · exact absurd e2 c
      · rw [if_neg e1] at h1; rw [if_neg e2] at h2
        rcases hup _ _ g1 with ⟨c, _⟩ | ⟨_, g1⟩
        · exact absurd c e1
        rcases hup _ _ g2 with ⟨c, _⟩ | ⟨_, g2⟩
        · exact absurd c e2
        exact hR.inj r1 r2 o1 o2 i1 i2 h1 h2 g1 g2 e
  · obtain ⟨r, o1, img, a, b, c, d⟩ := hb
    rw [AHeap.get_push] at a
    rcases hup _ _ c with ⟨_, rfl⟩ | ⟨e, c⟩
    · simp at d; omega
    · rw [if_neg e] at a; exact ⟨r, o1, img, a, b, c, d⟩

/-- A new block of which the heap does not tell. -/
theorem R.garbage (hR : R ι h w) (o' : Obj) : R ι h (w.alloc o') ∧ Step ι h w ι h (w.alloc o') := by
  have hold : ∀ b, b < w.heap.size → (w.alloc o').heap[b]? = w.heap[b]? := fun b hb => by
    simp only [World.alloc, Array.getElem?_push]; rw [if_neg (by omega)]
  refine ⟨⟨fun r img hr => ?_, fun r o hr => ?_, hR.inj⟩, ⟨ι.le_refl, Nat.le_refl _, by simp, fun b hb _ => hold b hb, fun b hb _ => hb, rfl, rfl, rfl⟩⟩
  · have := hR.dom r img hr; simp; omega
  · obtain ⟨img, o2, a, b, c⟩ := hR.live r o hr
    exact ⟨img, o2, a, by rw [hold _ (hR.dom _ _ a).2]; exact b, c⟩

/-- A block that may be written is written. -/
theorem R.write (hR : R ι h w) {r : Nat} {o o2 : AObj} {img : Img} (hr : h.get r = some o) (hm : o.mut = true) (hm2 : o2.mut = true) (hi : ι r = some img) {o2' : Obj} (ho : ObjRel ι img o2 o2') :
    R ι (h.set r o2) { w with heap := w.heap.setIfInBounds img.blk o2' } ∧ Step ι h w ι (h.set r o2) { w with heap := w.heap.setIfInBounds img.blk o2' } := by
  have hb : img.blk < w.heap.size := (hR.dom _ _ hi).2
  refine ⟨⟨fun s i hs => ?_, fun s o1 hs => ?_, fun r1 r2 o1 o2 i1 i2 h1 h2 g1 g2 e => ?_⟩, ⟨ι.le_refl, Nat.le_refl _, by simp, fun b hb' hf => ?_, fun b hf _ => ?_, rfl, rfl, rfl⟩⟩
  · have := hR.dom s i hs; simpa using this
  · rw [AHeap.get_set] at hs
    by_cases e : s = r
    · subst e; rw [if_pos rfl] at hs; injection hs with hs; subst hs
      exact ⟨img, o2', hi, by simp [hb], ho⟩
    · rw [if_neg e] at hs
      obtain ⟨i1, o1', a, b, c⟩ := hR.live s o1 hs
      refine ⟨i1, o1', a, ?_, c⟩
      have hne : img.blk ≠ i1.blk := fun he => by
        rcases hR.inj r s o o1 img i1 hr hs hi a he with h | h
        · exact e h.symm
        · rw [hm] at h; cases h.1
      simp only [Array.getElem?_setIfInBounds_ne hne]; exact b
  · rw [AHeap.get_set] at h1 h2
    have key : ∀ s x, (if s = r then some o2 else h.get s) = some x → ∃ x0, h.get s = some x0 ∧ (s = r → x0 = o) ∧ (s ≠ r → x0 = x) := fun s x hs => by
      by_cases e : s = r
      · subst e; exact ⟨o, hr, fun _ => rfl, fun c => absurd rfl c⟩
      · rw [if_neg e] at hs; exact ⟨x, hs, fun c => absurd c e, fun _ => rfl⟩
    by_cases e1 : r1 = r
    · by_cases e2 : r2 = r
      · exact .inl (e1.trans e2.symm)
      · rw [if_neg e2] at h2
        subst e1
        rcases hR.inj r1 r2 o o2 i1 i2 hr h2 g1 g2 e with h | h
        · exact .inl h
        · rw [hm] at h; cases h.1
    · rw [if_neg e1] at h1
      by_cases e2 : r2 = r
      · subst e2
        rcases hR.inj r1 r2 o1 o i1 i2 h1 hr g1 g2 e with h | h
        · exact .inl h
        · rw [hm] at h; cases h.2
      · rw [if_neg e2] at h2
        exact hR.inj r1 r2 o1 o2 i1 i2 h1 h2 g1 g2 e
  · have hne : img.blk ≠ b := fun he => hf ⟨r, o, img, hr, hm, hi, he⟩
    simp only [Array.getElem?_setIfInBounds_ne hne]
  · obtain ⟨s, o1, i1, a, b', c, d⟩ := hf
    rw [AHeap.get_set] at a
    by_cases e : s = r
    · subst e; exact ⟨s, o, i1, hr, hm, c, d⟩
    · rw [if_neg e] at a; exact ⟨s, o1, i1, a, b', c, d⟩

/-- A block is let go. -/
theorem R.kill (hR : R ι h w) (r : Nat) : R ι (h.kill r) w ∧ Step ι h w ι (h.kill r) w := by
  have key : ∀ s o, (h.kill r).get s = some o → h.get s = some o := fun s o hs => by
    rw [AHeap.get_kill] at hs
    by_cases e : s = r
    · rw [if_pos e] at hs; cases hs
    · rw [if_neg e] at hs; exact hs
  exact ⟨⟨hR.dom, fun s o hs => hR.live s o (key s o hs), fun r1 r2 o1 o2 i1 i2 h1 h2 => hR.inj r1 r2 o1 o2 i1 i2 (key _ _ h1) (key _ _ h2)⟩,
    ⟨ι.le_refl, Nat.le_refl _, Nat.le_refl _, fun _ _ _ => rfl, fun b ⟨s, o, i, a, c, d, e⟩ _ => ⟨s, o, i, key _ _ a, c, d, e⟩, rfl, rfl, rfl⟩⟩

/-- A block goes on as another one, at the same place of the world. -/
theorem R.reuse (hR : R ι h w) {r : Nat} {o o2 : AObj} {img : Img} (hr : h.get r = some o) (hm : o.mut = true) (hm2 : o2.mut = true) (hi : ι r = some img) (shift : Nat)
    (ext : Option (Nat × Nat × Nat)) {o2' : Obj} (ho : ObjRel ι ⟨img.blk, shift, ext⟩ o2 o2') :
    R (ι.upd h.next ⟨img.blk, shift, ext⟩) ((h.kill r).push o2) { w with heap := w.heap.setIfInBounds img.blk o2' } ∧
    Step ι h w (ι.upd h.next ⟨img.blk, shift, ext⟩) ((h.kill r).push o2) { w with heap := w.heap.setIfInBounds img.blk o2' } := by
  have hfr := hR.fresh
  have hb : img.blk < w.heap.size := (hR.dom _ _ hi).2
  have hle : ι.le (ι.upd h.next ⟨img.blk, shift, ext⟩) := Inj.le_upd _ hfr
  have hrn : r < h.next := (hR.dom _ _ hi).1
  have hup : ∀ s i, (ι.upd h.next ⟨img.blk, shift, ext⟩) s = some i → (s = h.next ∧ i = ⟨img.blk, shift, ext⟩) ∨ (s ≠ h.next ∧ ι s = some i) := fun s i hs => by
    unfold Inj.upd at hs
    by_cases e : s = h.next
    · rw [if_pos e] at hs; injection hs with hs; exact .inl ⟨e, hs.symm⟩
    · rw [if_neg e] at hs; exact .inr ⟨e, hs⟩
  have hself : (ι.upd h.next ⟨img.blk, shift, ext⟩) h.next = some ⟨img.blk, shift, ext⟩ := by simp [Inj.upd]
  have hget : ∀ s x, ((h.kill r).push o2).get s = some x → (s = h.next ∧ x = o2) ∨ (s ≠ h.next ∧ s ≠ r ∧ h.get s = some x) := fun s x hs => by
    rw [AHeap.get_push, AHeap.next_kill, AHeap.get_kill] at hs
    by_cases e : s = h.next
    · rw [if_pos e] at hs; injection hs with hs; exact .inl ⟨e, hs.symm⟩
    · rw [if_neg e] at hs
      by_cases e' : s = r
      · rw [if_pos e'] at hs; cases hs
      · rw [if_neg e'] at hs; exact .inr ⟨e, e', hs⟩
  have hne : ∀ s x i, s ≠ r → h.get s = some x → ι s = some i → img.blk ≠ i.blk := fun s x i e hs hi' he => by
    rcases hR.inj r s o x img i hr hs hi hi' he with h | h
    · exact e h.symm
    · rw [hm] at h; cases h.1
  refine ⟨⟨fun s i hs => ?_, fun s o1 hs => ?_, fun r1 r2 o1 o2 i1 i2 h1 h2 g1 g2 e => ?_⟩, ⟨hle, by simp, by simp, fun b hb' hf => ?_, fun b hf _ => ?_, rfl, rfl, rfl⟩⟩
  · rcases hup s i hs with ⟨rfl, rfl⟩ | ⟨_, hs⟩
    · simpa using hb
    · have := hR.dom s i hs; simp; omega
  · rcases hget s o1 hs with ⟨rfl, rfl⟩ | ⟨e1, e2, hs⟩
    · exact ⟨_, o2', hself, by simp [hb], ho.mono hle⟩
    · obtain ⟨i1, o1', a, b, c⟩ := hR.live s o1 hs
      refine ⟨i1, o1', hle _ _ a, ?_, c.mono hle⟩
      simp only [Array.getElem?_setIfInBounds_ne (hne s o1 i1 e2 hs a)]; exact b
  · rcases hget r1 o1 h1 with ⟨rfl, rfl⟩ | ⟨a1, b1, k1⟩ <;> rcases hget r2 o2 h2 with ⟨rfl, rfl⟩ | ⟨a2, b2, k2⟩
    · exact .inl rfl
    · rw [hself] at g1; injection g1 with g1; subst g1
      rcases hup _ _ g2 with ⟨c, _⟩ | ⟨_, g2⟩
      · exact absurd c a2
      · exact absurd e (hne _ _ _ b2 k2 g2)
    · rw [hself] at g2; injection g2 with g2; subst g2
      rcases hup _ _ g1 with ⟨c, _⟩ | ⟨_, g1⟩
      · exact absurd c a1
      · exact absurd e.symm (hne _ _ _ b1 k1 g1)
    · rcases hup _ _ g1 with ⟨c, _⟩ | ⟨_, g1⟩
      · exact absurd c a1
      rcases hup _ _ g2 with ⟨c, _⟩ | ⟨_, g2⟩
      · exact absurd c a2
      exact hR.inj r1 r2 o1 o2 i1 i2 k1 k2 g1 g2 e
  · have hne : img.blk ≠ b := fun he => hf ⟨r, o, img, hr, hm, hi, he⟩
    simp only [Array.getElem?_setIfInBounds_ne hne]
  · obtain ⟨s, o1, i1, a, b', c, d⟩ := hf
    rcases hget s o1 a with ⟨rfl, rfl⟩ | ⟨e1, e2, a⟩
    · rw [hself] at c; injection c with c; subst c; exact ⟨r, o, img, hr, hm, hi, d⟩
    · rcases hup _ _ c with ⟨f, _⟩ | ⟨_, c⟩
      · exact absurd f e1
      · exact ⟨s, o1, i1, a, b', c, d⟩
end

end Go.Am
