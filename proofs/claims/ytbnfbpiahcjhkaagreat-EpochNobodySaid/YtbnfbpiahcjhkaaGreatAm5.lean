/- The abstract machine, fifth part: a light operation yields in the world what it yields in the heap, and leaves the world as it is. -/
import Derived.Test.YtbnfbpiahcjhkaaGreatAm4
namespace Go.Am
open Go

section
variable {P : Program} {ι : Inj} {h : AHeap} {w : World} {env : List Value} {a : Act}

def ERel (ι : Inj) (env : List Value) (a : Act) : Prop := VL ι env a.tmps.toList

theorem ERel.mono {ι' : Inj} (hl : ι.le ι') (hE : ERel ι env a) : ERel ι' env a := VL.mono hl hE

theorem ev_rel (hE : ERel ι env a) {x : Operand} {y : Opnd} (hx : compO x = some y) : V ι (y.ev env) (a.eval x) := by
  cases x with
  | tmp t =>
    simp only [compO, Option.some.injEq] at hx; subst hx
    simp only [Opnd.ev, Act.eval]
    by_cases ht : t < env.length
    · obtain ⟨y, hy, hv⟩ := VL.get hE (List.getElem?_eq_getElem ht)
      have hy' : a.tmps[t]? = some y := by rw [← Array.getElem?_toList]; exact hy
      rw [List.getD_eq_getElem?_getD, List.getElem?_eq_getElem ht, Array.getD_eq_getD_getElem?, hy']
      exact hv
    · have h1 : env.length ≤ t := Nat.le_of_not_lt ht
      have h2 : a.tmps.size ≤ t := by have := hE.1; simp at this; rw [← this]; exact h1
      rw [List.getD_eq_getElem?_getD, List.getElem?_eq_none h1, Array.getD_eq_getD_getElem?, Array.getElem?_eq_none h2]
      exact V.undef ι
  | const v =>
    simp only [compO] at hx
    split at hx
    · injection hx with hx; subst hx; exact constOk_V ι 4 v ‹_›
    · cases hx
  | func f =>
    simp only [compO, Option.some.injEq] at hx; subst hx
    exact constOk_V ι 0 _ rfl
  | global g => simp [compO] at hx

theorem evs_rel (hE : ERel ι env a) : ∀ {l : List Operand} {ys : List Opnd}, compOs l = some ys → VL ι (ys.map (·.ev env)) (l.map a.eval)
  | [], ys, hl => by simp [compOs] at hl; subst hl; exact VL.nil ι
  | x :: l, ys, hl => by
    simp only [compOs, List.mapM_cons, Option.pure_def, Option.bind_eq_bind] at hl
    cases hx : compO x with
    | none => rw [hx] at hl; simp at hl
    | some y =>
      rw [hx] at hl
      cases hl' : l.mapM compO with
      | none => rw [hl'] at hl; simp at hl
      | some ys' =>
        rw [hl'] at hl; simp at hl; subst hl
        exact VL.cons (ev_rel hE hx) (evs_rel hE hl')

theorem evo_rel (hE : ERel ι env a) {x : Option Operand} {y : Option Opnd} (hx : compOo x = some y) :
    (x = none ∧ y = none) ∨ ∃ x0 y0, x = some x0 ∧ y = some y0 ∧ V ι (y0.ev env) (a.eval x0) := by
  cases x with
  | none => simp [compOo] at hx; exact .inl ⟨rfl, hx.symm⟩
  | some x =>
    simp only [compOo, Option.map_eq_some_iff] at hx
    obtain ⟨y0, h1, h2⟩ := hx
    exact .inr ⟨x, y0, rfl, h2.symm, ev_rel hE h1⟩

theorem add_zero' (p : Addr) : p.add 0 = p := by simp [Addr.add]
theorem add_off (p : Addr) (k : Nat) : (p.add k).off = p.off + k := by unfold Addr.add; split <;> simp_all
theorem add_block (p : Addr) (k : Nat) : (p.add k).block = p.block := by unfold Addr.add; split <;> simp_all
theorem add_spot {p : Addr} (hp : p.spot = none) (k : Nat) : (p.add k).spot = none := by unfold Addr.add; split <;> simp_all
theorem add_eq {p : Addr} (hp : p.spot = none) (k : Nat) : p.add k = ⟨p.block, p.off + k, none⟩ := by
  have h1 := add_off p k; have h2 := add_block p k; have h3 := add_spot hp k
  cases hq : p.add k with
  | mk b o s => rw [hq] at h1 h2 h3; simp at h1 h2 h3; subst h1; subst h2; subst h3; rfl

theorem ARel.add {p p' : Addr} (hp : ARel ι p p') (k : Nat) : ARel ι (p.add k) (p'.add k) := by
  obtain ⟨h1, img, h2, h3⟩ := hp
  refine ⟨add_spot h1 k, img, by rw [add_block]; exact h2, ?_⟩
  subst h3
  rw [add_eq rfl, add_off]
  simp; omega

theorem ARel.spot' {p p' : Addr} (hp : ARel ι p p') : p'.spot = none := by obtain ⟨_, img, _, h3⟩ := hp; subst h3; rfl

/-- What lies in a live row. -/
theorem R.cellsAt (hR : R ι h w) {p p' : Addr} (hp : ARel ι p p') {c : List Value} {k : Kind} (hg : h.get p.block = some (.cells c k)) :
    ∃ img c' e fz, ι p.block = some img ∧ p' = ⟨img.blk, p.off + img.shift, none⟩ ∧ w.heap[img.blk]? = some (.cells c' e fz) ∧ c.length + img.shift ≤ c'.size ∧
      (∀ (i : Nat) (v : Value), c[i]? = some v → ∃ v', c'[i + img.shift]? = some v' ∧ V ι v v') ∧ KindRel img c.length c'.size fz k := by
  obtain ⟨_, img, hi, hp'⟩ := hp
  obtain ⟨img2, o', hi2, ho, hrel⟩ := hR.live _ _ hg
  rw [hi] at hi2; injection hi2 with hi2; subst hi2
  obtain ⟨c', e, fz, h1, h2, h3, h4⟩ := hrel
  exact ⟨img, c', e, fz, hi, hp', by rw [ho, h1], h2, h3, h4⟩

theorem R.load1 (hR : R ι h w) {p p' : Addr} (hp : ARel ι p p') {v : Value} (hl : h.load1 p = some v) : ∃ v', w.cell? p' = some v' ∧ V ι v v' := by
  unfold AHeap.load1 at hl
  split at hl
  · rename_i c k hg
    obtain ⟨img, c', e, fz, _, hp', ho, _, hc, _⟩ := hR.cellsAt hp hg
    obtain ⟨v', hv, hV⟩ := hc _ _ hl
    exact ⟨v', by subst hp'; simp [World.cell?, ho, hv], hV⟩
  · cases hl

theorem R.loadN (hR : R ι h w) {p p' : Addr} (hp : ARel ι p p') {n : Nat} {cs : List Value} (hl : h.loadN p n = some cs) :
    cs.length = n ∧ ∃ cs' : List Value, VL ι cs cs' ∧ (∀ (j : Nat) (v : Value), cs'[j]? = some v → w.cell? (p'.add j) = some v) := by
  unfold AHeap.loadN at hl
  split at hl
  · rename_i c k hg
    split at hl
    · rename_i hle
      injection hl with hl; subst hl
      obtain ⟨img, c', e, fz, _, hp', ho, hsz, hc, _⟩ := hR.cellsAt hp hg
      refine ⟨by simp; omega, ((c'.toList.drop (p.off + img.shift)).take n), ⟨by simp; omega, fun i x y hx hy => ?_⟩, fun j v hv => ?_⟩
      · rw [List.getElem?_take] at hx hy
        split at hx
        · rename_i hi
          rw [if_pos hi] at hy
          rw [List.getElem?_drop] at hx hy
          obtain ⟨v', hv', hV⟩ := hc _ _ hx
          have : c'[p.off + i + img.shift]? = some y := by rw [← hy]; simp; congr 1; omega
          rw [hv'] at this; injection this with this; subst this; exact hV
        · cases hx
      · rw [List.getElem?_take] at hv
        split at hv
        · rw [List.getElem?_drop] at hv
          subst hp'
          rw [add_eq rfl]
          simp only [World.cell?, ho]
          simpa using hv
        · cases hv
    · cases hl
  · cases hl

theorem run_loadCells_of (p' : Addr) (cs' : List Value) (n : Nat) (hn : cs'.length = n) (hc : ∀ (j : Nat) (v : Value), cs'[j]? = some v → w.cell? (p'.add j) = some v) :
    (loadCells p' n).run P w = .ok cs'.toArray w := by subst hn; exact run_loadCells_list w p' cs' hc

theorem run_under {t : TypeId} {d : TypeDesc} (hd : P.underlying t = some d) (w : World) : (underlying t).run P w = .ok d w := by
  simp [underlying, hd]

theorem run_sizeA {t : TypeId} {n : Nat} (hs : sizeA P t = some n) (w : World) : (sizeOf t).run P w = .ok n w := by
  unfold sizeA at hs
  simp only [Option.map_eq_some_iff] at hs
  obtain ⟨i, hi, rfl⟩ := hs
  simp [sizeOf, typeInfo, hi]

theorem run_aggA {t : TypeId} {b : Bool} (hs : aggA P t = some b) (w : World) : (isAgg t).run P w = .ok b w := by
  unfold aggA at hs
  split at hs
  · rename_i fs hu; injection hs with hs; subst hs; simp [isAgg, run_under hu]
  · rename_i n e hu; injection hs with hs; subst hs; simp [isAgg, run_under hu]
  · rename_i d h1 h2 hu
    injection hs with hs; subst hs
    simp only [isAgg, Sem.run_bind, run_under hu, Result.andThen_ok]
    cases d <;> first | rfl | exact absurd rfl (h1 _) | exact absurd rfl (h2 _ _)
  · cases hs

theorem run_zeroV {t : TypeId} {z : Value} (hz : zeroV P t = some z) (w : World) : (zeroValue t).run P w = .ok z w ∧ constOk 4 z = true := by
  unfold zeroV at hz
  split at hz
  · rename_i i hi
    split at hz
    · rename_i z0 hz0
      split at hz
      · injection hz with hz; subst hz
        exact ⟨by simp [zeroValue, typeInfo, hi, hz0], ‹_›⟩
      · cases hz
    · cases hz
  · cases hz

theorem run_part {t : TypeId} {b : Bool} {n : Nat} (hb : aggA P t = some b) (hn : b = true → sizeA P t = some n) {cs cs' : Array Value} (hcs : VA ι cs cs') {off : Nat} {v : Value}
    (hp : partA (if b then some n else none) off cs.toList = some v) : ∃ v', (part t cs' off).run P w = .ok v' w ∧ V ι v v' := by
  cases b with
  | true =>
    simp only [if_true, partA] at hp
    split at hp
    · rename_i hle
      injection hp with hp; subst hp
      refine ⟨_, by simp only [part, Sem.run_bind, run_aggA hb, Result.andThen_ok, if_true, run_sizeA (hn rfl), Sem.run_pure]; rfl, ?_⟩
      have := V.aggL (VL.take (VL.drop hcs.toList off) n)
      rw [show cs'.extract off (off + n) = (List.take n (List.drop off cs'.toList)).toArray by apply Array.ext'; simp [List.take_drop, Nat.add_comm]] 
      exact this
    · cases hp
  | false =>
    simp only [partA, Bool.false_eq_true, if_false] at hp
    obtain ⟨y, hy, hV⟩ := VL.get hcs.toList hp
    refine ⟨y, ?_, hV⟩
    have hy' : cs'[off]? = some y := by simpa using hy
    simp [part, run_aggA hb, hy']

theorem run_loadVar1 {t : TypeId} (hb : aggA P t = some false) {p' : Addr} {v' : Value} (hc : w.cell? p' = some v') : (loadVar t p').run P w = .ok v' w := by
  simp [loadVar, run_aggA hb, hc]

theorem run_loadVarN {t : TypeId} {n : Nat} (hb : aggA P t = some true) (hn : sizeA P t = some n) {p' : Addr} {cs' : List Value} (hl : cs'.length = n)
    (hc : ∀ (j : Nat) (v : Value), cs'[j]? = some v → w.cell? (p'.add j) = some v) : (loadVar t p').run P w = .ok (.agg cs'.toArray) w := by
  simp [loadVar, run_aggA hb, run_sizeA hn, run_loadCells_of p' cs' n hl hc]

/-! ### Values held against each other -/

theorem primEq_inv {k : PK} {x y : Value} {b : Bool} (hp : primEq k x y = some b) {x' y' : Value} (hx : V ι x x') (hy : V ι y y') : x' = x ∧ y' = y := by
  cases k <;> cases x <;> cases y <;> simp [primEq] at hp
  · exact ⟨hx.int_inv, hy.int_inv⟩
  · exact ⟨hx.string_inv, hy.string_inv⟩
  · exact ⟨hx.bool_inv, hy.bool_inv⟩

theorem primsEq_inv : ∀ {ks : List PK} {xs ys : List Value} {b : Bool}, primsEq ks xs ys = some b → ∀ {xs' ys' : List Value}, VL ι xs xs' → VL ι ys ys' → xs' = xs ∧ ys' = ys
  | [], [], [], _, _, _, _, hx, hy => ⟨hx.nil_inv, hy.nil_inv⟩
  | [], [], _ :: _, _, hp, _, _, _, _ => by simp [primsEq] at hp
  | [], _ :: _, _, _, hp, _, _, _, _ => by simp [primsEq] at hp
  | _ :: _, [], _, _, hp, _, _, _, _ => by simp [primsEq] at hp
  | _ :: _, _ :: _, [], _, hp, _, _, _, _ => by simp [primsEq] at hp
  | k :: ks, x :: xs, y :: ys, b, hp, xs', ys', hx, hy => by
    obtain ⟨x', xs'', rfl, h1, h2⟩ := hx.cons_inv
    obtain ⟨y', ys'', rfl, h3, h4⟩ := hy.cons_inv
    simp only [primsEq] at hp
    split at hp
    · rename_i hq
      obtain ⟨rfl, rfl⟩ := primEq_inv hq h1 h3
      obtain ⟨rfl, rfl⟩ := primsEq_inv hp h2 h4
      exact ⟨rfl, rfl⟩
    · rename_i hq
      obtain ⟨rfl, rfl⟩ := primEq_inv hq h1 h3
      simp only [Option.map_eq_some_iff] at hp
      obtain ⟨b', hb', _⟩ := hp
      obtain ⟨rfl, rfl⟩ := primsEq_inv hb' h2 h4
      exact ⟨rfl, rfl⟩
    · cases hp

theorem run_equalIn_prim {t : TypeId} {k : PK} (ht : primT P t = some k) {x y : Value} {b : Bool} (hp : primEq k x y = some b) (d : Nat) (w : World) :
    (Op.equalIn (d + 1) t x y).run P w = .ok b w := by
  unfold primT at ht
  split at ht
  · rename_i k0 hu
    injection ht with ht; subst ht
    cases x <;> cases y <;> simp [primEq] at hp
    obtain ⟨hk, hb⟩ := hp
    subst hk; subst hb
    simp [Op.equalIn, run_under hu]
  · rename_i hu
    injection ht with ht; subst ht
    cases x <;> cases y <;> simp [primEq] at hp
    subst hp
    simp [Op.equalIn, run_under hu]
  · rename_i hu
    injection ht with ht; subst ht
    cases x <;> cases y <;> simp [primEq] at hp
    subst hp
    simp [Op.equalIn, run_under hu]
  · cases ht

end
end Go.Am
