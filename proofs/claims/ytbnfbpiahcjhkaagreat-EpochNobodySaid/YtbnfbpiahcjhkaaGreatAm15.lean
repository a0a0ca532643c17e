/- The abstract machine, fifteenth part: THE HEAVY OPERATIONS ARE SOUND (but for calls, steps of an iterator, panics). -/
import Derived.Test.YtbnfbpiahcjhkaaGreatAm14
namespace Go.Am
open Go

section
variable {P : Program} {ι : Inj} {h : AHeap} {w : World} {env : List Value} {a : Act}

theorem range_map_zero (z : Array Value) : ∀ (n : Nat), ((Array.range (n * z.size)).map (z[· % z.size]!)).toList = (List.replicate n z.toList).flatten := by
  intro n
  induction n with
  | zero => simp
  | succ n ih =>
    rw [List.replicate_succ', List.flatten_append, ← ih]
    simp only [Array.toList_map, Array.toList_range, List.flatten_cons, List.flatten_nil, List.append_nil]
    rw [Nat.add_mul, Nat.one_mul, List.range_add, List.map_append, List.map_map]
    congr 1
    apply List.ext_getElem?
    intro j
    by_cases hj : j < z.size
    · simp [hj, Nat.add_mod, Nat.mod_eq_of_lt hj]
    · simp [hj]

theorem zeroCells_list (z : Array Value) (n : Nat) : (Builtin.zeroCells z n).toList = (List.replicate n z.toList).flatten := by
  unfold Builtin.zeroCells
  exact range_map_zero z n

theorem VL.flat {ι : Inj} {z : List Value} (hz : VL ι z z) : ∀ n, VL ι (List.replicate n z).flatten (List.replicate n z).flatten
  | 0 => by simpa using VL.nil ι
  | n + 1 => by simp only [List.replicate_succ, List.flatten_cons]; exact hz.append (VL.flat hz n)

theorem flat_oneCell {z : List Value} (hz : z.all oneCell = true) (n : Nat) : (List.replicate n z).flatten.all oneCell = true := by
  simp only [List.all_eq_true, List.mem_flatten, List.mem_replicate, forall_exists_index, and_imp] at hz ⊢
  intro x l _ hl hx
  subst hl; exact hz x hx

theorem run_storeVar_of {t : TypeId} {n : Nat} (hn : sizeA P t = some n) {p' : Addr} {v' : Value} (hv : v'.cells.size = n) {w' : World} (hs : (storeCells p' v'.cells.toList).run P w = .ok () w') : (storeVar t p' v').run P w = .ok () w' := by
  simp [storeVar, run_sizeA hn, hv, hs]

theorem map_place (hR : R ι h w) {r r' : Nat} (hr : MRel ι r r') {o : AObj} (hg : h.get r = some o) : ∃ img o', ι r = some img ∧ img.blk = r' ∧ img.shift = 0 ∧ w.heap[r']? = some o' ∧ ObjRel ι img o o' := by
  obtain ⟨img, hi, hs, hb⟩ := hr
  obtain ⟨img2, o', hi2, ho, hrel⟩ := hR.live _ _ hg
  rw [hi] at hi2; injection hi2 with hi2; subst hi2
  exact ⟨img, o', hi, hb, hs, by rw [← hb]; exact ho, hrel⟩

theorem run_setObj {r : Nat} {o o2 : Obj} (ho : w.heap[r]? = some o) (hn : ∀ c e f, o ≠ .cells c e f) : (setObj r o2).run P w = .ok () { w with heap := w.heap.setIfInBounds r o2 } := by
  simp only [setObj, Sem.run, ho]

theorem EsRel.modify {es : List MapEntry} {es' : Array MapEntry} (he : EsRel ι es es') (i : Nat) {k k' v v' : Value} (hk : V ι k k') (hv : V ι v v') :
    EsRel ι (es.modify i fun e => { e with key := k, val := v }) (es'.modify i fun e => { e with key := k', val := v' }) := by
  refine ⟨by simpa using he.1, fun j e e' h1 h2 => ?_⟩
  rw [List.getElem?_modify] at h1
  rw [Array.getElem?_modify] at h2
  by_cases hij : i = j
  · subst hij
    simp only [if_true, Option.map_eq_map, Option.map_eq_some_iff] at h1 h2
    obtain ⟨e0, a1, rfl⟩ := h1
    obtain ⟨e0', a2, rfl⟩ := h2
    exact ⟨hk, hv, (he.2 i e0 e0' a1 a2).2.2⟩
  · simp [hij] at h1 h2
    exact he.2 j e e' h1 h2

theorem EsRel.push {es : List MapEntry} {es' : Array MapEntry} (he : EsRel ι es es') {k k' v v' : Value} (hk : V ι k k') (hv : V ι v v') (b : Nat) :
    EsRel ι (es ++ [{ key := k, val := v, born := b }]) (es'.push { key := k', val := v', born := b }) := by
  refine ⟨by simpa using he.1, fun j e e' h1 h2 => ?_⟩
  rw [Array.getElem?_push] at h2
  by_cases hj : j < es.length
  · rw [List.getElem?_append_left hj] at h1
    rw [if_neg (by rw [← he.1]; omega)] at h2
    exact he.2 j e e' h1 h2
  · rw [List.getElem?_append_right (by omega)] at h1
    have : j - es.length = 0 := by
      rcases Nat.eq_zero_or_pos (j - es.length) with h | h
      · exact h
      · rw [List.getElem?_eq_none (by simp; omega)] at h1; cases h1
    rw [this] at h1
    rw [if_pos (by rw [← he.1]; omega)] at h2
    simp at h1 h2; subst h1 h2
    exact ⟨hk, hv, rfl⟩

theorem EsRel.erase {es : List MapEntry} {es' : Array MapEntry} (he : EsRel ι es es') (i : Nat) : EsRel ι (es.eraseIdx i) (es'.eraseIdxIfInBounds i) := by
  have hl : (es'.eraseIdxIfInBounds i).toList = es'.toList.eraseIdx i := by
    unfold Array.eraseIdxIfInBounds
    split
    · simp
    · rename_i hlt
      rw [List.eraseIdx_of_length_le (by simpa using hlt)]
  refine ⟨?_, fun j e e' h1 h2 => ?_⟩
  · have : (es'.eraseIdxIfInBounds i).size = (es'.toList.eraseIdx i).length := by rw [← hl, Array.length_toList]
    rw [this, List.length_eraseIdx, List.length_eraseIdx, he.1]; simp
  · have h2' : (es'.toList.eraseIdx i)[j]? = some e' := by rw [← hl, Array.getElem?_toList]; exact h2
    rw [List.getElem?_eraseIdx] at h1 h2'
    split at h1
    · rw [if_pos ‹_›] at h2'; exact he.2 _ _ _ h1 (by simpa using h2')
    · rw [if_neg ‹_›] at h2'; exact he.2 _ _ _ h1 (by simpa using h2')

theorem bytes_beq {a b : ByteArray} (h : (a == b) = true) : a = b := by
  cases a; cases b
  exact congrArg ByteArray.mk (eq_of_beq (α := Array UInt8) h)
theorem bytes_beq_self (a : ByteArray) : (a == a) = true := by
  cases a
  exact beq_self_eq_true (α := Array UInt8) _

theorem sameBits_prim {k : PK} {x y : Value} (hk : primEq k x y = some true) (n : Nat) : Instr.sameBits n y x = true := by
  cases k <;> cases x <;> cases y <;> simp [primEq] at hk <;> (first | (cases bytes_beq hk; cases n <;> simp [Instr.sameBits, bytes_beq_self]; done) | (cases n <;> simp [Instr.sameBits, hk]))

theorem primsEq_true : ∀ {ks : List PK} {xs ys : List Value}, primsEq ks xs ys = some true → xs.length = ys.length ∧ ∀ (i : Nat) (x y : Value), xs[i]? = some x → ys[i]? = some y → ∃ k, primEq k x y = some true
  | [], [], [], _ => ⟨rfl, fun i x y hx _ => by simp at hx⟩
  | [], [], _ :: _, hp => by simp [primsEq] at hp
  | [], _ :: _, _, hp => by simp [primsEq] at hp
  | _ :: _, [], _, hp => by simp [primsEq] at hp
  | _ :: _, _ :: _, [], hp => by simp [primsEq] at hp
  | k :: ks, x :: xs, y :: ys, hp => by
    obtain ⟨_, _, _, _, c, e1, e2, e3, e4⟩ := primsEq_cons_inv hp
    injection e1 with a1 a2; injection e2 with a3 a4; subst a1 a2 a3 a4
    rcases e4 with ⟨rfl, e4⟩ | ⟨_, e5, _⟩
    · obtain ⟨h1, h2⟩ := primsEq_true e4
      refine ⟨by simp [h1], fun i u v hu hv => ?_⟩
      cases i with
      | zero => simp at hu hv; subst hu hv; exact ⟨k, e3⟩
      | succ i => exact h2 i u v (by simpa using hu) (by simpa using hv)
    · cases e5

theorem sameBits_key {kk : KeyKind} {x y : Value} (hk : keyEq kk x y = some true) : Instr.sameBits 10000 y x = true := by
  cases kk with
  | prim k => exact sameBits_prim hk _
  | flat ks =>
    cases x <;> cases y <;> simp [keyEq] at hk
    rename_i xs ys
    obtain ⟨h1, h2⟩ := primsEq_true hk
    simp only [Instr.sameBits, Bool.and_eq_true, beq_iff_eq, List.all_eq_true]
    refine ⟨by simpa using h1.symm, fun p hp => ?_⟩
    obtain ⟨i, hi, e⟩ := List.getElem_of_mem hp
    simp only [List.length_zip, Array.length_toList] at hi
    have hx : xs.toList[i]? = some (xs[i]'(by omega)) := by simp
    have hy : ys.toList[i]? = some (ys[i]'(by omega)) := by simp
    obtain ⟨k, hk⟩ := h2 i _ _ hx hy
    rw [List.getElem_zip] at e
    subst e
    exact sameBits_prim hk _

theorem keyFind_key {kk : KeyKind} {k : Value} : ∀ {es : List MapEntry} {j i : Nat} {v : Value}, keyFind kk k es j = some (some (i, v)) → j ≤ i ∧ ∃ e, es[i - j]? = some e ∧ keyEq kk k e.key = some true ∧ e.val = v
  | [], _, _, _, hk => by simp [keyFind] at hk
  | e :: es, j, i, v, hk => by
    simp only [keyFind] at hk
    split at hk
    · rename_i hq
      injection hk with hk; injection hk with hk; injection hk with e1 e2; subst e1 e2
      exact ⟨Nat.le_refl _, e, by simp, hq, rfl⟩
    · obtain ⟨h1, e', h2, h3, h4⟩ := keyFind_key hk
      refine ⟨by omega, e', ?_, h3, h4⟩
      rw [show i - j = (i - (j + 1)) + 1 by omega]; simpa using h2
    · cases hk

theorem mapSet_sound (hR : R ι h w) {t kt e : TypeId} (hu : P.underlying t = some (.map kt e)) {kk : KeyKind} (hkk : keyK P kt = some kk) {m k v m' k' v' : Value} (hm : V ι m m') (hk : V ι k k') (hv : V ι v v')
    {r : Nat} (hmr : m = .map (some r)) {es : List MapEntry} {clock : Nat} (hg : h.get r = some (.map es clock false)) (hke : keyEq kk k k ≠ none) {f : Option (Nat × Value)} (hf : keyFind kk k es 0 = some f) :
    ∃ w', (Instr.mapUpdate t m' k' v').run P w = .ok () w' ∧
      R ι (match f with | some (i, _) => h.set r (.map (es.modify i fun e => { e with key := k, val := v }) clock false) | none => h.set r (.map (es ++ [{ key := k, val := v, born := clock }]) (clock + 1) false)) w' ∧
      Step ι h w ι (match f with | some (i, _) => h.set r (.map (es.modify i fun e => { e with key := k, val := v }) clock false) | none => h.set r (.map (es ++ [{ key := k, val := v, born := clock }]) (clock + 1) false)) w' := by
  subst hmr
  obtain ⟨r', rfl, hr⟩ := hm.msome_inv
  obtain ⟨img, o', hi, hb, hs, ho, h0, es', rfl, hes⟩ := map_place hR hr hg
  have hkeq : k' = k := by
    cases hq : keyEq kk k k with
    | none => exact absurd hq hke
    | some b => exact (keyEq_inv hq hk hk).1
  subst hkeq
  obtain ⟨f', h1, h2⟩ := run_findKey hkk hes hf w
  have hck := run_checkKey (P := P) hkk hke false w
  have hgo := run_getObj (P := P) ho (by simp)
  cases f with
  | none =>
    cases f' with
    | some _ => exact absurd h2 (by simp [FRel])
    | none =>
      have hw := hR.write (o2 := .map (es ++ [{ key := k', val := v, born := clock }]) (clock + 1) false) (o2' := .map (es'.push { key := k', val := v', born := clock }) (clock + 1)) hg rfl rfl hi ⟨hs, _, rfl, hes.push hk hv clock⟩
      subst hb
      refine ⟨_, ?_, hw⟩
      simp [Instr.mapUpdate, run_under hu, hgo, hck, h1, run_setObj ho]
  | some p =>
    obtain ⟨i, u⟩ := p
    cases f' with
    | none => exact absurd h2 (by simp [FRel])
    | some p' =>
      obtain ⟨i', u'⟩ := p'
      obtain ⟨rfl, _⟩ := h2
      obtain ⟨_, e0, he0, heq, _⟩ := keyFind_key hf
      simp only [Nat.sub_zero] at he0
      have hes' : ∃ e0', es'[i]? = some e0' := by
        have : i < es'.size := by rw [← hes.1]; exact (List.getElem?_eq_some_iff.1 he0).1
        exact ⟨es'[i], Array.getElem?_eq_getElem this⟩
      obtain ⟨e0', he0'⟩ := hes'
      have hkk' : e0'.key = e0.key := (keyEq_inv heq hk (hes.2 i e0 e0' he0 he0').1).2
      have hst : (Instr.keyThatStays e0'.key k').run P w = .ok k' w := by
        unfold Instr.keyThatStays
        rw [if_pos (by rw [hkk']; exact sameBits_key heq)]; rfl
      have hw := hR.write (o2 := .map (es.modify i fun e => { e with key := k', val := v }) clock false) (o2' := .map (es'.modify i fun e => { e with key := k', val := v' }) clock) hg rfl rfl hi ⟨hs, _, rfl, hes.modify i hk hv⟩
      subst hb
      refine ⟨_, ?_, hw⟩
      simp [Instr.mapUpdate, run_under hu, hgo, hck, h1, he0', hst, run_setObj ho]

end
end Go.Am
