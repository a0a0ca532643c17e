/- The abstract machine, sixth part: structs of plain cells held against each other; keys of maps. -/
import Derived.Test.YtbnfbpiahcjhkaaGreatAm5
namespace Go.Am
open Go

section
variable {P : Program} {ι : Inj} {h : AHeap} {w : World} {env : List Value} {a : Act}

theorem run_part1 {t : TypeId} (hb : aggA P t = some false) {cs : Array Value} {off : Nat} {v : Value} (hv : cs[off]? = some v) : (part t cs off).run P w = .ok v w := by
  simp [part, run_aggA hb, hv]

theorem primsEq_cons_inv {k : PK} {ks : List PK} {l l' : List Value} {b : Bool} (hp : primsEq (k :: ks) l l' = some b) :
    ∃ x xs y ys c, l = x :: xs ∧ l' = y :: ys ∧ primEq k x y = some c ∧ ((c = true ∧ primsEq ks xs ys = some b) ∨ (c = false ∧ b = false ∧ ∃ b', primsEq ks xs ys = some b')) := by
  cases l with
  | nil => simp [primsEq] at hp
  | cons x xs =>
    cases l' with
    | nil => simp [primsEq] at hp
    | cons y ys =>
      simp only [primsEq] at hp
      split at hp
      · rename_i hq; exact ⟨x, xs, y, ys, true, rfl, rfl, hq, .inl ⟨rfl, hp⟩⟩
      · rename_i hq
        simp only [Option.map_eq_some_iff] at hp
        obtain ⟨b', h1, h2⟩ := hp
        exact ⟨x, xs, y, ys, false, rfl, rfl, hq, .inr ⟨rfl, h2.symm, b', h1⟩⟩
      · cases hp

theorem run_eqFields (d : Nat) (xs ys : Array Value) (w : World) : ∀ (fs : List Field) (i : Nat) (ks : List PK) (b : Bool), flatFs P fs i = some ks → primsEq ks (xs.toList.drop i) (ys.toList.drop i) = some b →
    (forIn (m := Sem) fs ((none, ()) : Option Bool × Unit) fun f _ =>
        if f.name ≠ "_" then do
          let u ← part f.type xs f.offset
          let v ← part f.type ys f.offset
          let e ← Op.equalIn (d + 1) f.type u v
          if (!e) = true then pure (ForInStep.done (some false, ())) else pure (ForInStep.yield (none, ()))
        else pure (ForInStep.yield (none, ()))).run P w = .ok (if b then (none, ()) else (some false, ())) w
  | [], i, ks, b, hf, hp => by
    simp [flatFs] at hf; subst hf
    cases hx : xs.toList.drop i <;> cases hy : ys.toList.drop i <;> rw [hx, hy] at hp <;> simp [primsEq] at hp
    subst hp
    simp
  | f :: fs, i, ks, b, hf, hp => by
    simp only [flatFs] at hf
    split at hf
    · rename_i hc
      obtain ⟨h1, h2, h3⟩ := hc
      split at hf
      · rename_i k hk
        simp only [Option.map_eq_some_iff] at hf
        obtain ⟨ks', hks, rfl⟩ := hf
        obtain ⟨x, xs', y, ys', c, e1, e2, e3, e4⟩ := primsEq_cons_inv hp
        have hx : xs[f.offset]? = some x := by rw [h3, ← Array.getElem?_toList]; have := congrArg (·[0]?) e1; simpa [List.getElem?_drop] using this
        have hy : ys[f.offset]? = some y := by rw [h3, ← Array.getElem?_toList]; have := congrArg (·[0]?) e2; simpa [List.getElem?_drop] using this
        have hdx : xs.toList.drop (i + 1) = xs' := by rw [← List.drop_drop, e1]; rfl
        have hdy : ys.toList.drop (i + 1) = ys' := by rw [← List.drop_drop, e2]; rfl
        simp only [List.forIn_cons, h1, ne_eq, not_false_eq_true, if_true, Sem.run_bind, run_part1 h2 hx, run_part1 h2 hy, Result.andThen_ok, run_equalIn_prim hk e3]
        rcases e4 with ⟨rfl, e4⟩ | ⟨rfl, rfl, b', _⟩
        · have ih := run_eqFields d xs ys w fs (i + 1) ks' b hks (by rw [hdx, hdy]; exact e4)
          simpa using ih
        · simp
      · cases hf
    · cases hf

theorem run_eqElems (d : Nat) {e : TypeId} {k : PK} (hk : primT P e = some k) (h2 : aggA P e = some false) (xs ys : Array Value) (w : World) : ∀ (n i : Nat) (b : Bool),
    primsEq (List.replicate n k) (xs.toList.drop i) (ys.toList.drop i) = some b →
    (forIn (m := Sem) (List.range' i n) ((none, ()) : Option Bool × Unit) fun j _ => do
          let u ← part e xs (j * 1)
          let v ← part e ys (j * 1)
          let e ← Op.equalIn (d + 1) e u v
          if (!e) = true then pure (ForInStep.done (some false, ())) else pure (ForInStep.yield (none, ()))).run P w = .ok (if b then (none, ()) else (some false, ())) w
  | 0, i, b, hp => by
    cases hx : xs.toList.drop i <;> cases hy : ys.toList.drop i <;> rw [hx, hy] at hp <;> simp [primsEq] at hp
    subst hp
    simp
  | n + 1, i, b, hp => by
    obtain ⟨x, xs', y, ys', c, e1, e2, e3, e4⟩ := primsEq_cons_inv hp
    have hx : xs[i * 1]? = some x := by rw [Nat.mul_one, ← Array.getElem?_toList]; have := congrArg (·[0]?) e1; simpa [List.getElem?_drop] using this
    have hy : ys[i * 1]? = some y := by rw [Nat.mul_one, ← Array.getElem?_toList]; have := congrArg (·[0]?) e2; simpa [List.getElem?_drop] using this
    have hdx : xs.toList.drop (i + 1) = xs' := by rw [← List.drop_drop, e1]; rfl
    have hdy : ys.toList.drop (i + 1) = ys' := by rw [← List.drop_drop, e2]; rfl
    simp only [List.range'_succ, List.forIn_cons, Sem.run_bind, run_part1 h2 hx, run_part1 h2 hy, Result.andThen_ok, run_equalIn_prim hk e3]
    rcases e4 with ⟨rfl, e4⟩ | ⟨rfl, rfl, b', _⟩
    · have ih := run_eqElems d hk h2 xs ys w n (i + 1) b (by rw [hdx, hdy]; exact e4)
      simpa using ih
    · simp

theorem flatT_guard {t : TypeId} {ks : List PK} (ht : flatT P t = some ks) : P.eqGuardType P.depth t = false := by
  unfold flatT at ht
  split at ht
  · split at ht
    · rename_i hc; exact hc.2
    · cases ht
  · split at ht
    · rename_i hc; exact hc.1
    · cases ht
  · cases ht

theorem run_equalIn_flat {t : TypeId} {ks : List PK} (ht : flatT P t = some ks) {xs ys : Array Value} {b : Bool} (hp : primsEq ks xs.toList ys.toList = some b) (d : Nat) (w : World) :
    (Op.equalIn (d + 1 + 1) t (.agg xs) (.agg ys)).run P w = .ok b w := by
  unfold flatT at ht
  split at ht
  · rename_i fs hu
    split at ht
    · rename_i hc
      have := run_eqFields (P := P) d xs ys w fs.toList 0 ks b ht (by simpa using hp)
      rw [Op.equalIn]
      simp only [Sem.run_bind, run_under hu, Result.andThen_ok, run_program, hc.1, Bool.false_eq_true, if_false]
      rw [← Array.forIn_toList, this]
      cases b <;> simp
    · cases ht
  · rename_i n e hu
    split at ht
    · rename_i hc
      simp only [Option.map_eq_some_iff] at ht
      obtain ⟨k, hk, rfl⟩ := ht
      have := run_eqElems (P := P) d hk hc.2.1 xs ys w n 0 b (by simpa using hp)
      rw [Op.equalIn]
      simp only [Sem.run_bind, run_under hu, Result.andThen_ok, run_program, run_sizeA hc.2.2]
      rw [Std.Legacy.Range.forIn_eq_forIn_range']
      simp only [Std.Legacy.Range.size, Nat.sub_zero, Nat.add_sub_cancel, Nat.div_one]
      rw [this]
      cases b <;> simp
    · cases ht
  · cases ht

theorem keyEq_inv {kk : KeyKind} {x y : Value} {b : Bool} (hp : keyEq kk x y = some b) {x' y' : Value} (hx : V ι x x') (hy : V ι y y') : x' = x ∧ y' = y := by
  cases kk with
  | prim k => exact primEq_inv hp hx hy
  | flat ks =>
    cases x <;> cases y <;> simp [keyEq] at hp
    obtain ⟨c, rfl, h1⟩ := hx.agg_inv
    obtain ⟨c', rfl, h2⟩ := hy.agg_inv
    obtain ⟨e1, e2⟩ := primsEq_inv hp h1.toList h2.toList
    exact ⟨by rw [Array.toList_inj.1 e1], by rw [Array.toList_inj.1 e2]⟩

theorem run_equal_key {t : TypeId} {kk : KeyKind} (ht : keyK P t = some kk) {x y : Value} {b : Bool} (hp : keyEq kk x y = some b) (w : World) : (Op.equal t x y).run P w = .ok b w := by
  unfold Op.equal Op.maxDepth
  unfold keyK at ht
  split at ht
  · rename_i k hk
    injection ht with ht; subst ht
    exact run_equalIn_prim hk hp _ w
  · simp only [Option.map_eq_some_iff] at ht
    obtain ⟨ks, hk, rfl⟩ := ht
    cases x <;> cases y <;> simp [keyEq] at hp
    exact run_equalIn_flat hk hp _ w

end
end Go.Am
