/- The abstract machine, seventh part: looking a key up. -/
import Derived.Test.YtbnfbpiahcjhkaaGreatAm6
namespace Go.Am
open Go

section
variable {P : Program} {ι : Inj} {h : AHeap} {w : World} {env : List Value} {a : Act}

theorem run_checkKey_prim {t : TypeId} {k : PK} (ht : primT P t = some k) (e : Bool) (n : Nat) (v : Value) (w : World) : (Instr.checkKey e (n + 1) t v).run P w = .ok () w := by
  unfold primT at ht
  split at ht
  · rename_i hu; simp [Instr.checkKey, run_under hu]
  · rename_i hu; simp [Instr.checkKey, run_under hu]
  · rename_i hu; simp [Instr.checkKey, run_under hu]
  · cases ht

theorem primsEq_length : ∀ {ks : List PK} {xs ys : List Value} {b : Bool}, primsEq ks xs ys = some b → xs.length = ks.length
  | [], [], [], _, _ => rfl
  | [], [], _ :: _, _, hp => by simp [primsEq] at hp
  | [], _ :: _, _, _, hp => by simp [primsEq] at hp
  | _ :: _, [], _, _, hp => by simp [primsEq] at hp
  | _ :: _, _ :: _, [], _, hp => by simp [primsEq] at hp
  | k :: ks, x :: xs, y :: ys, b, hp => by
    obtain ⟨_, _, _, _, _, e1, e2, _, e4⟩ := primsEq_cons_inv hp
    injection e1 with a1 a2; injection e2 with a3 a4; subst a1 a2 a3 a4
    rcases e4 with ⟨_, e4⟩ | ⟨_, _, b', e4⟩ <;> simp [primsEq_length e4]

theorem run_checkFields (e : Bool) (n : Nat) (xs : Array Value) (w : World) : ∀ (fs : List Field) (i : Nat) (ks : List PK), flatFs P fs i = some ks → xs.size = i + ks.length →
    (forIn (m := Sem) fs PUnit.unit fun f _ =>
        if f.name ≠ "_" then do
          let u ← part f.type xs f.offset
          Instr.checkKey e (n + 1) f.type u
          pure (ForInStep.yield PUnit.unit)
        else pure (ForInStep.yield PUnit.unit)).run P w = .ok PUnit.unit w
  | [], i, ks, hf, hp => by simp
  | f :: fs, i, ks, hf, hp => by
    simp only [flatFs] at hf
    split at hf
    · rename_i hc
      obtain ⟨h1, h2, h3⟩ := hc
      split at hf
      · rename_i k hk
        simp only [Option.map_eq_some_iff] at hf
        obtain ⟨ks', hks, rfl⟩ := hf
        simp only [List.length_cons] at hp
        have hx : xs[f.offset]? = some xs[i] := by rw [h3]; exact Array.getElem?_eq_getElem (by omega)
        have ih := run_checkFields e n xs w fs (i + 1) ks' hks (by omega)
        simp only [List.forIn_cons, h1, ne_eq, not_false_eq_true, if_true, Sem.run_bind, run_part1 h2 hx, Result.andThen_ok, run_checkKey_prim hk, Sem.run_pure]
        simpa using ih
      · cases hf
    · cases hf

theorem run_checkElems (e : Bool) (n : Nat) {t : TypeId} {k : PK} (hk : primT P t = some k) (h2 : aggA P t = some false) (xs : Array Value) (w : World) : ∀ (m i : Nat), xs.size = i + m →
    (forIn (m := Sem) (List.range' i m) PUnit.unit fun j _ => do
          let s ← sizeOf t
          let u ← part t xs (j * s)
          Instr.checkKey e (n + 1) t u
          pure (ForInStep.yield PUnit.unit)).run P w = .ok PUnit.unit w ∨ sizeA P t ≠ some 1
  | 0, i, hp => by simp
  | m + 1, i, hp => by
    by_cases hs : sizeA P t = some 1
    · left
      have hx : xs[i * 1]? = some xs[i] := by rw [Nat.mul_one]; exact Array.getElem?_eq_getElem (by omega)
      have ih := (run_checkElems e n hk h2 xs w m (i + 1) (by omega)).resolve_right (fun c => c hs)
      simp only [List.range'_succ, List.forIn_cons, Sem.run_bind, run_sizeA hs, run_part1 h2 hx, Result.andThen_ok, run_checkKey_prim hk, Sem.run_pure]
      simpa using ih
    · exact .inr hs

theorem run_checkKey {t : TypeId} {kk : KeyKind} (ht : keyK P t = some kk) {v : Value} (hv : keyEq kk v v ≠ none) (e : Bool) (w : World) : (Instr.checkKey e 10000 t v).run P w = .ok () w := by
  unfold keyK at ht
  split at ht
  · rename_i k hk; exact run_checkKey_prim hk e 9999 v w
  · simp only [Option.map_eq_some_iff] at ht
    obtain ⟨ks, hk, rfl⟩ := ht
    cases v with
    | agg cs =>
      cases hq : primsEq ks cs.toList cs.toList with
      | none => exact absurd hq (by simpa [keyEq] using hv)
      | some b =>
        have hlen := primsEq_length hq
        unfold flatT at hk
        split at hk
        · rename_i fs hu
          split at hk
          · rename_i hc
            have := run_checkFields (P := P) e 9998 cs w fs.toList 0 ks hk (by simpa using hlen)
            rw [Instr.checkKey]
            simp only [Sem.run_bind, run_under hu, Result.andThen_ok]
            rw [← Array.forIn_toList]
            first
              | exact this
              | (rw [this]; rfl)
          · cases hk
        · rename_i n el hu
          split at hk
          · rename_i hc
            simp only [Option.map_eq_some_iff] at hk
            obtain ⟨k, hk', rfl⟩ := hk
            have := (run_checkElems (P := P) e 9998 hk' hc.2.1 cs w n 0 (by simpa using hlen)).resolve_right (fun c => c hc.2.2)
            rw [Instr.checkKey]
            simp only [Sem.run_bind, run_under hu, Result.andThen_ok]
            rw [Std.Legacy.Range.forIn_eq_forIn_range']
            simp only [Std.Legacy.Range.size, Nat.sub_zero, Nat.add_sub_cancel, Nat.div_one]
            first
              | exact this
              | (rw [this]; rfl)
          · cases hk
        · cases hk
    | _ => simp [keyEq] at hv

/-! ### Finding -/

def FRel (ι : Inj) : Option (Nat × Value) → Option (Nat × Value) → Prop
  | none, none => True
  | some (i, v), some (j, v') => i = j ∧ V ι v v'
  | _, _ => False

def ELRel (ι : Inj) (es es' : List MapEntry) : Prop := es.length = es'.length ∧ ∀ (i : Nat) (e e' : MapEntry), es[i]? = some e → es'[i]? = some e' → V ι e.key e'.key ∧ V ι e.val e'.val ∧ e'.born = e.born

theorem EsRel.toList {es : List MapEntry} {es' : Array MapEntry} (he : EsRel ι es es') : ELRel ι es es'.toList :=
  ⟨by simpa using he.1, fun i e e' h1 h2 => he.2 i e e' h1 (by simpa using h2)⟩

theorem ELRel.cons_inv {e : MapEntry} {es es' : List MapEntry} (he : ELRel ι (e :: es) es') : ∃ e' es'', es' = e' :: es'' ∧ V ι e.key e'.key ∧ V ι e.val e'.val ∧ e'.born = e.born ∧ ELRel ι es es'' := by
  cases es' with
  | nil => exact absurd he.1 (by simp)
  | cons e' es'' =>
    obtain ⟨a, b, c⟩ := he.2 0 e e' rfl rfl
    exact ⟨e', es'', rfl, a, b, c, by simpa using he.1, fun i x y hx hy => he.2 (i + 1) x y (by simpa using hx) (by simpa using hy)⟩

theorem ELRel.nil_inv {es' : List MapEntry} (he : ELRel ι [] es') : es' = [] := by
  cases es' with
  | nil => rfl
  | cons e' es'' => exact absurd he.1 (by simp)

theorem findNow_prim {t : TypeId} {k : PK} (ht : primT P t = some k) {d : TypeDesc} (hd : P.underlying t = some d) {x : Value} : ∀ {es es' : List MapEntry} {i : Nat} {r : Option (Nat × Value)},
    ELRel ι es es' → keyFind (.prim k) x es i = some r → ∃ r', Instr.findNow d x es' i = some r' ∧ FRel ι r r'
  | [], es', i, r, he, hk => by
    rw [he.nil_inv]; simp [keyFind] at hk; subst hk; exact ⟨none, rfl, trivial⟩
  | e :: es, es', i, r, he, hk => by
    obtain ⟨e', es'', rfl, a1, a2, _, he'⟩ := he.cons_inv
    simp only [keyFind, keyEq] at hk
    have hs : ∀ b, primEq k x e.key = some b → Instr.sameNow d x e'.key = some b := fun b hb => by
      obtain ⟨_, e2⟩ := primEq_inv (ι := ι) (k := k) (x := x) (y := e.key) (b := b) hb (x' := x) (y' := e'.key) (by
        cases k <;> cases x <;> cases hek : e.key <;> rw [hek] at hb <;> simp [primEq] at hb <;> constructor) a1
      rw [e2]
      unfold primT at ht
      rw [hd] at ht
      cases k <;> cases x <;> cases hek : e.key <;> rw [hek] at hb <;> simp [primEq] at hb <;> (cases d <;> simp at ht <;> simp [Instr.sameNow, hb])
    split at hk
    · rename_i hq
      injection hk with hk; subst hk
      exact ⟨some (i, e'.val), by simp [Instr.findNow, hs _ hq], rfl, a2⟩
    · rename_i hq
      obtain ⟨r', h1, h2⟩ := findNow_prim ht hd he' hk
      exact ⟨r', by simp [Instr.findNow, hs _ hq, h1], h2⟩
    · cases hk

theorem run_findAsking {t : TypeId} {kk : KeyKind} (ht : keyK P t = some kk) {x : Value} (hx : ∀ y b, keyEq kk x y = some b → V ι x x) (w : World) : ∀ {es es' : List MapEntry} {i : Nat} {r : Option (Nat × Value)},
    ELRel ι es es' → keyFind kk x es i = some r → ∃ r', (Instr.findAsking t x es' i).run P w = .ok r' w ∧ FRel ι r r'
  | [], es', i, r, he, hk => by
    rw [he.nil_inv]; simp [keyFind] at hk; subst hk; exact ⟨none, rfl, trivial⟩
  | e :: es, es', i, r, he, hk => by
    obtain ⟨e', es'', rfl, a1, a2, _, he'⟩ := he.cons_inv
    simp only [keyFind] at hk
    have hs : ∀ b, keyEq kk x e.key = some b → (Op.equal t x e'.key).run P w = .ok b w := fun b hb => by
      obtain ⟨_, e2⟩ := keyEq_inv hb (hx _ _ hb) a1
      rw [e2]
      exact run_equal_key ht hb w
    split at hk
    · rename_i hq
      injection hk with hk; subst hk
      exact ⟨some (i, e'.val), by simp [Instr.findAsking, hs _ hq], rfl, a2⟩
    · rename_i hq
      obtain ⟨r', h1, h2⟩ := run_findAsking ht hx w he' hk
      exact ⟨r', by simp [Instr.findAsking, hs _ hq, h1], h2⟩
    · cases hk

theorem prim_V {k : PK} {x y : Value} {b : Bool} (hb : primEq k x y = some b) : V ι x x := by
  cases k <;> cases x <;> cases y <;> simp [primEq] at hb <;> constructor

theorem prims_V : ∀ {ks : List PK} {xs ys : List Value} {b : Bool}, primsEq ks xs ys = some b → VL ι xs xs
  | [], [], _, _, _ => VL.nil ι
  | [], _ :: _, _, _, hp => by simp [primsEq] at hp
  | _ :: _, [], _, _, hp => by simp [primsEq] at hp
  | _ :: _, _ :: _, [], _, hp => by simp [primsEq] at hp
  | k :: ks, x :: xs, y :: ys, b, hp => by
    obtain ⟨_, _, _, _, _, e1, e2, e3, e4⟩ := primsEq_cons_inv hp
    injection e1 with a1 a2; injection e2 with a3 a4; subst a1 a2 a3 a4
    rcases e4 with ⟨_, e4⟩ | ⟨_, _, b', e4⟩ <;> exact VL.cons (prim_V e3) (prims_V e4)

theorem key_V {kk : KeyKind} {x y : Value} {b : Bool} (hb : keyEq kk x y = some b) : V ι x x := by
  cases kk with
  | prim k => exact prim_V hb
  | flat ks =>
    cases x <;> cases y <;> simp [keyEq] at hb
    have := prims_V (ι := ι) hb
    exact .agg rfl (fun i x y hx hy => this.2 i x y (by simpa using hx) (by simpa using hy))

theorem run_findKey {t : TypeId} {kk : KeyKind} (ht : keyK P t = some kk) {x : Value} {es : List MapEntry} {es' : Array MapEntry} {r : Option (Nat × Value)} (he : EsRel ι es es') (hk : keyFind kk x es 0 = some r) (w : World) :
    ∃ r', (Instr.findKey t x es'.toList).run P w = .ok r' w ∧ FRel ι r r' := by
  have he := he.toList
  obtain ⟨r2, h3, h4⟩ := run_findAsking ht (fun y b hb => key_V hb) w he hk
  unfold Instr.findKey
  have hu : ∃ d, P.underlying t = some d := by
    unfold keyK primT flatT at ht
    cases hd : P.underlying t with
    | none => rw [hd] at ht; simp at ht
    | some d => exact ⟨d, rfl⟩
  obtain ⟨d, hd⟩ := hu
  cases hp : primT P t with
  | some k =>
    have : kk = .prim k := by unfold keyK at ht; rw [hp] at ht; simpa using ht.symm
    subst this
    obtain ⟨r', h1, h2⟩ := findNow_prim hp hd he hk
    exact ⟨r', by simp [run_under hd, h1], h2⟩
  | none =>
    cases hl : es'.toList with
    | nil =>
      rw [hl] at h3
      simp [Instr.findAsking] at h3
      subst h3
      exact ⟨none, by simp [run_under hd, Instr.findNow], h4⟩
    | cons e' es'' =>
      have hn : Instr.findNow d x (e' :: es'') 0 = none := by
        unfold primT at hp
        rw [hd] at hp
        have : Instr.sameNow d x e'.key = none := by
          cases d <;> simp at hp <;> rfl
        simp [Instr.findNow, this]
      rw [hl] at h3
      exact ⟨r2, by simp [run_under hd, hn, h3], h4⟩

end
end Go.Am
