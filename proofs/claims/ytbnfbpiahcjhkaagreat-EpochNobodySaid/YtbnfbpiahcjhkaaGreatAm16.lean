/- The abstract machine, sixteenth part: THE HEAVY OPERATIONS ARE SOUND (but for calls, steps of an iterator, panics). -/
import Derived.Test.YtbnfbpiahcjhkaaGreatAm15
import Derived.IntWalk
namespace Go.Am
open Go

section
variable {P : Program} {ι : Inj} {h : AHeap} {w : World} {env : List Value} {a : Act}

theorem heavy_builtin (hR : R ι h w) (hE : ERel ι env a) {b : Builtin} {argTypes : Array TypeId} {args : Array Operand} {type : TypeId} {ao : AOp} (hc : compBuiltin P b argTypes.toList args.toList = some ao)
    {v : Value} {h' : AHeap} (hv : heavyVal ao env h = some (v, h')) : HSound P ι h w v h' (do let d ← resolve a.eval ⟨.builtin b, args, argTypes⟩ type; invoke d.target d.args) := by
  unfold compBuiltin at hc
  simp only [Option.bind_eq_bind, Option.bind_eq_some_iff] at hc
  obtain ⟨xs, hxs, hc⟩ := hc
  simp only [resolve]
  have fin : ∀ {s : Sem Value} {us : Array Value}, args.map a.eval = us → (∀ c, builtin b argTypes type c us = (do pure (Next.value (← s)))) → (∃ v' w' ι', s.run P w = .ok v' w' ∧ V ι' v v' ∧ R ι' h' w' ∧ Step ι h w ι' h' w') →
      HSound P ι h w v h' (do let d ← (pure { target := Target.builtin b argTypes type (args.map fun | .const _ => true | _ => false), args := args.map a.eval } : Sem Deferred); invoke d.target d.args) := fun {s us} hu hb ⟨v', w', ι', h1, h2, h3, h4⟩ => by
    refine ⟨.value v', w', ι', ?_, .inr ⟨v', rfl, h2⟩, h3, h4⟩
    rw [hu]
    simp only [Sem.run_bind, Sem.run_pure, Result.andThen_ok, invoke, hb]
    simp [h1]
  split at hc
  · -- append
    rename_i t u rest s x ht
    have ht0 : argTypes[0]? = some t := toList_cons ht
    have ht1 : argTypes[1]? = some u := by rw [← Array.getElem?_toList, ht]; rfl
    obtain ⟨sv, xv, hu, hS, hX⟩ := args_two hE hxs
    split at hc
    · rename_i e hd
      split at hc
      · -- of a make
        rename_i i k hi hdu
        simp only [Option.map_eq_some_iff] at hc
        obtain ⟨z, hz, rfl⟩ := hc
        simp only [heavyVal] at hv
        split at hv
        · rename_i n hn
          split at hv
          · rename_i hcond
            obtain ⟨hn0, hnb, hnm, hzl⟩ := hcond
            rw [hn] at hX
            have hXe := hX.int_inv
            obtain ⟨zv, hz1, hz2, hz3, hz4, hz5⟩ := zeroCs_rel ι hz
            have hfl := VL.flat hz4 n.toNat
            have hzr := fun w => (run_zeroV (P := P) hz1 w).1
            have hszi : ∀ w, (sizeOf e).run P w = .ok i.size w := fun w => by simp [sizeOf, typeInfo, hi]
            have hti : ∀ w, (typeInfo e).run P w = .ok i w := fun w => by simp [typeInfo, hi]
            obtain ⟨base, len, cap', hs', v', w', ι', h1, h2, h3, h4⟩ := appendWith_run (P := P) hR hi hz hS hfl hv true xv
              (appended := if n.toNat * i.size = 0 then pure #[] else do pure (Builtin.zeroCells (← zeroValue e).cells n.toNat)) (fun nd => by
                split
                · rename_i h0
                  have : (List.replicate n.toNat z).flatten = [] := by
                    apply List.eq_nil_of_length_eq_zero
                    rw [List.length_flatten, List.map_replicate, List.sum_replicate_nat, hzl]; exact h0
                  rw [this]; rfl
                · simp only [Sem.run_bind, hzr, Result.andThen_ok, Sem.run_pure]
                  congr 1
                  apply Array.ext'
                  rw [zeroCells_list, hz2])
            refine fin (s := Builtin.append_ argTypes type #[sv, xv]) hu (fun _ => rfl) ⟨v', w', ι', ?_, h2, h3, h4⟩
            have hwr : IntKind.i64.wrap n = n := by
              have : (mostBytes : Int) ≤ 9223372036854775807 := by decide
              exact IntWalk.i64_in n (by omega)
            rw [hs', hXe]
            rw [hs', hXe] at h1
            have hn1 : ¬ n < 0 := by omega
            have hn2 : ¬ n * (i.bytes : Int) > 2 ^ 48 := by
              have : (mostBytes : Int) ≤ 2 ^ 48 := by decide
              have h2 : ((n.toNat * i.bytes : Nat) : Int) = n * i.bytes := by rw [Int.natCast_mul, Int.toNat_of_nonneg hn0]
              omega
            simp only [Builtin.append_, ht0, ht1, List.getElem?_toArray, List.getElem?_cons_zero, List.getElem?_cons_succ, Sem.run_bind, run_under hd, run_under hdu, Result.andThen_ok, hszi, Sem.run_pure, asInt, asIntOf, hwr, if_true, if_neg hn1, if_neg hn2, hti] at h1 ⊢
            exact h1
          · cases hv
        · cases hv
      · rename_i i d hni hi hdu
        simp only [Option.map_eq_some_iff] at hc
        obtain ⟨z, hz, rfl⟩ := hc
        simp only [heavyVal] at hv
        split at hv
        · cases hv
        · rename_i n hn
          split at hv
          · cases hv
          · rename_i new hnew
            obtain ⟨new', hN, hrun⟩ := elems_run (P := P) hR hX hnew
            have hlen := lenOfA_run (P := P) hX hn w
            have hszi : ∀ w, (sizeOf e).run P w = .ok i.size w := fun w => by simp [sizeOf, typeInfo, hi]
            obtain ⟨base, len, cap', hs', v', w', ι', h1, h2, h3, h4⟩ := appendWith_run (P := P) hR hi hz hS hN hv false xv
              (appended := Builtin.firstCells i.size n xv) hrun
            refine fin (s := Builtin.append_ argTypes type #[sv, xv]) hu (fun _ => rfl) ⟨v', w', ι', ?_, h2, h3, h4⟩
            have hz0 : (match d with | .int _ => true | _ => false) = false := by
              cases d <;> first | rfl | exact absurd rfl (hni _)
            rw [hs']
            rw [hs'] at h1
            simp only [Builtin.append_, ht0, ht1, List.getElem?_toArray, List.getElem?_cons_zero, List.getElem?_cons_succ, Sem.run_bind, run_under hd, run_under hdu, Result.andThen_ok, hszi, Sem.run_pure, hz0, Bool.false_eq_true, if_false, hlen, Bool.not_false, if_true] at h1 ⊢
            exact h1
      · cases hc
    · cases hc
  · split at hc <;> first | (cases hc; done) | (injection hc with hc; subst hc; simp [heavyVal] at hv; done) | (split at hc <;> first | (cases hc; done) | (injection hc with hc; subst hc; simp [heavyVal] at hv))
  · split at hc <;> first | (cases hc; done) | (injection hc with hc; subst hc; simp [heavyVal] at hv)
  · -- copy
    rename_i t rest d s ht
    have ht0 : argTypes[0]? = some t := toList_cons ht
    obtain ⟨dv, sv, hu, hD, hS⟩ := args_two hE hxs
    split at hc
    · rename_i e hd
      simp only [Option.map_eq_some_iff] at hc
      obtain ⟨sz, hsz, rfl⟩ := hc
      simp only [heavyVal] at hv
      split at hv
      · rename_i base dl dc sl hde hle
        rw [hde] at hD
        have hlen := lenOfA_run (P := P) hS hle w
        split at hv
        · cases hv
        · rename_i cs hcs
          obtain ⟨cs', hC, hrun⟩ := elems_run (P := P) hR hS hcs
          have hrun0 := hrun w.drawn
          obtain ⟨base', dc', e1, hb⟩ := hD.slice_inv
          have pre : ∀ {w' : World}, (match base' with | some a => storeCells a cs' | none => pure () : Sem Unit).run P w = .ok () w' → (Builtin.copy_ argTypes type #[dv, sv]).run P w = .ok (goInt (Nat.min sl dl)) w' := fun {w'} h1 => by
            rw [e1]
            simp only [Builtin.copy_, ht0, List.getElem?_toArray, List.getElem?_cons_zero, List.getElem?_cons_succ, Sem.run_bind, run_under hd, Result.andThen_ok, hlen, run_sizeA hsz, hrun0]
            cases base' with
            | none => simp at h1 ⊢; exact h1
            | some a => simp at h1 ⊢; rw [h1]; rfl
          split at hv
          · split at hv
            · rename_i h0
              injection hv with hv; injection hv with q1 q2; subst q1 q2
              cases base' with
              | some _ => simp at hb
              | none => exact fin hu (fun _ => rfl) ⟨_, w, ι, pre rfl, by rw [h0]; exact .int _ _, hR, Step.refl _ _ _⟩
            · cases hv
          · rename_i p
            cases base' with
            | none => simp at hb
            | some p' =>
              split at hv
              · split at hv
                · rename_i h0
                  injection hv with hv; injection hv with q1 q2; subst q1 q2
                  have : cs' = [] := by
                    have := hC.1; rw [List.isEmpty_iff.1 h0] at this
                    exact List.eq_nil_of_length_eq_zero this.symm
                  exact fin hu (fun _ => rfl) ⟨_, w, ι, pre (by rw [this]; rfl), .int _ _, hR, Step.refl _ _ _⟩
                · cases hv
              · rename_i hsp
                obtain ⟨p2, c2, e2, hA, _⟩ := hD.ssome_inv (by simpa using hsp)
                rw [e1] at e2; injection e2 with e2 _ _; injection e2 with e2; subst e2
                simp only [Option.map_eq_some_iff] at hv
                obtain ⟨h2, hst, hv⟩ := hv
                injection hv with q1 q2; subst q1 q2
                obtain ⟨w', h3, h4, h5⟩ := run_storeN (P := P) hR hA hC hst
                exact fin hu (fun _ => rfl) ⟨_, w', ι, pre h3, .int _ _, h4, h5⟩
      · cases hv
    · cases hc
  · -- delete
    rename_i t rest m k ht
    have ht0 : argTypes[0]? = some t := toList_cons ht
    obtain ⟨mv, kv, hu, hM, hK⟩ := args_two hE hxs
    split at hc
    · rename_i kt e hd
      simp only [Option.map_eq_some_iff] at hc
      obtain ⟨kk, hkk, rfl⟩ := hc
      simp only [heavyVal] at hv
      split at hv
      · cases hv
      · rename_i hke
        have hkeq : kv = k.ev env := by
          cases hq : keyEq kk (k.ev env) (k.ev env) with
          | none => exact absurd hq hke
          | some b => exact (keyEq_inv hq hK hK).1
        have hnil : V ι (.tuple #[]) (.tuple #[]) := V.undef ι
        split at hv
        · rename_i hm
          rw [hm] at hM
          injection hv with hv; injection hv with q1 q2; subst q1 q2
          refine fin hu (fun _ => rfl) ⟨.tuple #[], w, ι, ?_, hnil, hR, Step.refl _ _ _⟩
          have hck := run_checkKey (P := P) hkk hke true w
          rw [hM.mnone_inv, hkeq]
          simp [Builtin.delete_, ht0, run_under hd, hck]
        · rename_i r hm
          rw [hm] at hM
          obtain ⟨r', e1, hr⟩ := hM.msome_inv
          split at hv
          · rename_i es clock hg
            obtain ⟨img, o', hi, hb, hs, ho, h0, es', rfl, hes⟩ := map_place hR hr hg
            have hck := run_checkKey (P := P) hkk hke es'.isEmpty w
            have hgo := run_getObj (P := P) ho (by simp)
            split at hv
            · rename_i i u hf
              injection hv with hv; injection hv with q1 q2; subst q1 q2
              obtain ⟨f', h1, h2⟩ := run_findKey hkk hes hf w
              cases f' with
              | none => exact absurd h2 (by simp [FRel])
              | some p' =>
                obtain ⟨i', u'⟩ := p'
                obtain ⟨rfl, _⟩ := h2
                have hw := hR.write (o2 := .map (es.eraseIdx i) clock false) (o2' := .map (es'.eraseIdxIfInBounds i) clock) hg rfl rfl hi ⟨hs, _, rfl, hes.erase i⟩
                subst hb
                refine fin hu (fun _ => rfl) ⟨.tuple #[], _, ι, ?_, hnil, hw⟩
                rw [e1, hkeq]
                simp [Builtin.delete_, ht0, run_under hd, hgo, hck, h1, run_setObj ho]
            · rename_i hf
              injection hv with hv; injection hv with q1 q2; subst q1 q2
              obtain ⟨f', h1, h2⟩ := run_findKey hkk hes hf w
              cases f' with
              | some _ => exact absurd h2 (by simp [FRel])
              | none =>
                refine fin hu (fun _ => rfl) ⟨.tuple #[], w, ι, ?_, hnil, hR, Step.refl _ _ _⟩
                have hsame : w.heap.setIfInBounds r' (.map es' clock) = w.heap := by
                  have hlt : r' < w.heap.size := (Array.getElem?_eq_some_iff.1 ho).1
                  apply Array.ext_getElem?
                  intro j
                  by_cases hj : r' = j
                  · subst hj; rw [Array.getElem?_setIfInBounds_self_of_lt hlt, ho]
                  · simp [Array.getElem?_setIfInBounds_ne hj]
                rw [e1, hkeq]
                simp [Builtin.delete_, ht0, run_under hd, hgo, hck, h1, run_setObj ho, hsame]
            · cases hv
          · cases hv
        · cases hv
    · cases hc
  · -- clear
    rename_i t rest x ht
    have ht0 : argTypes[0]? = some t := toList_cons ht
    obtain ⟨xv, hu, hX⟩ := args_one hE hxs
    have hnil : V ι (.tuple #[]) (.tuple #[]) := V.undef ι
    split at hc
    · rename_i kt e hd
      injection hc with hc; subst hc
      simp only [heavyVal] at hv
      split at hv
      · rename_i hm
        rw [hm] at hX
        injection hv with hv; injection hv with q1 q2; subst q1 q2
        refine fin hu (fun _ => rfl) ⟨.tuple #[], w, ι, ?_, hnil, hR, Step.refl _ _ _⟩
        rw [hX.mnone_inv]
        simp [Builtin.clear_, ht0, run_under hd]
      · rename_i r hm
        rw [hm] at hX
        obtain ⟨r', e1, hr⟩ := hX.msome_inv
        split at hv
        · rename_i es clock hg
          injection hv with hv; injection hv with q1 q2; subst q1 q2
          obtain ⟨img, o', hi, hb, hs, ho, h0, es', rfl, hes⟩ := map_place hR hr hg
          have hgo := run_getObj (P := P) ho (by simp)
          have hw := hR.write (o2 := .map [] clock false) (o2' := .map #[] clock) hg rfl rfl hi ⟨hs, _, rfl, rfl, fun i e e' h1 _ => by simp at h1⟩
          subst hb
          refine fin hu (fun _ => rfl) ⟨.tuple #[], _, ι, ?_, hnil, hw⟩
          rw [e1]
          simp [Builtin.clear_, ht0, run_under hd, hgo, run_setObj ho]
        · cases hv
      · cases hv
    · rename_i e hd
      simp only [Option.map_eq_some_iff] at hc
      obtain ⟨z, hz, rfl⟩ := hc
      obtain ⟨zv, hz1, hz2, hz3, hz4, hz5⟩ := zeroCs_rel ι hz
      simp only [heavyVal] at hv
      split at hv
      · rename_i l c hm
        rw [hm] at hX
        injection hv with hv; injection hv with q1 q2; subst q1 q2
        refine fin hu (fun _ => rfl) ⟨.tuple #[], w, ι, ?_, hnil, hR, Step.refl _ _ _⟩
        rw [hX.snone_inv]
        simp [Builtin.clear_, ht0, run_under hd]
      · rename_i p n c hm
        rw [hm] at hX
        obtain ⟨p0, c0, e1, hp0⟩ := hX.slice_inv
        cases p0 with
        | none => simp at hp0
        | some p' =>
          split at hv
          · rename_i h0
            injection hv with hv; injection hv with q1 q2; subst q1 q2
            refine fin hu (fun _ => rfl) ⟨.tuple #[], w, ι, ?_, hnil, hR, Step.refl _ _ _⟩
            rw [e1, h0]
            simp [Builtin.clear_, ht0, run_under hd]
          · rename_i h0
            split at hv
            · cases hv
            · rename_i hsp
              obtain ⟨p2, c2, e2, hA, _⟩ := hX.ssome_inv (by simpa using hsp)
              rw [e1] at e2; injection e2 with e2 _ _; injection e2 with e2; subst e2
              simp only [Option.map_eq_some_iff] at hv
              obtain ⟨h2, hst, hv⟩ := hv
              injection hv with q1 q2; subst q1 q2
              obtain ⟨w', h3, h4, h5⟩ := run_storeN (P := P) hR hA (VL.flat hz4 n) hst
              refine fin hu (fun _ => rfl) ⟨.tuple #[], w', ι, ?_, hnil, h4, h5⟩
              have hzc : (Builtin.zeroCells zv.cells n).toList = (List.replicate n z).flatten := by rw [zeroCells_list, hz2]
              rw [e1]
              cases n with
              | zero => exact absurd rfl h0
              | succ n => simp [Builtin.clear_, ht0, run_under hd, (run_zeroV (P := P) hz1 w).1, hzc, h3]
      · cases hv
    · cases hc
  · injection hc with hc; subst hc; simp [heavyVal] at hv
  · injection hc with hc; subst hc; simp [heavyVal] at hv
  · cases hc

theorem new_obj (hR : R ι h w) {o : AObj} {o' : Obj} (ho : ∀ e, ObjRel ι ⟨w.heap.size, 0, e⟩ o o') : ∃ ι', ARel ι' ⟨h.next, 0, none⟩ ⟨w.heap.size, 0, none⟩ ∧ MRel ι' h.next w.heap.size ∧ R ι' (h.push o) (w.alloc o') ∧ Step ι h w ι' (h.push o) (w.alloc o') := by
  have := hR.push o o' none (ho none)
  exact ⟨_, ⟨rfl, ⟨w.heap.size, 0, none⟩, by simp [Inj.upd], by simp⟩, ⟨⟨w.heap.size, 0, none⟩, by simp [Inj.upd], rfl, rfl⟩, this.1, this.2⟩

end
end Go.Am
