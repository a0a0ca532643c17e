/- The abstract machine, nineteenth part: ONE OPERATION OF A REGION IS SOUND. -/
import Derived.Test.YtbnfbpiahcjhkaaGreatAm18
namespace Go.Am
open Go

section
variable {P : Program} {ι : Inj} {h : AHeap} {w : World} {env : List Value} {a : Act}

/-- What is owed where the operation has yielded, or panicked. -/
structure Owed (ι : Inj) (h : AHeap) (w : World) (a : Act) (K : Value → AHeap → Prop) (X : Value → AHeap → Prop) (Q : Exit → Act → World → Prop) (next : Value → World → Prop) : Prop where
  val : ∀ ι' v v' h' w', K v h' → V ι' v v' → R ι' h' w' → Step ι h w ι' h' w' → next v' w'
  pan : ∀ ι' v v' h' w', X v h' → V ι' v v' → R ι' h' w' → Step ι h w ι' h' w' → Q (.panic [{ v := v', recovered := false }]) a w'

theorem callFunc_bodied {f : FuncId} (hb : Bodied P f) (args : Array Value) (w : World) : (callFunc f args).run P w = .ok (.enter f args) w := by
  obtain ⟨fn, h1, h2, h3⟩ := hb
  simp only [callFunc, Sem.run_bind, run_program, Result.andThen_ok, h1, h2, h3, Bool.false_eq_true, if_false]
  rfl

/-- A call by its contract. -/
theorem callFunc_sound (hR : R ι h w) {f : FuncId} {args args' : List Value} (hA : VL ι args args') {X : Value → AHeap → Prop} {KV : Value → AHeap → Prop} (hs : SoundC P f args h (kend KV X))
    {Q : Exit → Act → World → Prop} {o : Oper} {next : Act → World → Prop}
    (ho : Owed ι h w a KV X Q (fun v w => next (a.put o.dst v) w)) {s : Sem Next} (hrun : s.run P w = (callFunc f args'.toArray).run P w) : o.upon P a next Q (s.run P w) := by
  rw [hrun]
  rcases hs with hs | hs
  · rw [callFunc_bodied hs.1]
    simp only [Oper.upon]
    refine (hs.2 ι w args' hR hA).mono fun e w' he => ?_
    obtain ⟨ι', r, h', hk, hr, hR', hS⟩ := he
    have := hk
    cases r with
    | ret v =>
      cases e <;> simp only [ERet] at hr
      exact ho.val ι' v _ h' w' this hr hR' hS
    | panic v =>
      cases e <;> simp only [ERet] at hr
      obtain ⟨v', rfl, hV⟩ := hr
      exact ho.pan ι' v v' h' w' this hV hR' hS
  · obtain ⟨v', w', ι', v, h', h1, h2, h3, h4, h5⟩ := hs ι w args' hR hA
    rw [h1]
    simp only [Oper.upon]
    exact ho.val ι' v v' h' w' h2 h3 h4 h5

theorem run_next (hR : R ι h w) {it it' : Value} (hI : V ι it it') {K : Value → AHeap → Prop} (hn : nextAll it h K) (t : TypeId) :
    ∃ v v' w' h', (Instr.next it' false t).run P w = .ok v' w' ∧ K v h' ∧ V ι v v' ∧ R ι h' w' ∧ Step ι h w ι h' w' := by
  unfold nextAll at hn
  split at hn
  · rename_i p
    obtain ⟨h0, hn⟩ := hn
    obtain ⟨p', rfl, hsp, img, hi, hp'⟩ := hI.psome_inv
    split at hn
    · rename_i since seen stepped hg
      obtain ⟨img2, o', hi2, ho, hsh, m', rfl, hm⟩ := hR.live _ _ hg
      rw [hi] at hi2; injection hi2 with hi2; subst hi2
      cases m' with
      | some _ => exact absurd hm (by simp [MoRel])
      | none =>
        refine ⟨_, .tuple #[.bool false], w, h, ?_, hn, ?_, hR, Step.refl _ _ _⟩
        · rw [hp', h0, hsh]
          simp [Instr.next, run_getObj ho]
        · exact V.tuple' (VL.toArray (VL.cons (.bool false) (VL.nil ι)))
    · rename_i m since seen stepped hg
      obtain ⟨img2, o', hi2, ho, hsh, m', rfl, hm⟩ := hR.live _ _ hg
      rw [hi] at hi2; injection hi2 with hi2; subst hi2
      cases m' with
      | none => exact absurd hm (by simp [MoRel])
      | some m' =>
        split at hn
        · rename_i es clock ro hgm
          obtain ⟨hbad, hstep, hover⟩ := hn
          obtain ⟨imgm, om, him, hbm, hsm, hom, _, es', rfl, hes⟩ := map_place hR hm hgm
          have hel := hes.toList
          have hborn : ∀ e' ∈ es', ∃ e ∈ es, e'.born = e.born ∧ V ι e.key e'.key ∧ V ι e.val e'.val := fun e' he' => by
            obtain ⟨i, hlt, e1⟩ := Array.getElem_of_mem he'
            have hlt' : i < es.length := by rw [hes.1]; exact hlt
            have := hes.2 i es[i] e' (List.getElem?_eq_getElem hlt') (by rw [Array.getElem?_eq_getElem hlt, e1])
            exact ⟨es[i], List.getElem_mem hlt', this.2.2, this.1, this.2.1⟩
          have hborn' : ∀ e ∈ es, ∃ e' ∈ es', e'.born = e.born := fun e he => by
            obtain ⟨i, hlt, e1⟩ := List.getElem_of_mem he
            have hlt' : i < es'.size := by rw [← hes.1]; exact hlt
            have := hes.2 i e es'[i] (by rw [List.getElem?_eq_getElem hlt, e1]) (Array.getElem?_eq_getElem hlt')
            exact ⟨es'[i], Array.getElem_mem hlt', this.2.2⟩
          have hbad' : (!seen.toArray.isEmpty && !es'.isEmpty && es'.all (fun e => decide (e.born ≥ stepped))) = false := by
            rw [← hbad]
            congr 1
            · congr 1
              · simp
              · congr 1
                have h1 := hes.1
                cases es with
                | nil =>
                  simp at h1
                  have : es'.isEmpty = true := by rw [Array.isEmpty_iff_size_eq_zero, ← h1]
                  rw [this]; rfl
                | cons x xs =>
                  simp only [List.length_cons] at h1
                  have : es'.isEmpty = false := by
                    cases hq : es'.isEmpty with
                    | false => rfl
                    | true => rw [Array.isEmpty_iff_size_eq_zero] at hq; omega
                  rw [this]; rfl
            · rw [Bool.eq_iff_iff]
              simp only [Array.all_eq_true', List.all_eq_true, decide_eq_true_eq]
              constructor
              · intro hall e he
                obtain ⟨e', he', hb'⟩ := hborn' e he
                rw [← hb']; exact hall e' he'
              · intro hall e' he'
                obtain ⟨e, he, hb', _⟩ := hborn e' he'
                rw [hb']; exact hall e he
          have hgi := run_getObj (P := P) ho (by simp)
          have hgm' := run_getObj (P := P) hom (by simp)
          have hp2 : p' = ⟨img.blk, 0, none⟩ := by rw [hp', h0, hsh]
          let left := es'.filter fun e => !seen.toArray.contains e.born
          let old := left.filter (·.born < since)
          let new := left.filter (·.born ≥ since)
          let cand : Array (Option MapEntry) := (if old.isEmpty then #[none] else #[]) ++ (old ++ new).map some
          have hpos : 0 < cand.size := by
            simp only [cand]
            by_cases hoe : old.isEmpty = true
            · simp [hoe]; omega
            · simp [hoe]
              have : old.size ≠ 0 := by simpa [Array.isEmpty_iff_size_eq_zero] using hoe
              omega
          have hrun : ∀ (k : Nat) (w1 : World), k < cand.size → (choose (.mapNext cand.size)).run P w = .ok k w1 → w1.heap = w.heap →
              (Instr.next (.pointer (some p')) false t).run P w = (match cand[k]? with
                | some (some e) => (do setObj img.blk (.mapIter (some m') since (seen.toArray.push e.born) clock); pure (.tuple #[.bool true, e.key, e.val]) : Sem Value).run P w1
                | some none => .ok (.tuple #[.bool false]) w1
                | none => (stuck "Next: no such candidate" : Sem Value).run P w1) := fun k w1 hk hch hh => by
            rw [hp2]
            simp only [Instr.next, Sem.run_bind, hgi, Result.andThen_ok, hgm', hbad', Bool.false_eq_true, if_false]
            show ((choose (.mapNext cand.size)).run P w).andThen _ = _
            rw [hch]
            simp only [Result.andThen_ok]
            show (match cand[k]? with | some (some e) => _ | some none => _ | none => _ : Sem Value).run P w1 = _
            cases cand[k]? with
            | none => rfl
            | some c => cases c <;> simp
          obtain ⟨k, w1, hk, hch, hh, hdr⟩ : ∃ k w1, k < cand.size ∧ (choose (.mapNext cand.size)).run P w = .ok k w1 ∧ w1.heap = w.heap ∧ ∃ nd, w1 = { w with drawn := nd } := by
            rw [run_choose]
            split
            · exact ⟨0, w, hpos, rfl, rfl, w.drawn, rfl⟩
            · exact ⟨_, _, by simp only [Question.cut]; exact Nat.mod_lt _ hpos, rfl, rfl, _, rfl⟩
          obtain ⟨nd, rfl⟩ := hdr
          rw [hrun k _ hk hch hh]
          have hR1 : R ι h { w with drawn := nd } := hR.drew nd
          have hmem : cand[k] ∈ cand := Array.getElem_mem hk
          rw [Array.getElem?_eq_getElem hk]
          have hold : ∀ e, e ∈ old ∨ e ∈ new → e ∈ es' ∧ e.born ∉ seen := fun e he => by
            have hl : e ∈ left := by
              rcases he with he | he
              · exact (Array.mem_filter.1 he).1
              · exact (Array.mem_filter.1 he).1
            have := Array.mem_filter.1 hl
            refine ⟨this.1, ?_⟩
            have h2 := this.2
            simp at h2
            exact h2
          cases hc : cand[k] with
          | some e =>
            rw [hc] at hmem
            have he : e ∈ old ∨ e ∈ new := by
              simp only [cand] at hmem
              rw [Array.mem_append] at hmem
              rcases hmem with hm | hm
              · split at hm <;> simp at hm
              · simpa using hm
            obtain ⟨he1, he2⟩ := hold e he
            obtain ⟨e0, he0, hb, hV1, hV2⟩ := hborn e he1
            have hK := hstep e0 he0 (by rw [← hb]; exact he2)
            have hw := hR1.write (o2 := .mapIter (some m) since (seen ++ [e0.born]) clock) (o2' := .mapIter (some m') since (seen.toArray.push e.born) clock) hg rfl rfl hi ⟨hsh, some m', by rw [hb]; simp, hm⟩
            refine ⟨_, .tuple #[.bool true, e.key, e.val], _, _, ?_, hK, V.tuple' (VL.toArray (VL.cons (.bool true) (VL.cons hV1 (VL.cons hV2 (VL.nil ι))))), hw.1, (Step.drew nd).trans hw.2⟩
            have ho1 : ({ w with drawn := nd } : World).heap[img.blk]? = some (.mapIter (some m') since seen.toArray stepped) := ho
            simp [run_setObj ho1]
          | none =>
            rw [hc] at hmem
            have hoe : old.isEmpty = true := by
              simp only [cand] at hmem
              rw [Array.mem_append] at hmem
              rcases hmem with hm | hm
              · split at hm
                · assumption
                · simp at hm
              · simp at hm
            refine ⟨_, .tuple #[.bool false], _, h, rfl, hover fun e he hns => ?_, V.tuple' (VL.toArray (VL.cons (.bool false) (VL.nil ι))), hR1, Step.drew nd⟩
            obtain ⟨e', he', hb⟩ := hborn' e he
            rcases Nat.lt_or_ge e.born since with hlt | hge
            · exfalso
              have : e' ∈ old := by
                refine Array.mem_filter.2 ⟨Array.mem_filter.2 ⟨he', ?_⟩, ?_⟩
                · simp; rw [hb]; exact hns
                · simp; rw [hb]; exact hlt
              have h0 : old.size = 0 := by simpa [Array.isEmpty_iff_size_eq_zero] using hoe
              have := Array.getElem_of_mem this
              obtain ⟨i, hi', _⟩ := this
              omega
            · exact hge
        · exact hn.elim
    · exact hn.elim
  · exact hn.elim


theorem VL.map_ev (hE : ERel ι env a) {args : Array Operand} {xs : List Opnd} (hx : compOs args.toList = some xs) : VL ι (xs.map (·.ev env)) (args.map a.eval).toList := by
  have := evs_rel hE hx
  simpa using this

theorem runA_sound (hR : R ι h w) (hE : ERel ι env a) {o : Oper} {ao : AOp} (hc : comp P o.op = some ao) {K : Value → AHeap → Prop} {X : Value → AHeap → Prop} (hr : runA P ao K X env h)
    {Q : Exit → Act → World → Prop} {next : Act → World → Prop} (ho : Owed ι h w a K X Q (fun v w => next (a.put o.dst v) w)) : o.wp P a w next Q := by
  unfold Oper.wp
  have light : ∀ v, ao.light = true → lightVal ao env h = some v → K v h → o.upon P a next Q ((execOp a.eval o).run P w) := fun v hl hv hk => by
    obtain ⟨v', h1, h2⟩ := light_sound hR hE hc hl hv
    rw [h1]
    simp only [Oper.upon]
    exact ho.val ι v v' h w hk h2 hR (Step.refl _ _ _)
  have heavy : ∀ v h', heavyVal ao env h = some (v, h') → K v h' → o.upon P a next Q ((execOp a.eval o).run P w) := fun v h' hv hk => by
    obtain ⟨n, w', ι', h1, h2, h3, h4⟩ := heavy_sound hR hE hc hv
    rw [h1]
    rcases h2 with ⟨rfl, rfl⟩ | ⟨v', rfl, hV⟩
    · simp only [Oper.upon]
      exact ho.val ι' undef undef h' w' hk (V.undef _) h3 h4
    · simp only [Oper.upon]
      exact ho.val ι' v v' h' w' hk hV h3 h4
  have rest : (if ao.light then (match lightVal ao env h with | some v => K v h | none => False) else match heavyVal ao env h with | some (v, h') => K v h' | none => False) → o.upon P a next Q ((execOp a.eval o).run P w) := fun hr => by
    split at hr
    · rename_i hl
      split at hr
      · exact light _ hl ‹_› hr
      · exact hr.elim
    · split at hr
      · exact heavy _ _ ‹_› hr
      · exact hr.elim
  unfold runA at hr
  split at hr
  · -- a call
    rename_i c args
    obtain ⟨dst, op, type, pos, after, guard⟩ := o
    have hop : (∃ f as ats, op = .call ⟨.value f, as, ats⟩ ∧ ∃ x, c = .val x ∧ compO f = some x ∧ compOs as.toList = some args) ∨ (∃ r n as ats, op = .call ⟨.invoke r n, as, ats⟩ ∧ ∃ x, c = .inv x n ∧ compO r = some x ∧ compOs as.toList = some args) := by
      simp only at hc
      clear hr light heavy rest ho
      cases op with
      | call cc =>
        obtain ⟨callee, as, ats⟩ := cc
        cases callee with
        | value f =>
          simp only [comp, Option.bind_eq_bind, Option.pure_def, Option.bind_eq_some_iff, Option.some.injEq, AOp.call.injEq] at hc
          obtain ⟨x, hx, ys, hys, rfl, rfl⟩ := hc
          exact .inl ⟨f, as, ats, rfl, x, rfl, hx, hys⟩
        | invoke r n =>
          simp only [comp, Option.bind_eq_bind, Option.pure_def, Option.bind_eq_some_iff, Option.some.injEq, AOp.call.injEq] at hc
          obtain ⟨x, hx, ys, hys, rfl, rfl⟩ := hc
          exact .inr ⟨r, n, as, ats, rfl, x, rfl, hx, hys⟩
        | builtin b =>
          exfalso
          simp only [comp] at hc
          revert hc
          have : OAll (fun ao => ∀ c args, ao ≠ AOp.call c args) (compBuiltin P b ats.toList as.toList) := by
            unfold compBuiltin
            simp only [Option.bind_eq_bind, Option.pure_def]
            repeat' first
              | exact oall_none
              | exact oall_some (fun _ _ h => by cases h)
              | exact oall_map (fun _ _ _ h => by cases h)
              | (refine oall_bind fun _ => ?_)
              | split
          exact fun h => this _ h _ _ rfl
      | makeMap t r => cases r <;> simp [comp] at hc
      | _ =>
        exfalso
        revert hc
        have key : ∀ {oo : Option AOp}, OAll (fun ao => ∀ c args, ao ≠ AOp.call c args) oo → oo = some (.call c args) → False := fun h e => h _ e _ _ rfl
        apply key
        simp only [comp]
        try unfold compBin
        try unfold compSlice
        try unfold compConv
        try simp only [Option.bind_eq_bind, Option.pure_def]
        repeat' first
          | exact oall_none
          | exact oall_some (fun _ _ h => by cases h)
          | exact oall_map (fun _ _ _ h => by cases h)
          | (refine oall_bind fun _ => ?_)
          | split
    rcases hop with ⟨f, as, ats, rfl, x, rfl, hx, hargs⟩ | ⟨r, n, as, ats, rfl, x, rfl, hx, hargs⟩
    · have hX := ev_rel hE hx
      have hA := VL.map_ev hE hargs
      unfold callA at hr
      simp only at hr
      split at hr
      · rename_i g first captured hf
        rw [hf] at hX
        obtain ⟨f', c', e1, _, hF, hC⟩ := hX.func_inv
        refine callFunc_sound hR ((hF.toList.append hA).append hC.toList) hr (KV := K) ho ?_
        simp only [execOp, resolve, Sem.run_bind, e1, Deferred.ofValue, Sem.run_pure, Result.andThen_ok, invoke]
        congr 2
        apply Array.ext'
        simp
      · rename_i name first captured hf
        rw [hf] at hX
        obtain ⟨f', c', e1, _, hF, hC⟩ := hX.func_inv
        obtain ⟨_, hr⟩ := hr
        split at hr
        · rename_i t v restA hl
          obtain ⟨g, hm, hs⟩ := hr
          have hall := hF.toList.append hA
          rw [hl] at hall
          obtain ⟨y, ys, e2, hy, hys⟩ := hall.cons_inv
          obtain ⟨u, rfl, hu⟩ := hy.iface_inv
          refine callFunc_sound hR (VL.cons hu hys) hs (KV := K) ho ?_
          have hargs0 : (f' ++ as.map a.eval)[0]? = some (.iface t u) := by
            rw [← Array.getElem?_toList, Array.toList_append, e2]; rfl
          have hext : (f' ++ as.map a.eval).extract 1 (f' ++ as.map a.eval).size = ys.toArray := by
            apply Array.ext'
            rw [Array.toList_extract, Array.toList_append, e2]
            have hsz : (f' ++ as.map a.eval).size = ys.length + 1 := by
              rw [← Array.length_toList, Array.toList_append, e2]; simp
            simp [hsz]
          simp only [execOp, resolve, Sem.run_bind, e1, Deferred.ofValue, Sem.run_pure, Result.andThen_ok, invoke, hargs0, hext, callMethod, run_program, hm u w]
          congr 2
          apply Array.ext'
          simp
        · exact hr.elim
      · exact hr.elim
    · have hX := ev_rel hE hx
      have hA := VL.map_ev hE hargs
      unfold callA at hr
      simp only at hr
      split at hr
      · rename_i t v hf
        rw [hf] at hX
        obtain ⟨u, e1, hu⟩ := hX.iface_inv
        obtain ⟨g, hm, hs⟩ := hr
        refine callFunc_sound hR (VL.cons hu hA) hs (KV := K) ho ?_
        have hargs0 : (#[Value.iface t u] ++ as.map a.eval)[0]? = some (.iface t u) := by rw [← Array.getElem?_toList, Array.toList_append]; rfl
        have hext : (#[Value.iface t u] ++ as.map a.eval).extract 1 (#[Value.iface t u] ++ as.map a.eval).size = as.map a.eval := by
          apply Array.ext'
          rw [Array.toList_extract]
          simp [List.take_of_length_le]
        simp only [execOp, resolve, Sem.run_bind, e1, Sem.run_pure, Result.andThen_ok, invoke, hargs0, hext, callMethod, run_program, hm u w]
        congr 2
        apply Array.ext'
        simp
      · exact hr.elim
  · -- next
    rename_i it
    obtain ⟨dst, op, type, pos, after, guard⟩ := o
    have hop : ∃ x, op = .next x false ∧ compO x = some it := by
      simp only at hc
      clear hr light heavy rest ho
      cases op with
      | next x isS =>
        simp only [comp] at hc
        split at hc
        · cases hc
        · rename_i hs
          simp only [Option.map_eq_some_iff, AOp.next.injEq] at hc
          obtain ⟨y, hy, rfl⟩ := hc
          exact ⟨x, by simp [hs], hy⟩
      | makeMap t r => cases r <;> simp [comp] at hc
      | call cc =>
        exfalso
        obtain ⟨callee, as, ats⟩ := cc
        cases callee with
        | value f => simp only [comp, Option.bind_eq_bind, Option.pure_def, Option.bind_eq_some_iff, Option.some.injEq] at hc; obtain ⟨_, _, _, _, hc⟩ := hc; cases hc
        | invoke r n => simp only [comp, Option.bind_eq_bind, Option.pure_def, Option.bind_eq_some_iff, Option.some.injEq] at hc; obtain ⟨_, _, _, _, hc⟩ := hc; cases hc
        | builtin b =>
          simp only [comp] at hc
          revert hc
          have : OAll (fun ao => ∀ it, ao ≠ AOp.next it) (compBuiltin P b ats.toList as.toList) := by
            unfold compBuiltin
            simp only [Option.bind_eq_bind]
            repeat' first
              | exact oall_none
              | exact oall_some (fun _ h => by cases h)
              | exact oall_map (fun _ _ h => by cases h)
              | (refine oall_bind fun _ => ?_)
              | split
          exact fun h => this _ h _ rfl
      | _ =>
        exfalso
        revert hc
        have key : ∀ {oo : Option AOp}, OAll (fun ao => ∀ it, ao ≠ AOp.next it) oo → oo = some (.next it) → False := fun h e => h _ e _ rfl
        apply key
        simp only [comp]
        try unfold compBin
        try unfold compSlice
        try unfold compConv
        try simp only [Option.bind_eq_bind, Option.pure_def]
        repeat' first
          | exact oall_none
          | exact oall_some (fun _ h => by cases h)
          | exact oall_map (fun _ _ h => by cases h)
          | (refine oall_bind fun _ => ?_)
          | split
    obtain ⟨x, rfl, hx⟩ := hop
    obtain ⟨v, v', w', h', h1, h2, h3, h4, h5⟩ := run_next (P := P) hR (ev_rel hE hx) hr type
    simp only [execOp]
    rw [run_value h1]
    simp only [Oper.upon]
    exact ho.val ι v v' h' w' h2 h3 h4 h5
  · -- panic
    rename_i x
    obtain ⟨dst, op, type, pos, after, guard⟩ := o
    have hop : ∃ y, op = .panic y ∧ compO y = some x := by
      simp only at hc
      clear hr light heavy rest ho
      cases op with
      | panic y =>
        simp only [comp, Option.map_eq_some_iff, AOp.panic.injEq] at hc
        obtain ⟨y', hy, rfl⟩ := hc
        exact ⟨y, rfl, hy⟩
      | makeMap t r => cases r <;> simp [comp] at hc
      | call cc =>
        exfalso
        obtain ⟨callee, as, ats⟩ := cc
        cases callee with
        | value f => simp only [comp, Option.bind_eq_bind, Option.pure_def, Option.bind_eq_some_iff, Option.some.injEq] at hc; obtain ⟨_, _, _, _, hc⟩ := hc; cases hc
        | invoke r n => simp only [comp, Option.bind_eq_bind, Option.pure_def, Option.bind_eq_some_iff, Option.some.injEq] at hc; obtain ⟨_, _, _, _, hc⟩ := hc; cases hc
        | builtin b =>
          simp only [comp] at hc
          revert hc
          have : OAll (fun ao => ∀ it, ao ≠ AOp.panic it) (compBuiltin P b ats.toList as.toList) := by
            unfold compBuiltin
            simp only [Option.bind_eq_bind]
            repeat' first
              | exact oall_none
              | exact oall_some (fun _ h => by cases h)
              | exact oall_map (fun _ _ h => by cases h)
              | (refine oall_bind fun _ => ?_)
              | split
          exact fun h => this _ h _ rfl
      | _ =>
        exfalso
        revert hc
        have key : ∀ {oo : Option AOp}, OAll (fun ao => ∀ it, ao ≠ AOp.panic it) oo → oo = some (.panic x) → False := fun h e => h _ e _ rfl
        apply key
        simp only [comp]
        try unfold compBin
        try unfold compSlice
        try unfold compConv
        try simp only [Option.bind_eq_bind, Option.pure_def]
        repeat' first
          | exact oall_none
          | exact oall_some (fun _ h => by cases h)
          | exact oall_map (fun _ _ h => by cases h)
          | (refine oall_bind fun _ => ?_)
          | split
    obtain ⟨y, rfl, hy⟩ := hop
    have hX := ev_rel hE hy
    split at hr
    · rename_i t v hv
      rw [hv] at hX
      obtain ⟨u, e1, hu⟩ := hX.iface_inv
      simp only [execOp, e1]
      have : (do pure (Next.value (← Instr.panic (.iface t u))) : Sem Next).run P w = .halt (.panic (.iface t u)) w := by
        simp [Instr.panic]
      rw [this]
      simp only [Oper.upon]
      exact ho.pan ι (.iface t v) (.iface t u) h w hr (.iface t hu) hR (Step.refl _ _ _)
    · exact hr.elim
  · exact rest hr

/-- **ONE OPERATION OF A REGION.** -/
theorem wopA_sound {ops : Array Oper} {i : Nat} {o : Oper} (hi : ops[i]? = some o) {ao : AOper} (hc : compOper P ops o = some ao) {K : List Value → AHeap → Prop} {X : Value → AHeap → Prop} (hw : wopA P ao K X env h)
    (hR : R ι h w) (hE : ERel ι env a) (hd : a.defers = []) {Q : Exit → Act → World → Prop} {KK : Act → World → Prop}
    (hK : ∀ ι' env' h' a' w', K env' h' → R ι' h' w' → ERel ι' env' a' → a'.defers = [] → Step ι h w ι' h' w' → KK a' w')
    (hX : ∀ ι' v v' h' w', X v h' → V ι' v v' → R ι' h' w' → Step ι h w ι' h' w' → Q (.panic [{ v := v', recovered := false }]) a w') : wpOp P ops Q i KK a w := by
  obtain ⟨hdst, hcomp⟩ := comp_dst hc
  unfold wpOp
  simp only [hi]
  unfold wopA at hw
  split at hw
  · exact hw.elim
  · rename_i hg
    rw [guard_rel hE hc hg]
    simp only [Bool.false_eq_true, if_false]
    exact hK ι _ h _ w hw hR (by rw [hdst]; exact hE.put (V.undef ι)) (by rw [put_defers]; exact hd) (Step.refl _ _ _)
  · rename_i hg
    rw [guard_rel hE hc hg]
    simp only [if_true]
    left
    refine runA_sound hR hE hcomp hw ⟨fun ι' v v' h' w' hk hV hR' hS => ?_, hX⟩
    exact hK ι' _ h' _ w' hk hR' (by rw [hdst]; exact (hE.mono hS.le).put hV) (by rw [put_defers]; exact hd) hS

end
end Go.Am
