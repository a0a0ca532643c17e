/- The abstract machine, fourteenth part: append. -/
import Derived.Test.YtbnfbpiahcjhkaaGreatAm13
namespace Go.Am
open Go

section
variable {P : Program} {ι : Inj} {h : AHeap} {w : World} {env : List Value} {a : Act}

theorem lenOfA_run {x x' : Value} (hx : V ι x x') {n : Nat} (hn : lenOfA x = some n) (w : World) : (Builtin.lenOf x').run P w = .ok n w := by
  cases x <;> simp [lenOfA] at hn
  · subst hn; rw [hx.string_inv]; rfl
  · subst hn; obtain ⟨a', c', e1, _⟩ := hx.slice_inv; rw [e1]; rfl

theorem elems_run (hR : R ι h w) {x x' : Value} (hx : V ι x x') {size n : Nat} {cs : List Value} (he : h.elems size n x = some cs) :
    ∃ cs' : List Value, VL ι cs cs' ∧ ∀ nd, (Builtin.firstCells size n x').run P { w with drawn := nd } = .ok cs'.toArray { w with drawn := nd } := by
  cases x with
  | string s =>
    simp only [AHeap.elems, Option.some.injEq] at he
    refine ⟨cs, ?_, fun nd => ?_⟩
    · subst he
      refine ⟨rfl, fun i u v hu hv => ?_⟩
      rw [hu] at hv; injection hv with hv; subst hv
      simp only [List.getElem?_map, Option.map_eq_some_iff] at hu
      obtain ⟨b, _, rfl⟩ := hu
      exact .int _ _
    · rw [hx.string_inv, ← he]
      simp only [Builtin.firstCells, Sem.run_pure]
      congr 1
      apply Array.ext'
      simp [ByteArray.data_extract]
  | slice ad l c =>
    cases ad with
    | none =>
      simp only [AHeap.elems, Option.some.injEq] at he; subst he
      exact ⟨[], VL.nil ι, fun nd => by rw [hx.snone_inv]; rfl⟩
    | some p =>
      simp only [AHeap.elems] at he
      split at he
      · rename_i h0
        injection he with he; subst he
        obtain ⟨a', c', e1, hs⟩ := hx.slice_inv
        cases a' with
        | none => simp at hs
        | some p' => exact ⟨[], VL.nil ι, fun nd => by rw [e1]; simp [Builtin.firstCells, h0, loadCells, loadCellsFrom]⟩
      · split at he
        · cases he
        · rename_i hsp
          obtain ⟨p', c', e1, hA, _⟩ := hx.ssome_inv (by simpa using hsp)
          obtain ⟨hlen, cs', h1, h2⟩ := hR.loadN hA he
          exact ⟨cs', h1, fun nd => by rw [e1]; simp only [Builtin.firstCells]; exact run_loadCells_of p' cs' _ (by rw [← h1.1]; exact hlen) (fun j u hu => h2 j u hu)⟩
  | _ => simp [AHeap.elems] at he

theorem growBy_le (newLen : Nat) : ∀ (r c : Nat), 256 ≤ c → c ≤ 2 * newLen → Builtin.growBy newLen r c ≤ 2 * newLen
  | 0, c, _, h => by simpa [Builtin.growBy] using h
  | r + 1, c, h0, h => by
    simp only [Builtin.growBy]
    split
    · exact h
    · exact growBy_le newLen r _ (by omega) (by omega)

theorem nextslicecap_le {newLen oldCap : Nat} (h : oldCap < newLen) : Builtin.nextslicecap newLen oldCap ≤ 2 * newLen := by
  unfold Builtin.nextslicecap
  split
  · omega
  · split
    · omega
    · exact growBy_le newLen 4 oldCap (by omega) (by omega)

theorem zeroCells_length (z : Array Value) (n : Nat) : (Builtin.zeroCells z n).size = n * z.size := by simp [Builtin.zeroCells]

/-- What an append's two ways come to, its operands read. -/
theorem appendWith_run (hR : R ι h w) {e : TypeId} {i : TypeInfo} (hi : P.info? e = some i) {z : List Value} (hz : zeroCs P e = some z) {s s' : Value} (hs : V ι s s') {n : Nat} {new new' : List Value} (hnew : VL ι new new')
    {v : Value} {h' : AHeap} (hv : appendWith h i.size i.bytes s n new = some (v, h')) (zeros : Bool) (xx : Value) {appended : Sem (Array Value)} (happ : ∀ nd, appended.run P { w with drawn := nd } = .ok new'.toArray { w with drawn := nd }) :
    ∃ base len cap', s' = .slice base len cap' ∧ ∃ v' w' ι', (do
        let need := len + n
        if need ≤ cap' then
          let new ← appended
          if let some a := base then storeCells (a.add (len * i.size)) new.toList
          pure (.slice base need cap')
        else
          if (need : Int) > IntKind.i64.max ∧ (zeros = true ∨ (← typeInfo e).bytes = 0) then runtimePanic (.error "growslice: len out of range")
          if Builtin.nextslicecap need cap' * (← typeInfo e).bytes > 2 ^ 48 then (if zeros then runtimePanic (.error "growslice: len out of range") else do
            if !(← Builtin.mayShare i.size len n base xx) then mark .noRoom
            unsupported (.resourceLimit "append: a slice or a string whose bytes no memory bears"))
          let newCap ← choose (.appendCap need cap' e)
          askRoom (newCap * (← typeInfo e).bytes)
          let old ← Builtin.firstCells i.size len s'
          let new ← appended
          let rest := Builtin.zeroCells (← zeroValue e).cells (newCap - need)
          pure (.slice (some (← newRow e (old ++ new ++ rest))) need newCap) : Sem Value).run P w = .ok v' w' ∧ V ι' v v' ∧ R ι' h' w' ∧ Step ι h w ι' h' w' := by
  cases s with
  | slice base len cap =>
    obtain ⟨base', cap', hs', hbs⟩ := hs.slice_inv
    refine ⟨base', len, cap', hs', ?_⟩
    subst hs'
    simp only [appendWith] at hv
    split at hv
    · cases hv
    · rename_i hg
      simp only [not_or, ne_eq, Decidable.not_not] at hg
      obtain ⟨hnl, hs0, hb0⟩ := hg
      have happ0 : appended.run P w = .ok new'.toArray w := happ w.drawn
      have hti : ∀ w, (typeInfo e).run P w = .ok i w := fun w => by simp [typeInfo, hi]
      obtain ⟨zv, hz1, hz2, hz3, _, _⟩ := zeroCs_rel ι hz
      have hzs : zv.cells.size = i.size := by
        have : sizeA P e = some i.size := by simp [sizeA, hi]
        rw [this] at hz3; injection hz3 with hz3; rw [hz3, ← hz2]; simp
      have hzr := fun w => (run_zeroV (P := P) hz1 w).1
      split at hv
      · -- in place
        rename_i hle
        cases base with
        | none =>
          cases base' with
          | some _ => simp at hbs
          | none =>
            have := hs.snone_inv
            injection this with _ _ hcc
            simp only at hv
            split at hv
            · rename_i hn0
              injection hv with hv; injection hv with e1 e2; subst e1 e2
              refine ⟨.slice none (len + n) cap', w, ι, ?_, by rw [hcc]; exact .snone _ _, hR, Step.refl _ _ _⟩
              simp [hcc, hle, happ0]
            · cases hv
        | some p =>
          cases base' with
          | none => simp at hbs
          | some p' =>
            simp only at hv
            split at hv
            · rename_i hsp
              split at hv
              · rename_i hn0
                injection hv with hv; injection hv with e1 e2; subst e1 e2
                obtain ⟨_, _, e3, rfl, rfl⟩ := hs.semp_inv hsp
                subst hn0
                have hnn : new' = [] := by have := hnew.1; simp at hnl; rw [hnl] at this; simpa using this.symm
                refine ⟨.slice (some p') (0 + 0) cap', w, ι, ?_, hs, hR, Step.refl _ _ _⟩
                simp [happ0, hnn, storeCells]
              · cases hv
            · rename_i hsp
              obtain ⟨p2, c2, e2, hA, hC⟩ := hs.ssome_inv (by simpa using hsp)
              injection e2 with e2 _ e3; injection e2 with e2; subst e2 e3
              have hcc : cap ≤ cap' := by
                rcases hC with hC | ⟨_, _, _, _, _, _, _, _, _, h6⟩
                · omega
                · exact h6
              simp only [Option.map_eq_some_iff] at hv
              obtain ⟨h2, hst, hv⟩ := hv
              injection hv with e1 e2; subst e1 e2
              obtain ⟨w', h3, h4, h5⟩ := run_storeN (P := P) hR (hA.add (len * i.size)) hnew hst
              refine ⟨.slice (some p') (len + n) cap', w', ι, ?_, .ssome _ hA hC, h4, h5⟩
              have : len + n ≤ cap' := by omega
              simp [this, happ0, h3]
      · rename_i hgt
        split at hv
        · cases hv
        · rename_i hbound
          simp only [not_or, Nat.not_lt, gt_iff_lt] at hbound
          obtain ⟨hby, hone⟩ := hbound
          -- growing
          have grow : ∀ {old old' : List Value} {h0 : AHeap}, VL ι old old' → old.length = len * i.size → (∀ nd, (Builtin.firstCells i.size len (.slice base' len cap')).run P { w with drawn := nd } = .ok old'.toArray { w with drawn := nd }) → cap' < len + n →
              R ι h0 w → Step ι h w ι h0 w → h0.next = h.next →
              ∃ v' w' ι', (do
                let need := len + n
                if need ≤ cap' then
                  let new ← appended
                  if let some a := base' then storeCells (a.add (len * i.size)) new.toList
                  pure (.slice base' need cap')
                else
                  if (need : Int) > IntKind.i64.max ∧ (zeros = true ∨ (← typeInfo e).bytes = 0) then runtimePanic (.error "growslice: len out of range")
                  if Builtin.nextslicecap need cap' * (← typeInfo e).bytes > 2 ^ 48 then (if zeros then runtimePanic (.error "growslice: len out of range") else do
                    if !(← Builtin.mayShare i.size len n base' xx) then mark .noRoom
                    unsupported (.resourceLimit "append: a slice or a string whose bytes no memory bears"))
                  let newCap ← choose (.appendCap need cap' e)
                  askRoom (newCap * (← typeInfo e).bytes)
                  let old ← Builtin.firstCells i.size len (.slice base' len cap')
                  let new ← appended
                  let rest := Builtin.zeroCells (← zeroValue e).cells (newCap - need)
                  pure (.slice (some (← newRow e (old ++ new ++ rest))) need newCap) : Sem Value).run P w = .ok v' w' ∧
                V ι' (.slice (some ⟨h.next, 0, none⟩) (len + n) (len + n)) v' ∧ R ι' (h0.push (.cells (old ++ new) (.grown i.size))) w' ∧ Step ι h w ι' (h0.push (.cells (old ++ new) (.grown i.size))) w' := fun {old old' h0} hold hol hfc hlt hR0 hS0 hnx => by
            have hneed : len + n ≤ mostBytes := by
              have : 1 ≤ i.bytes := by omega
              calc len + n = (len + n) * 1 := by omega
                _ ≤ (len + n) * i.bytes := Nat.mul_le_mul_left _ this
                _ ≤ mostBytes := hby
            have hnc : Builtin.nextslicecap (len + n) cap' * i.bytes ≤ 2 ^ 48 := by
              have h1 := nextslicecap_le hlt
              calc Builtin.nextslicecap (len + n) cap' * i.bytes ≤ (2 * (len + n)) * i.bytes := Nat.mul_le_mul_right _ h1
                _ = 2 * ((len + n) * i.bytes) := by rw [Nat.mul_assoc]
                _ ≤ 2 * mostBytes := Nat.mul_le_mul_left _ hby
                _ ≤ 2 ^ 48 := by decide
            have himax : ¬ ((len + n : Nat) : Int) > IntKind.i64.max := by
              have : (mostBytes : Int) ≤ IntKind.i64.max := by decide
              omega
            let newCap := (Question.appendCap (len + n) cap' e).cut (w.tape w.drawn (.appendCap (len + n) cap' e))
            have hge : len + n ≤ newCap := by simp only [newCap, Question.cut]; omega
            have hob := hR0.push (.cells (old ++ new) (.grown i.size)) (.cells (old'.toArray ++ new'.toArray ++ Builtin.zeroCells zv.cells (newCap - (len + n))) e (0, 0)) (some (i.size, (old ++ new).length, newCap * i.size))
              ⟨_, e, (0, 0), rfl, by simp [hold.1, hnew.1]; try omega, fun j u hu => by
                obtain ⟨y, hy, hV⟩ := (hold.append hnew).get hu
                refine ⟨y, ?_, hV⟩
                have hlt2 : j < (old' ++ new').length := (List.getElem?_eq_some_iff.1 hy).1
                simp only [Nat.add_zero]
                rw [Array.getElem?_append_left (by simpa using hlt2)]
                simpa using hy, by
                  refine ⟨fun k _ => by simp, by omega, ?_⟩
                  have hsz : (old'.toArray ++ new'.toArray ++ Builtin.zeroCells zv.cells (newCap - (len + n))).size = newCap * i.size := by
                    simp only [Array.size_append, List.size_toArray, zeroCells_length, hzs, ← hold.1, ← hnew.1, hol, hnl]
                    rw [← Nat.add_mul, ← Nat.add_mul]; congr 1; omega
                  rw [hsz]⟩
            obtain ⟨hR1, hS1⟩ := hob
            refine ⟨.slice (some ⟨w.heap.size, 0, none⟩) (len + n) newCap, { (w.alloc (.cells (old'.toArray ++ new'.toArray ++ Builtin.zeroCells zv.cells (newCap - (len + n))) e (0, 0))) with drawn := w.drawn + 1 }, _, ?_, ?_, hR1.drew _, (hS0.trans hS1).trans (Step.drew _)⟩
            · have hnle : ¬ len + n ≤ cap' := by omega
              have hforced : (Question.appendCap (len + n) cap' e).forced = false := rfl
              simp only [hnle, if_false, Sem.run_bind, hti, Result.andThen_ok, himax, false_and, hnc, Nat.not_lt.2 hnc, gt_iff_lt, Sem.run_pure, run_choose, hforced, Bool.false_eq_true, run_askRoom, hfc, happ, hzr, run_newRow]
              rfl
            · refine .ssome _ ⟨rfl, ⟨w.heap.size, 0, some (i.size, (old ++ new).length, newCap * i.size)⟩, by simp [Inj.upd, hnx], by simp⟩ (.inr ⟨⟨w.heap.size, 0, some (i.size, (old ++ new).length, newCap * i.size)⟩, i.size, _, _, by simp [Inj.upd, hnx], rfl, by omega, ?_, by simp, hge⟩)
              simp only [List.length_append, hol, hnl, Nat.zero_add]
              rw [Nat.add_mul]
          cases base with
          | none =>
            cases base' with
            | some _ => simp at hbs
            | none =>
              have := hs.snone_inv
              injection this with _ _ hcc
              simp only at hv
              split at hv
              · rename_i hl0
                injection hv with hv; injection hv with e1 e2; subst e1 e2
                subst hl0
                have := grow (old := []) (old' := []) (h0 := h) (VL.nil ι) (by simp) (fun nd => by simp [Builtin.firstCells]) (by omega) hR (Step.refl _ _ _) rfl
                simpa using this
              · cases hv
          | some p =>
            cases base' with
            | none => simp at hbs
            | some p' =>
              simp only at hv
              split at hv
              · cases hv
              · rename_i hsp
                obtain ⟨p2, c2, e2, hA, hC⟩ := hs.ssome_inv (by simpa using hsp)
                injection e2 with e2 _ e3; injection e2 with e2; subst e2 e3
                split at hv
                · cases hv
                · rename_i old hold
                  obtain ⟨hlen, old', ho1, ho2⟩ := hR.loadN hA hold
                  have hfc : ∀ nd, (Builtin.firstCells i.size len (.slice (some p') len cap')).run P { w with drawn := nd } = .ok old'.toArray { w with drawn := nd } := fun nd => by
                    simp only [Builtin.firstCells]
                    exact run_loadCells_of p' old' _ (by rw [← ho1.1]; exact hlen) (fun j u hu => ho2 j u hu)
                  have hroom := hR.room hA hC _ rfl
                  split at hv
                  · rename_i hr
                    rw [hr] at hroom
                    simp only at hroom
                    injection hv with hv; injection hv with e1 e2; subst e1 e2
                    exact grow (h0 := h) ho1 hlen hfc (by omega) hR (Step.refl _ _ _) rfl
                  · rename_i st hr
                    rw [hr] at hroom
                    split at hv
                    · rename_i hst
                      subst hst
                      injection hv with hv; injection hv with e1 e2; subst e1 e2
                      obtain ⟨hle, img, N, hi1, hi2, _, hN⟩ := hroom
                      by_cases hfit : len + n ≤ cap'
                      · -- the world has room: the same block goes on
                        have hN' : p'.off + cap' * i.size = N := hN.resolve_left (by omega)
                        obtain ⟨hlive, hget⟩ : ∃ c, h.get p.block = some (.cells c (.grown i.size)) ∧ p.off + cap * i.size = c.length := by
                          unfold AHeap.room at hr
                          split at hr
                          · rename_i c s hg
                            split at hr
                            · injection hr with hr; subst hr; exact ⟨c, hg, ‹_›⟩
                            · cases hr
                          · cases hr
                          · cases hr
                        obtain ⟨hget, hend⟩ := hget
                        obtain ⟨img2, c', e', fz, hi3, hp', hob, hsz, hcells, hk⟩ := hR.cellsAt hA hget
                        rw [hi1] at hi3; injection hi3 with hi3; subst hi3
                        obtain ⟨hfz, _, hext⟩ := hk
                        rw [hi2] at hext; injection hext with hext; injection hext with _ hext; injection hext with _ hNc
                        have hpo : p'.off = p.off + img.shift := by rw [hp']
                        have hlenl : (len + n) * i.size ≤ cap' * i.size := Nat.mul_le_mul_right _ hfit
                        have hln : (len + n) * i.size = len * i.size + n * i.size := Nat.add_mul _ _ _
                        have hadd : (p'.add (len * i.size)) = ⟨img.blk, p'.off + len * i.size, none⟩ := by rw [hp', add_eq rfl]
                        have h1 : ∀ v ∈ new', v.oneCell' = true := fun v hv => by
                          obtain ⟨k, hk', e1⟩ := List.getElem_of_mem hv
                          have hk2 : k < new.length := by rw [hnew.1]; exact hk'
                          have := hnew.2 k new[k] v (List.getElem?_eq_getElem hk2) (by rw [List.getElem?_eq_getElem hk', e1])
                          exact this.oneCell (by simp at hone; exact hone _ (List.getElem_mem hk2))
                        have hrun := run_storeCells_put (P := P) img.blk (p'.off + len * i.size) e' fz new' 0 c' w hob hfz (by rw [← hnew.1, hnl]; omega) h1
                        simp only [Nat.add_zero] at hrun
                        have hre := hR.reuse (o2 := .cells (old ++ new) (.grown i.size)) hget rfl rfl hi1 p'.off (some (i.size, (old ++ new).length, N))
                          (o2' := .cells (c'.toList.take (p'.off + len * i.size) ++ new' ++ c'.toList.drop (p'.off + len * i.size + new'.length)).toArray e' fz)
                          ⟨_, e', fz, rfl, by simp [← hnew.1, hlen, hnl]; omega, fun j u hu => by
                            have htl : (c'.toList.take (p'.off + len * i.size)).length = p'.off + len * i.size := by simp; omega
                            by_cases hj : j < old.length
                            · rw [List.getElem?_append_left hj] at hu
                              unfold AHeap.loadN at hold
                              rw [hget] at hold
                              simp only at hold
                              split at hold
                              · injection hold with hold
                                rw [← hold, List.getElem?_take] at hu
                                split at hu
                                · rw [List.getElem?_drop] at hu
                                  obtain ⟨u', hu', hV⟩ := hcells _ _ hu
                                  refine ⟨u', ?_, hV⟩
                                  simp only [List.getElem?_toArray, List.append_assoc]
                                  rw [List.getElem?_append_left (by rw [htl]; omega), List.getElem?_take, if_pos (by omega)]
                                  have : p.off + j + img.shift = j + p'.off := by omega
                                  rw [this] at hu'
                                  simpa using hu'
                                · cases hu
                              · cases hold
                            · rw [List.getElem?_append_right (by omega)] at hu
                              obtain ⟨y, hy, hV⟩ := hnew.get hu
                              refine ⟨y, ?_, hV⟩
                              simp only [List.getElem?_toArray, List.append_assoc]
                              have hyl : j - old.length < new'.length := (List.getElem?_eq_some_iff.1 hy).1
                              rw [List.getElem?_append_right (by rw [htl]; omega), htl, List.getElem?_append_left (by omega), ← hy]
                              congr 1; omega, by
                              refine ⟨?_, by omega, ?_⟩
                              · have : (c'.toList.take (p'.off + len * i.size) ++ new' ++ c'.toList.drop (p'.off + len * i.size + new'.length)).toArray.size = c'.size := by simp [← hnew.1, hnl]; omega
                                rw [this]; exact hfz
                              · have : (c'.toList.take (p'.off + len * i.size) ++ new' ++ c'.toList.drop (p'.off + len * i.size + new'.length)).toArray.size = c'.size := by simp [← hnew.1, hnl]; omega
                                rw [this, hNc]⟩
                        refine ⟨.slice (some p') (len + n) cap', _, _, ?_, ?_, hre.1, hre.2⟩
                        · simp only [hfit, if_true, Sem.run_bind, happ0, Result.andThen_ok, hadd]
                          have : (storeCells ⟨img.blk, p'.off + len * i.size, none⟩ new'.toArray.toList).run P w = _ := hrun
                          rw [this]
                          simp [World.put]
                        · refine .ssome _ ⟨rfl, ⟨img.blk, p'.off, some (i.size, (old ++ new).length, N)⟩, by simp [Inj.upd], by simp [hp']⟩ (.inr ⟨⟨img.blk, p'.off, some (i.size, (old ++ new).length, N)⟩, i.size, _, _, by simp [Inj.upd], rfl, by omega, ?_, hN', hfit⟩)
                          simp only [List.length_append, hlen, hnl, Nat.zero_add, hln]
                      · obtain ⟨hRk, hSk⟩ := hR.kill p.block
                        exact grow (h0 := h.kill p.block) ho1 hlen hfc (by omega) hRk hSk rfl
                    · cases hv
                  · cases hv
  | _ => simp [appendWith] at hv

end
end Go.Am
