/- The abstract machine, thirteenth part: cells are stored; new blocks. -/
import Derived.Test.YtbnfbpiahcjhkaaGreatAm12
namespace Go.Am
open Go

section
variable {P : Program} {ι : Inj} {h : AHeap} {w : World} {env : List Value} {a : Act}

def World.put (w : World) (b : Nat) (o : Obj) : World := { w with heap := w.heap.setIfInBounds b o }

theorem setCell_put {b off : Nat} {c : Array Value} {e : TypeId} {fz : Nat × Nat} (hb : w.heap[b]? = some (.cells c e fz)) (v : Value) :
    w.setCell ⟨b, off, none⟩ v = World.put w b (.cells (c.setIfInBounds off v) e fz) := by
  have hlt : b < w.heap.size := (Array.getElem?_eq_some_iff.1 hb).1
  unfold World.setCell World.put
  congr 1
  apply Array.ext_getElem?
  intro i
  rw [Array.getElem?_modify]
  by_cases hi : b = i
  · subst hi
    simp only [if_true, hb, Option.map_some, Array.getElem?_setIfInBounds_self_of_lt hlt]
    rfl
  · simp [hi, Array.getElem?_setIfInBounds_ne hi]

theorem put_put (w : World) (b : Nat) (o o2 : Obj) : World.put (World.put w b o) b o2 = World.put w b o2 := by
  unfold World.put
  congr 1
  apply Array.ext_getElem?
  intro i
  by_cases hi : b = i
  · subst hi
    by_cases hlt : b < w.heap.size
    · simp [hlt]
    · simp [hlt]
  · simp [Array.getElem?_setIfInBounds_ne hi]

theorem put_get {b : Nat} {o o2 : Obj} (hb : w.heap[b]? = some o) : (World.put w b o2).heap[b]? = some o2 := by
  have hlt : b < w.heap.size := (Array.getElem?_eq_some_iff.1 hb).1
  simp [World.put, hlt]

theorem run_store_put {b off : Nat} {c : Array Value} {e : TypeId} {fz : Nat × Nat} (hb : w.heap[b]? = some (.cells c e fz)) (hz : noFz fz c.size) (ho : off < c.size) {v : Value} (hv : v.oneCell' = true) :
    (store ⟨b, off, none⟩ v).run P w = .ok () (World.put w b (.cells (c.setIfInBounds off v) e fz)) := by
  rw [run_store P w _ v .plain hv]
  have h1 : w.cell? ⟨b, off, none⟩ = some c[off] := by simp [World.cell?, hb, ho]
  have h2 : w.frozen? ⟨b, off, none⟩ = false := by
    have := hz off ho
    simp only [World.frozen?, hb]
    obtain ⟨lo, hi⟩ := fz
    exact this
  rw [h1]
  simp only [h2, Bool.false_eq_true, if_false]
  rw [setCell_put hb]

theorem run_storeCells_put (b o : Nat) (e : TypeId) (fz : Nat × Nat) : ∀ (vs : List Value) (i : Nat) (c : Array Value) (w : World), w.heap[b]? = some (.cells c e fz) → noFz fz c.size → o + i + vs.length ≤ c.size →
    (∀ v ∈ vs, v.oneCell' = true) → (storeCells ⟨b, o, none⟩ vs i).run P w = .ok () (World.put w b (.cells (c.toList.take (o + i) ++ vs ++ c.toList.drop (o + i + vs.length)).toArray e fz))
  | [], i, c, w, hb, _, _, _ => by
    have hlt : b < w.heap.size := (Array.getElem?_eq_some_iff.1 hb).1
    simp only [storeCells, Sem.run_pure, List.append_nil, List.length_nil, Nat.add_zero, List.take_append_drop, Array.toArray_toList]
    congr 1
    unfold World.put
    have : w.heap.setIfInBounds b (.cells c e fz) = w.heap := by
      apply Array.ext_getElem?
      intro j
      by_cases hj : b = j
      · subst hj; rw [Array.getElem?_setIfInBounds_self_of_lt hlt, hb]
      · simp [Array.getElem?_setIfInBounds_ne hj]
    rw [this]
  | v :: vs, i, c, w, hb, hz, hle, h1 => by
    simp only [List.length_cons] at hle
    have hadd : (⟨b, o, none⟩ : Addr).add i = ⟨b, o + i, none⟩ := add_eq rfl i
    have hlt1 : o + i < c.size := by omega
    have hst := run_store_put (P := P) hb hz hlt1 (h1 v (by simp))
    simp only [storeCells, Sem.run_bind, hadd, hst, Result.andThen_ok]
    rw [run_storeCells_put b o e fz vs (i + 1) _ _ (put_get hb) (by simpa using hz) (by simp; omega) (fun u hu => h1 u (by simp [hu])), put_put]
    congr 3
    have e1 : (c.toList.set (o + i) v).take (o + (i + 1)) = c.toList.take (o + i) ++ [v] := by
      rw [← Nat.add_assoc, List.take_succ_eq_append_getElem (by simp; omega), List.take_set_of_le (by omega)]
      simp
    have e2 : (c.toList.set (o + i) v).drop (o + (i + 1) + vs.length) = c.toList.drop (o + i + (v :: vs).length) := by
      rw [List.drop_set_of_lt (by omega)]; congr 1; simp; omega
    apply Array.ext'
    simp only [Array.toList_setIfInBounds, e1, e2]
    simp

/-- Storing cells into a row that may be written. -/
theorem run_storeN (hR : R ι h w) {p p' : Addr} (hA : ARel ι p p') {vs vs' : List Value} (hvs : VL ι vs vs') {h' : AHeap} (hs : h.storeN p vs = some h') :
    ∃ w', (storeCells p' vs').run P w = .ok () w' ∧ R ι h' w' ∧ Step ι h w ι h' w' := by
  unfold AHeap.storeN at hs
  split at hs
  · rename_i he
    injection hs with hs; subst hs
    have hn : vs = [] := by simpa using he
    subst hn
    rw [hvs.nil_inv]
    exact ⟨w, rfl, hR, Step.refl _ _ _⟩
  · split at hs
    · rename_i c k hg
      split at hs
      · rename_i hcond
        obtain ⟨hk, hone, hle⟩ := hcond
        injection hs with hs; subst hs
        obtain ⟨img, c', e, fz, hi, hp', ho, hsz, hc, hkr⟩ := hR.cellsAt hA hg
        have hz : noFz fz c'.size := by
          cases k with
          | ro => exact absurd rfl hk
          | own => exact hkr.2
          | grown s => exact hkr.1
        have hl := hvs.1
        have h1 : ∀ v ∈ vs', v.oneCell' = true := fun v hv => by
          obtain ⟨i, hi', e1⟩ := List.getElem_of_mem hv
          have hi2 : i < vs.length := by rw [hl]; exact hi'
          have := hvs.2 i vs[i] v (List.getElem?_eq_getElem hi2) (by rw [List.getElem?_eq_getElem hi', e1])
          exact this.oneCell (by simpa using (List.all_eq_true.1 hone) _ (List.getElem_mem hi2))
        subst hp'
        have hrun := run_storeCells_put (P := P) img.blk (p.off + img.shift) e fz vs' 0 c' w ho hz (by rw [← hl]; omega) h1
        simp only [Nat.add_zero] at hrun
        refine ⟨_, hrun, ?_⟩
        have hm : (AObj.cells c k).mut = true := by cases k <;> simp [AObj.mut] at hk ⊢
        have hm2 : ∀ l, (AObj.cells l k).mut = true := fun l => by cases k <;> simp [AObj.mut] at hk ⊢
        refine hR.write hg hm (hm2 _) hi ⟨_, e, fz, rfl, ?_, fun i v hv => ?_, ?_⟩
        · simp; omega
        · have hlen : (c'.toList.take (p.off + img.shift)).length = p.off + img.shift := by simp; omega
          by_cases h1 : i < p.off
          · rw [List.append_assoc, List.getElem?_append_left (by simp; omega), List.getElem?_take, if_pos h1] at hv
            obtain ⟨v', hv', hV⟩ := hc _ _ hv
            refine ⟨v', ?_, hV⟩
            simp only [List.getElem?_toArray, List.append_assoc]
            rw [List.getElem?_append_left (by rw [hlen]; omega), List.getElem?_take, if_pos (by omega)]
            simpa using hv'
          · by_cases h2 : i < p.off + vs.length
            · rw [List.append_assoc, List.getElem?_append_right (by simp; omega), List.getElem?_append_left (by simp; omega)] at hv
              have hmin : min p.off c.length = p.off := by omega
              simp only [List.length_take, hmin] at hv
              obtain ⟨y, hy, hV⟩ := hvs.get hv
              refine ⟨y, ?_, hV⟩
              simp only [List.getElem?_toArray, List.append_assoc]
              rw [List.getElem?_append_right (by rw [hlen]; omega), hlen, List.getElem?_append_left (by rw [← hl]; omega)]
              rw [← hy]; congr 1; omega
            · rw [List.append_assoc, List.getElem?_append_right (by simp; omega), List.getElem?_append_right (by simp; omega)] at hv
              have hmin : min p.off c.length = p.off := by omega
              simp only [List.length_take, hmin, List.getElem?_drop] at hv
              have e1 : p.off + vs.length + (i - p.off - vs.length) = i := by omega
              rw [e1] at hv
              obtain ⟨v', hv', hV⟩ := hc _ _ hv
              refine ⟨v', ?_, hV⟩
              simp only [List.getElem?_toArray, List.append_assoc]
              rw [List.getElem?_append_right (by rw [hlen]; omega), hlen, List.getElem?_append_right (by rw [← hl]; omega), List.getElem?_drop, ← hl]
              have e2 : p.off + img.shift + vs.length + (i + img.shift - (p.off + img.shift) - vs.length) = i + img.shift := by omega
              rw [e2]
              simpa using hv'
        · have e1 : (c.take p.off ++ vs ++ c.drop (p.off + vs.length)).length = c.length := by simp; omega
          have e2 : (c'.toList.take (p.off + img.shift) ++ vs' ++ c'.toList.drop (p.off + img.shift + vs'.length)).toArray.size = c'.size := by simp; omega
          rw [e1, e2]; exact hkr
      · cases hs
    · cases hs

def HSound (P : Program) (ι : Inj) (h : AHeap) (w : World) (v : Value) (h' : AHeap) (s : Sem Next) : Prop :=
  ∃ n w' ι', s.run P w = .ok n w' ∧ ((n = .skip ∧ v = undef) ∨ ∃ v', n = .value v' ∧ V ι' v v') ∧ R ι' h' w' ∧ Step ι h w ι' h' w'

theorem HSound.val {v : Value} {h' : AHeap} {s : Sem Value} {v' : Value} {w' : World} {ι' : Inj} (hs : s.run P w = .ok v' w') (hV : V ι' v v') (hR : R ι' h' w') (hS : Step ι h w ι' h' w') :
    HSound P ι h w v h' (do pure (Next.value (← s))) := ⟨_, w', ι', run_value hs, .inr ⟨v', rfl, hV⟩, hR, hS⟩

theorem HSound.unit {h' : AHeap} {s : Sem Unit} {w' : World} {ι' : Inj} (hs : s.run P w = .ok () w') (hR : R ι' h' w') (hS : Step ι h w ι' h' w') :
    HSound P ι h w undef h' (do s; pure Next.skip) := ⟨.skip, w', ι', by simp [hs], .inl ⟨rfl, rfl⟩, hR, hS⟩

/-- A new row of the run's own. -/
theorem new_row (hR : R ι h w) {cs cs' : List Value} (hc : VL ι cs cs') (e : TypeId) :
    ∃ ι', V ι' (.pointer (some ⟨h.next, 0, none⟩)) (.pointer (some ⟨w.heap.size, 0, none⟩)) ∧ ARel ι' ⟨h.next, 0, none⟩ ⟨w.heap.size, 0, none⟩ ∧
      R ι' (h.push (.cells cs .own)) (w.alloc (.cells cs'.toArray e (0, 0))) ∧ Step ι h w ι' (h.push (.cells cs .own)) (w.alloc (.cells cs'.toArray e (0, 0))) := by
  have := hR.push (.cells cs .own) (.cells cs'.toArray e (0, 0)) none ⟨_, e, (0, 0), rfl, by simp [hc.1], fun i v hv => ?_, rfl, fun k _ => by simp⟩
  · have hA : ARel (ι.upd h.next ⟨w.heap.size, 0, none⟩) ⟨h.next, 0, none⟩ ⟨w.heap.size, 0, none⟩ := ⟨rfl, ⟨w.heap.size, 0, none⟩, by simp [Inj.upd], by simp⟩
    exact ⟨_, .psome hA, hA, this.1, this.2⟩
  · obtain ⟨y, hy, hV⟩ := hc.get hv
    exact ⟨y, by simpa using hy, hV⟩

theorem run_newRow (e : TypeId) (cs : Array Value) (w : World) : (newRow e cs).run P w = .ok ⟨w.heap.size, 0, none⟩ (w.alloc (.cells cs e (0, 0))) := by
  simp [newRow]

end
end Go.Am
