/- The abstract machine, seventeenth part: THE HEAVY OPERATIONS ARE SOUND (but for calls, steps of an iterator, panics). -/
import Derived.Test.YtbnfbpiahcjhkaaGreatAm16
namespace Go.Am
open Go

section
variable {P : Program} {ι : Inj} {h : AHeap} {w : World} {env : List Value} {a : Act}

theorem freeze_end {w : World} {cs : Array Value} {e : TypeId} : ((w.alloc (.cells cs e (0, 0))).freeze ⟨w.heap.size, cs.size, none⟩ 1) = w.alloc (.cells cs e (cs.size, cs.size + 1)) := by
  unfold World.freeze World.alloc
  simp only [Nat.one_ne_zero, if_false]
  congr 1
  apply Array.ext_getElem?
  intro i
  rw [Array.getElem?_modify]
  by_cases hi : w.heap.size = i
  · subst hi; simp
  · simp only [hi, if_false]
    simp only [Array.getElem?_push, Ne.symm hi, if_false]

def AOp.isNext : AOp → Bool
  | .next _ => true
  | _ => false

theorem heavyVal_light {ao : AOp} (hl : ao.light = true ∨ ao.isNext = true) : heavyVal ao env h = none := by
  cases ao <;> first | rfl | (simp [AOp.light, AOp.isNext] at hl)

def OAll {α : Type} (p : α → Prop) (o : Option α) : Prop := ∀ x, o = some x → p x
theorem oall_elim {α : Type} {p : α → Prop} {o : Option α} {x : α} (h : OAll p o) : o = some x → p x := h x
theorem oall_none {α : Type} {p : α → Prop} : OAll p (none : Option α) := fun _ h => by cases h
theorem oall_some {α : Type} {p : α → Prop} {x : α} (h : p x) : OAll p (some x) := fun _ e => by injection e with e; subst e; exact h
theorem oall_map {α β : Type} {p : β → Prop} {f : α → β} {o : Option α} (h : ∀ a, p (f a)) : OAll p (o.map f) := fun x e => by
  simp only [Option.map_eq_some_iff] at e; obtain ⟨a, _, rfl⟩ := e; exact h a
theorem oall_bind {α β : Type} {p : β → Prop} {f : α → Option β} {o : Option α} (h : ∀ a, OAll p (f a)) : OAll p (o.bind f) := fun x e => by
  simp only [Option.bind_eq_some_iff] at e; obtain ⟨a, _, e⟩ := e; exact h a x e

theorem run_markStringish {p : Addr} {e : TypeId} {n : Nat} (hs : w.shape? p.block = some (e, n)) : (markStringish p).run P w = .ok () (w.freeze ⟨p.block, n, none⟩ 1) := by
  simp [markStringish, hs]

theorem heavy_sound (hR : R ι h w) (hE : ERel ι env a) {o : Oper} {ao : AOp} (hc : comp P o.op = some ao) {v : Value} {h' : AHeap} (hv : heavyVal ao env h = some (v, h')) :
    HSound P ι h w v h' (execOp a.eval o) := by
  obtain ⟨dst, op, type, pos, after, guard⟩ := o
  simp only at hc
  cases op <;> simp only [comp] at hc <;> simp only [execOp]
  case alloc t =>
    simp only [Option.map_eq_some_iff] at hc; obtain ⟨z, hz, rfl⟩ := hc
    simp only [heavyVal, Option.some.injEq, Prod.mk.injEq] at hv
    obtain ⟨rfl, rfl⟩ := hv
    obtain ⟨zv, hz1, hz2, hz3, hz4, hz5⟩ := zeroCs_rel ι hz
    obtain ⟨ι', h1, h2, h3, h4⟩ := new_row hR hz4 t
    have hzc : zv.cells = z.toArray := by rw [← hz2]
    refine HSound.val (v' := .pointer (some ⟨w.heap.size, 0, none⟩)) ?_ h1 h3 h4
    simp only [Instr.alloc, Sem.run_bind, (run_zeroV (P := P) hz1 w).1, Result.andThen_ok, newVar, run_newRow, Sem.run_pure, hzc]
  case box t x =>
    simp only [Option.map_eq_some_iff] at hc; obtain ⟨y, hy, rfl⟩ := hc
    have hX := ev_rel hE hy
    simp only [heavyVal] at hv
    split at hv
    · rename_i hj
      simp only [Option.some.injEq, Prod.mk.injEq] at hv
      obtain ⟨rfl, rfl⟩ := hv
      obtain ⟨ι', h1, h2, h3, h4⟩ := new_row hR (hX.cells (isJunk_ne hj)).toList t
      refine HSound.val (v' := .pointer (some ⟨w.heap.size, 0, none⟩)) ?_ h1 h3 h4
      simp only [Instr.box, Sem.run_bind, newVar, run_newRow, Result.andThen_ok, Sem.run_pure, Array.toArray_toList]
    · cases hv
  case buildSlice t len parts =>
    split at hc
    · rename_i e hd
      simp only [Option.bind_eq_bind, Option.bind_eq_some_iff] at hc
      obtain ⟨z, hz, hc⟩ := hc
      obtain ⟨zv, hz1, hz2, hz3, hz4, hz5⟩ := zeroCs_rel ι hz
      split at hc
      · cases hc
      · rename_i hsz
        simp only [not_or, Nat.not_lt] at hsz
        simp only [Option.map_eq_some_iff] at hc
        obtain ⟨qs, hq, rfl⟩ := hc
        simp only [heavyVal, Option.map_eq_some_iff] at hv
        obtain ⟨cs, hf, hv⟩ := hv
        injection hv with q1 q2; subst q1 q2
        obtain ⟨p1, p2⟩ := parts_rel hE hq
        obtain ⟨out', ho, hV⟩ := run_fill (place := fun i => some (i * z.length, z.length)) hf (VL.flat hz4 len) p1 p2
        obtain ⟨ι', h1, h2, h3, h4⟩ := new_row hR hV e
        have hzc : zv.cells = z.toArray := by rw [← hz2]
        have e3 : (Array.map (fun x => (x.1, a.eval x.2)) parts).toList = parts.toList.map fun x => (x.1, a.eval x.2) := by simp
        refine HSound.val (v' := .slice (some ⟨w.heap.size, 0, none⟩) len len) ?_ (.ssome _ h2 (.inl rfl)) h3 h4
        have hfill : Instr.fill (fun i => some (i * z.length, z.length)) ((Array.range (len * z.length)).map (z.toArray[· % z.toArray.size]!)) (Array.map (fun x => (x.1, a.eval x.2)) parts).toList = some out' := by
          have : (Array.range (len * z.length)).map (z.toArray[· % z.toArray.size]!) = (List.replicate len z).flatten.toArray := by
            apply Array.ext'
            have := range_map_zero z.toArray len
            simpa using this
          rw [this, e3]; exact ho
        have hnle : ¬ len * z.length > 2 ^ 24 := by omega
        simp only [Instr.buildSlice, Sem.run_bind, run_under hd, Result.andThen_ok, run_sizeA hz3, hnle, if_false, Sem.run_pure]
        by_cases h0 : len * z.length = 0
        · have hl0 : len = 0 := by
            rcases Nat.mul_eq_zero.1 h0 with h | h
            · exact h
            · exact absurd h hsz.1
          subst hl0
          have g1 : (Array.range (0 * z.length)).map (z.toArray[· % z.toArray.size]!) = #[] := by simp
          have g2 : (Array.range (0 * z.length)).map ((#[] : Array Value)[· % (#[] : Array Value).size]!) = #[] := by simp
          rw [g1] at hfill
          simp only [Nat.zero_mul, if_true, Sem.run_bind, Sem.run_pure, Result.andThen_ok] at g2 ⊢
          rw [g2, hfill]
          simp only [Sem.run_bind, run_newRow, Result.andThen_ok, Sem.run_pure, Array.toArray_toList]
        · simp only [h0, if_false, Sem.run_bind, (run_zeroV (P := P) hz1 w).1, Result.andThen_ok, Sem.run_pure, hzc]
          rw [hfill]
          simp only [Sem.run_bind, run_newRow, Result.andThen_ok, Sem.run_pure, Array.toArray_toList]
    · cases hc
  case store t x y =>
    simp only [Option.bind_eq_bind, Option.bind_eq_some_iff, Option.map_eq_some_iff] at hc
    obtain ⟨x1, hx, y1, hy, n, hn, rfl⟩ := hc
    have hX := ev_rel hE hx
    have hY := ev_rel hE hy
    simp only [heavyVal] at hv
    split at hv
    · rename_i p hp
      rw [hp] at hX
      obtain ⟨p', e1, hA⟩ := hX.psome_inv
      split at hv
      · rename_i hcond
        simp only [Option.map_eq_some_iff] at hv
        obtain ⟨h2, hst, hv⟩ := hv
        injection hv with q1 q2; subst q1 q2
        have hcv := hY.cells (isJunk_ne hcond.2)
        obtain ⟨w', h3, h4, h5⟩ := run_storeN (P := P) hR hA hcv.toList hst
        refine HSound.unit ?_ h4 h5
        rw [e1]
        simp only [Instr.storeAt, Instr.sureAddr, Sem.run_bind, Sem.run_pure, Result.andThen_ok]
        exact run_storeVar_of hn (by rw [← hcv.1]; exact hcond.1) h3
      · cases hv
    · cases hv
  case convert s d x =>
    unfold compConv at hc
    simp only [Option.bind_eq_bind, Option.bind_eq_some_iff] at hc
    obtain ⟨y, hy, hc⟩ := hc
    have hX := ev_rel hE hy
    split at hc
    · injection hc with hc; subst hc; simp [heavyVal] at hv
    · split at hc
      · injection hc with hc; subst hc; simp [heavyVal] at hv
      · cases hc
    · rename_i e hu1 hu2
      split at hc
      · rename_i hue
        injection hc with hc; subst hc
        simp only [heavyVal] at hv
        split at hv
        · rename_i str hs
          rw [hs] at hX
          have hXs := hX.string_inv
          split at hv
          · rename_i hle
            let cap := (Question.appendCap str.size 0 e).cut (w.tape w.drawn (.appendCap str.size 0 e))
            have hge : str.size ≤ cap := by simp only [cap, Question.cut]; omega
            let cells : Array Value := (str.data.map fun b => .int .u8 b.toNat) ++ Array.replicate (cap - str.size) (.int .u8 0)
            have hcsz : cells.size = cap := by
              simp only [cells, Array.size_append, Array.size_map, Array.size_replicate]
              have : str.data.size = str.size := rfl
              omega
            let w1 : World := { w with drawn := w.drawn + 1 }
            have hrun : (Conv.stringToBytes e str).run P w = .ok (.slice (some ⟨w.heap.size, 0, none⟩) str.size cap) (w1.alloc (.cells cells e (cells.size, cells.size + 1))) := by
              have hforced : (Question.appendCap str.size 0 e).forced = false := rfl
              simp only [Conv.stringToBytes, Sem.run_bind, run_choose, hforced, Bool.false_eq_true, if_false, Result.andThen_ok, run_newRow]
              have hsh : (w1.alloc (.cells cells e (0, 0))).shape? w.heap.size = some (e, cells.size) := by
                simp only [World.shape?, World.alloc, w1]
                simp
              have := freeze_end (w := w1) (cs := cells) (e := e)
              have hw1 : w1.heap.size = w.heap.size := rfl
              have hm := run_markStringish (P := P) (w := w1.alloc (.cells cells e (0, 0))) (p := ⟨w.heap.size, 0, none⟩) hsh
              have hw2 : ({ w with drawn := w.drawn + 1 } : World) = w1 := rfl
              have hcells : (str.data.map fun b => Value.int .u8 b.toNat) ++ Array.replicate (cap - str.size) (.int .u8 0) = cells := rfl
              rw [hw1] at this
              simp only [hw2, hw1]
              rw [show (Array.map (fun b => Value.int IntKind.u8 ↑b.toNat) str.data ++ Array.replicate ((Question.appendCap str.size 0 e).cut (w.tape w.drawn (Question.appendCap str.size 0 e)) - str.size) (Value.int IntKind.u8 0)) = cells from rfl]
              rw [hm, this]
              rfl
            have hconv : (convert s d (a.eval x)).run P w = .ok (.slice (some ⟨w.heap.size, 0, none⟩) str.size cap) (w1.alloc (.cells cells e (cells.size, cells.size + 1))) := by
              rw [hXs]
              simp only [convert, Sem.run_bind, run_under hu1, run_under hu2, run_under hue, Result.andThen_ok, hrun]
            split at hv
            · rename_i h0
              simp only [Option.some.injEq, Prod.mk.injEq] at hv
              obtain ⟨q1, q2⟩ := hv; subst q1 q2
              -- the new block is in no one's image
              have hR1 : R ι h w1 := hR.drew _
              have hpush := hR1.garbage (.cells cells e (cells.size, cells.size + 1))
              refine HSound.val hconv ?_ hpush.1 ((Step.drew _).trans hpush.2)
              rw [h0]; exact V.emptySl _ _
            · rename_i h0
              simp only [Option.some.injEq, Prod.mk.injEq] at hv
              obtain ⟨q1, q2⟩ := hv; subst q1 q2
              have hR1 : R ι h w1 := hR.drew _
              have hpush := hR1.push (.cells (str.data.toList.map fun b => .int .u8 b.toNat) (.grown 1)) (.cells cells e (cells.size, cells.size + 1)) (some (1, str.size, cells.size))
                ⟨_, e, _, rfl, by simp [cells], fun i v hv => by
                  refine ⟨v, ?_, ?_⟩
                  · have hlt : i < str.data.size := by have := (List.getElem?_eq_some_iff.1 hv).1; simpa using this
                    simp only [Nat.add_zero, cells]
                    rw [Array.getElem?_append_left (by simpa using hlt)]
                    simpa using hv
                  · simp only [List.getElem?_map, Option.map_eq_some_iff] at hv
                    obtain ⟨b, _, rfl⟩ := hv
                    exact .int _ _, fun k hk => by simp; omega, by omega, by simp⟩
              refine HSound.val hconv ?_ hpush.1 ((Step.drew _).trans hpush.2)
              refine .ssome _ ⟨rfl, ⟨w.heap.size, 0, some (1, str.size, cells.size)⟩, by simp [Inj.upd, w1], by simp⟩ (.inr ⟨⟨w.heap.size, 0, some (1, str.size, cells.size)⟩, 1, _, _, by simp [Inj.upd, w1], rfl, by omega, by simp, by simp [hcsz], hge⟩)
          · cases hv
        · cases hv
      · cases hc
    · cases hc
  case makeMap t r =>
    cases r with
    | some _ => cases hc
    | none =>
      simp only [Option.some.injEq] at hc; subst hc
      simp only [heavyVal, Option.some.injEq, Prod.mk.injEq] at hv
      obtain ⟨q1, q2⟩ := hv; subst q1 q2
      obtain ⟨ι', h1, h2, h3, h4⟩ := new_obj (o := .map [] 0 false) (o' := .map #[] 0) hR (fun e => ⟨rfl, #[], rfl, rfl, fun i e e' h1 _ => by simp at h1⟩)
      refine HSound.val (v' := .map (some w.heap.size)) ?_ (.msome h2) h3 h4
      simp [Instr.makeMap]
  case makeSlice t l c =>
    split at hc
    · rename_i e hd
      simp only [Option.bind_eq_bind, Option.pure_def, Option.bind_eq_some_iff, Option.some.injEq] at hc
      obtain ⟨z, hz, i, hi, l1, hl, c1, hcc, rfl⟩ := hc
      have hL := ev_rel hE hl
      have hC := ev_rel hE hcc
      obtain ⟨zv, hz1, hz2, hz3, hz4, hz5⟩ := zeroCs_rel ι hz
      simp only [heavyVal] at hv
      split at hv
      · rename_i k1 l0 k2 c0 hl0 hc0
        rw [hl0] at hL; rw [hc0] at hC
        split at hv
        · rename_i hcond
          obtain ⟨a1, a2, a3, a4, a5⟩ := hcond
          simp only [Option.some.injEq, Prod.mk.injEq] at hv
          obtain ⟨q1, q2⟩ := hv; subst q1 q2
          obtain ⟨ι', h1, h2, h3, h4⟩ := new_row hR (VL.flat hz4 c0.toNat) e
          have hmb : (mostBytes : Int) ≤ 2 ^ 47 := by decide
          have hwl : IntKind.i64.wrap l0 = l0 := IntWalk.i64_in l0 (by omega)
          have hwc : IntKind.i64.wrap c0 = c0 := IntWalk.i64_in c0 (by omega)
          have hti : ∀ w, (typeInfo e).run P w = .ok i w := fun w => by simp [typeInfo, hi]
          have hsz : sizeA P e = some i.size := by simp [sizeA, hi]
          have hcomm : (i.bytes : Int) * c0 = c0 * i.bytes := Int.mul_comm _ _
          have t1 : ¬ (decide (c0 < 0) || decide ((i.bytes : Int) * c0 > 2 ^ 48)) = true := by
            simp only [Bool.or_eq_true, decide_eq_true_eq, not_or]
            omega
          have htest : ¬ (((decide (c0 < 0) || decide ((i.bytes : Int) * c0 > 2 ^ 48)) || decide (l0 < 0) || decide (l0 > c0)) = true) := by
            simp only [Bool.or_eq_true, decide_eq_true_eq, not_or]
            omega
          refine HSound.val (v' := .slice (some ⟨w.heap.size, 0, none⟩) l0.toNat c0.toNat) ?_ (.ssome _ h2 (.inl rfl)) h3 h4
          rw [hL.int_inv, hC.int_inv]
          simp only [Instr.makeSlice, Sem.run_bind, run_under hd, Result.andThen_ok, asInt, asIntOf, Sem.run_pure, hti, hwl, hwc, htest, if_false, Bool.false_eq_true, run_askRoom, run_sizeA hsz]
          have hzc : zv.cells = z.toArray := by rw [← hz2]
          have hzl : z.length = i.size := by rw [hz3] at hsz; injection hsz
          by_cases h0 : c0.toNat * i.size = 0
          · have g3 : (List.replicate c0.toNat z).flatten = [] := by
              apply List.eq_nil_of_length_eq_zero
              rw [List.length_flatten, List.map_replicate, List.sum_replicate_nat, hzl]; exact h0
            simp [h0, run_newRow, g3]
            congr 2
            apply Array.ext'
            simp
          · have : (Array.range (c0.toNat * i.size)).map (z.toArray[· % z.toArray.size]!) = (List.replicate c0.toNat z).flatten.toArray := by
              apply Array.ext'
              have := range_map_zero z.toArray c0.toNat
              simpa [hzl] using this
            simp only [h0, if_false, (run_zeroV (P := P) hz1 w).1, Sem.run_bind, Sem.run_pure, Result.andThen_ok, hzc, run_newRow, this]
        · cases hv
      · cases hv
    · cases hc
  case mapUpdate t m k x =>
    split at hc
    · rename_i kt e hd
      simp only [Option.bind_eq_bind, Option.pure_def, Option.bind_eq_some_iff, Option.some.injEq] at hc
      obtain ⟨kk, hkk, m1, hm, k1, hk, x1, hx, rfl⟩ := hc
      have hM := ev_rel hE hm
      have hK := ev_rel hE hk
      have hX := ev_rel hE hx
      simp only [heavyVal] at hv
      split at hv
      · cases hv
      · rename_i hke
        split at hv
        · rename_i r hmr
          split at hv
          · rename_i es clock hg
            split at hv
            · rename_i i u hf
              simp only [Option.some.injEq, Prod.mk.injEq] at hv
              obtain ⟨q1, q2⟩ := hv; subst q1 q2
              obtain ⟨w', h1, h2, h3⟩ := mapSet_sound hR hd hkk hM hK hX hmr hg hke hf
              exact HSound.unit h1 h2 h3
            · rename_i hf
              simp only [Option.some.injEq, Prod.mk.injEq] at hv
              obtain ⟨q1, q2⟩ := hv; subst q1 q2
              obtain ⟨w', h1, h2, h3⟩ := mapSet_sound hR hd hkk hM hK hX hmr hg hke hf
              exact HSound.unit h1 h2 h3
            · cases hv
          · cases hv
        · cases hv
    · cases hc
  case insert t m k x =>
    split at hc
    · rename_i kt e hd
      simp only [Option.bind_eq_bind, Option.pure_def, Option.bind_eq_some_iff, Option.some.injEq] at hc
      obtain ⟨kk, hkk, m1, hm, k1, hk, x1, hx, rfl⟩ := hc
      have hM := ev_rel hE hm
      have hK := ev_rel hE hk
      have hX := ev_rel hE hx
      simp only [heavyVal] at hv
      split at hv
      · cases hv
      · rename_i hke
        split at hv
        · rename_i r hmr
          split at hv
          · rename_i es clock hg
            split at hv
            · rename_i i u hf
              simp only [Option.some.injEq, Prod.mk.injEq] at hv
              obtain ⟨q1, q2⟩ := hv; subst q1 q2
              obtain ⟨w', h1, h2, h3⟩ := mapSet_sound hR hd hkk hM hK hX hmr hg hke hf
              exact HSound.unit h1 h2 h3
            · rename_i hf
              simp only [Option.some.injEq, Prod.mk.injEq] at hv
              obtain ⟨q1, q2⟩ := hv; subst q1 q2
              obtain ⟨w', h1, h2, h3⟩ := mapSet_sound hR hd hkk hM hK hX hmr hg hke hf
              exact HSound.unit h1 h2 h3
            · cases hv
          · cases hv
        · cases hv
    · cases hc
  case range t x =>
    split at hc
    · rename_i kt e hd
      simp only [Option.map_eq_some_iff] at hc; obtain ⟨y, hy, rfl⟩ := hc
      have hX := ev_rel hE hy
      simp only [heavyVal] at hv
      split at hv
      · rename_i hm
        rw [hm] at hX
        simp only [Option.some.injEq, Prod.mk.injEq] at hv
        obtain ⟨q1, q2⟩ := hv; subst q1 q2
        obtain ⟨ι', h1, h2, h3, h4⟩ := new_obj (o := .mapIter none 0 [] 0) (o' := .mapIter none 0 #[] 0) hR (fun e => ⟨rfl, none, rfl, trivial⟩)
        refine HSound.val (v' := .pointer (some ⟨w.heap.size, 0, none⟩)) ?_ (.psome h1) h3 h4
        rw [hX.mnone_inv]
        simp [Instr.range, run_under hd]
      · rename_i r hm
        rw [hm] at hX
        obtain ⟨r', e1, hr⟩ := hX.msome_inv
        split at hv
        · rename_i es clock ro hg
          simp only [Option.some.injEq, Prod.mk.injEq] at hv
          obtain ⟨q1, q2⟩ := hv; subst q1 q2
          obtain ⟨img, o', hi, hb, hs, ho, h0, es', rfl, hes⟩ := map_place hR hr hg
          obtain ⟨ι', h1, h2, h3, h4⟩ := new_obj (o := .mapIter (some r) clock [] clock) (o' := .mapIter (some r') clock #[] clock) hR (fun e => ⟨rfl, some r', rfl, hr⟩)
          refine HSound.val (v' := .pointer (some ⟨w.heap.size, 0, none⟩)) ?_ (.psome h1) h3 h4
          rw [e1]
          simp [Instr.range, run_under hd, run_getObj ho]
        · cases hv
      · cases hv
    · cases hc
  case call c =>
    obtain ⟨callee, args, argTypes⟩ := c
    cases callee with
    | value f => simp only [Option.bind_eq_bind, Option.pure_def, Option.bind_eq_some_iff, Option.some.injEq] at hc; obtain ⟨_, _, _, _, rfl⟩ := hc; simp [heavyVal] at hv
    | invoke r m => simp only [Option.bind_eq_bind, Option.pure_def, Option.bind_eq_some_iff, Option.some.injEq] at hc; obtain ⟨_, _, _, _, rfl⟩ := hc; simp [heavyVal] at hv
    | builtin b =>
      simp only at hc
      exact heavy_builtin hR hE hc hv
  case move => simp only [Option.map_eq_some_iff] at hc; obtain ⟨_, _, rfl⟩ := hc; simp [heavyVal] at hv
  case assign => simp only [Option.map_eq_some_iff] at hc; obtain ⟨_, _, rfl⟩ := hc; simp [heavyVal] at hv
  case nilCheck => simp only [Option.map_eq_some_iff] at hc; obtain ⟨_, _, rfl⟩ := hc; simp [heavyVal] at hv
  case unOp => simp only [Option.map_eq_some_iff] at hc; obtain ⟨_, _, rfl⟩ := hc; simp [heavyVal] at hv
  case extract => simp only [Option.map_eq_some_iff] at hc; obtain ⟨_, _, rfl⟩ := hc; simp [heavyVal] at hv
  case entry => simp only [Option.map_eq_some_iff] at hc; obtain ⟨_, _, rfl⟩ := hc; simp [heavyVal] at hv
  case panic => simp only [Option.map_eq_some_iff] at hc; obtain ⟨_, _, rfl⟩ := hc; simp [heavyVal] at hv
  all_goals first
    | (cases hc; done)
    | (exfalso
       have hl : ao.light = true ∨ ao.isNext = true := by
         clear hv
         revert hc
         apply oall_elim
         try unfold compBin
         try unfold compSlice
         try simp only [Option.bind_eq_bind, Option.pure_def]
         repeat' first
           | exact oall_none
           | exact oall_some (.inl rfl)
           | exact oall_some (.inr rfl)
           | exact oall_map (fun _ => .inl rfl)
           | exact oall_map (fun _ => .inr rfl)
           | (refine oall_bind fun _ => ?_)
           | split
       rw [heavyVal_light hl] at hv
       cases hv)

end
end Go.Am
