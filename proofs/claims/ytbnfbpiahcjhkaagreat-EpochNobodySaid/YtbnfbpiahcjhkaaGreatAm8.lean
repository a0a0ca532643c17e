/- The abstract machine, eighth part: the light operations, one by one. -/
import Derived.Test.YtbnfbpiahcjhkaaGreatAm7
namespace Go.Am
open Go

section
variable {P : Program} {ι : Inj} {h : AHeap} {w : World} {env : List Value} {a : Act}

/-! ### Parts of a value -/

theorem foldl_set (off : Nat) : ∀ (l : List Value) (k : Nat) (arr : Array Value), off + k + l.length ≤ arr.size →
    (l.zipIdx k).foldl (fun cs (p : Value × Nat) => cs.setIfInBounds (off + p.2) p.1) arr = (arr.toList.take (off + k) ++ l ++ arr.toList.drop (off + k + l.length)).toArray
  | [], k, arr, _ => by simp
  | x :: l, k, arr, hle => by
    simp only [List.length_cons] at hle
    simp only [List.zipIdx_cons, List.foldl_cons]
    rw [foldl_set off l (k + 1) _ (by simp; omega)]
    apply Array.ext'
    simp only [Array.toList_setIfInBounds]
    have h1 : (arr.toList.set (off + k) x).take (off + (k + 1)) = arr.toList.take (off + k) ++ [x] := by
      rw [← Nat.add_assoc, List.take_succ_eq_append_getElem (by simp; omega), List.take_set_of_le (by omega)]
      simp
    have h2 : (arr.toList.set (off + k) x).drop (off + (k + 1) + l.length) = arr.toList.drop (off + k + (x :: l).length) := by
      rw [List.drop_set_of_lt (by omega)]; congr 1; simp; omega
    rw [h1, h2]
    simp

theorem isJunk_ne {v : Value} (h : isJunk v = false) : v ≠ junk := fun e => by subst e; simp [isJunk, junk] at h

theorem run_fill : ∀ {parts : List (Nat × Nat × Value)} {cells out : List Value}, fillA cells parts = some out → ∀ {cells' : List Value} {parts' : List (Nat × Value)} {place : Nat → Option (Nat × Nat)},
    VL ι cells cells' → parts.length = parts'.length → (∀ (i : Nat) (p : Nat × Nat × Value) (q : Nat × Value), parts[i]? = some p → parts'[i]? = some q → place q.1 = some (p.1, p.2.1) ∧ V ι p.2.2 q.2) →
    ∃ out', Instr.fill place cells'.toArray parts' = some out' ∧ VL ι out out'.toList
  | [], cells, out, hf, cells', parts', place, hc, hl, _ => by
    have : parts' = [] := by cases parts' with | nil => rfl | cons _ _ => simp at hl
    subst this
    simp [fillA] at hf; subst hf
    exact ⟨_, rfl, by simpa using hc⟩
  | (off, size, v) :: rest, cells, out, hf, cells', parts', place, hc, hl, hp => by
    cases parts' with
    | nil => simp at hl
    | cons q rest' =>
      obtain ⟨j, v'⟩ := q
      simp only [fillA] at hf
      split at hf
      · rename_i hcond
        obtain ⟨h1, h2, hj⟩ := hcond
        obtain ⟨hpl, hV⟩ := hp 0 _ _ rfl rfl
        · have hcv := hV.cells (isJunk_ne hj)
          have hsz : v'.cells.size = size := by rw [← hcv.1]; exact h1
          have hlen : cells'.length = cells.length := hc.1.symm
          have key : (v'.cells.zipIdx.foldl (fun cs (c, j) => cs.setIfInBounds (off + j) c) cells'.toArray) = (cells'.take off ++ v'.cells.toList ++ cells'.drop (off + size)).toArray := by
            have := foldl_set off v'.cells.toList 0 cells'.toArray (by simp; omega)
            rw [← Array.foldl_toList, Array.toList_zipIdx]
            simpa [hsz] using this
          have hc2 : VL ι (cells.take off ++ v.cells.toList ++ cells.drop (off + size)) (cells'.take off ++ v'.cells.toList ++ cells'.drop (off + size)) :=
            ((hc.take off).append hcv.toList).append (hc.drop _)
          obtain ⟨out', ho, hV'⟩ := run_fill hf hc2 (parts' := rest') (place := place) (by simpa using hl) (fun i p q hp' hq => hp (i + 1) p q (by simpa using hp') (by simpa using hq))
          refine ⟨out', ?_, hV'⟩
          simp only [Instr.fill, hpl, hsz]
          rw [if_neg (by simp; omega)]
          rw [key]; exact ho
      · cases hf

/-! ### Bounds -/

def OV (ι : Inj) : Option Value → Option Value → Prop
  | none, none => True
  | some v, some v' => V ι v v'
  | _, _ => False

theorem run_sliceBound {v v' : Value} (hV : V ι v v') {y y' n : Nat} (hb : abound v y = some n) (hy : y ≤ y') (code : BoundsCode) (w : World) :
    (Instr.sliceBound v' y' code).run P w = .ok n w ∧ n ≤ y := by
  unfold abound at hb
  split at hb
  · rename_i k i
    split at hb
    · rename_i hc
      injection hb with hb
      rw [hV.int_inv]
      refine ⟨?_, by omega⟩
      simp only [Instr.sliceBound, asIntOf, Sem.run_bind, Sem.run_pure, Result.andThen_ok]
      rw [if_pos ⟨hc.1, by omega⟩, hb]; rfl
    · cases hb
  · cases hb

theorem run_sliceBounds {lo lo' hi hi' mx mx' : Option Value} (h1 : OV ι lo lo') (h2 : OV ι hi hi') (h3 : OV ι mx mx') {len cap cap' l hh m : Nat} (hb : abounds len cap lo hi mx = some (l, hh, m)) (hcap : cap ≤ cap')
    (isS : Bool) (w : World) : ∃ m', (Instr.sliceBounds isS len cap' lo' hi' mx').run P w = .ok (l, hh, m') w ∧ (mx.isSome = true → m' = m ∧ m ≤ cap) ∧ (mx.isSome = false → m = cap ∧ m' = cap') ∧ l ≤ hh ∧ (hi.isSome = true → hh ≤ m) := by
  unfold abounds at hb
  cases mx with
  | none =>
    cases mx' with
    | some _ => exact absurd h3 (by simp [OV])
    | none =>
      simp only [] at hb
      refine ⟨cap', ?_⟩
      cases hi with
      | none =>
        cases hi' with
        | some _ => exact absurd h2 (by simp [OV])
        | none =>
          simp only [Option.isSome_none, Bool.false_eq_true, if_false] at hb
          cases lo with
          | none =>
            cases lo' with
            | some _ => exact absurd h1 (by simp [OV])
            | none =>
              simp at hb; obtain ⟨rfl, rfl, rfl⟩ := hb
              simp [Instr.sliceBounds]
          | some v =>
            cases lo' with
            | none => exact absurd h1 (by simp [OV])
            | some v' =>
              simp only [] at hb
              split at hb
              · cases hb
              · rename_i n hn
                simp at hb; obtain ⟨rfl, rfl, rfl⟩ := hb
                have := run_sliceBound (P := P) h1 hn (Nat.le_refl _)
                simp [Instr.sliceBounds, (this _ _).1, (this .sliceB w).2]
      | some u =>
        cases hi' with
        | none => exact absurd h2 (by simp [OV])
        | some u' =>
          simp only [] at hb
          split at hb
          · cases hb
          · rename_i hn0 hn
            have hu := run_sliceBound (P := P) h2 hn hcap
            cases lo with
            | none =>
              cases lo' with
              | some _ => exact absurd h1 (by simp [OV])
              | none =>
                simp at hb; obtain ⟨rfl, rfl, rfl⟩ := hb
                cases isS <;> simp [Instr.sliceBounds, (hu _ _).1, (hu .sliceB w).2]
            | some v =>
              cases lo' with
              | none => exact absurd h1 (by simp [OV])
              | some v' =>
                simp only [] at hb
                split at hb
                · cases hb
                · rename_i n hn'
                  simp at hb; obtain ⟨rfl, rfl, rfl⟩ := hb
                  have := run_sliceBound (P := P) h1 hn' (Nat.le_refl _)
                  cases isS <;> simp [Instr.sliceBounds, (hu _ _).1, (hu .sliceB w).2, (this _ _).1, (this .sliceB w).2]
  | some x =>
    cases mx' with
    | none => exact absurd h3 (by simp [OV])
    | some x' =>
      simp only [] at hb
      split at hb
      · cases hb
      · rename_i m0 hm0
        have hx := run_sliceBound (P := P) h3 hm0 hcap
        refine ⟨m0, ?_⟩
        cases hi with
        | none => simp at hb
        | some u =>
          cases hi' with
          | none => exact absurd h2 (by simp [OV])
          | some u' =>
            simp only [] at hb
            split at hb
            · cases hb
            · rename_i h0 hn
              have hu := run_sliceBound (P := P) h2 hn (Nat.le_refl _)
              cases lo with
              | none =>
                cases lo' with
                | some _ => exact absurd h1 (by simp [OV])
                | none =>
                  simp at hb; obtain ⟨rfl, rfl, rfl⟩ := hb
                  cases isS <;> simp [Instr.sliceBounds, (hx _ _).1, (hx .sliceB w).2, (hu _ _).1, (hu .sliceB w).2]
              | some v =>
                cases lo' with
                | none => exact absurd h1 (by simp [OV])
                | some v' =>
                  simp only [] at hb
                  split at hb
                  · cases hb
                  · rename_i n hn'
                    simp at hb; obtain ⟨rfl, rfl, rfl⟩ := hb
                    have := run_sliceBound (P := P) h1 hn' (Nat.le_refl _)
                    cases isS <;> simp [Instr.sliceBounds, (hx _ _).1, (hx .sliceB w).2, (hu _ _).1, (hu .sliceB w).2, (this _ _).1, (this .sliceB w).2]

/-! ### Slices -/

/-- What the room of a slice tells of the world's. -/
theorem R.room (hR : R ι h w) {p p' : Addr} (hp : ARel ι p p') {cap cap' : Nat} (hc : CapRel ι p cap p' cap') :
    (∀ r, h.room p cap = r → match r with
      | .exact => cap' = cap
      | .opn s => cap ≤ cap' ∧ ∃ img N, ι p.block = some img ∧ img.ext = some (s, p.off + cap * s, N) ∧ 0 < s ∧ (cap' = cap ∨ p'.off + cap' * s = N)
      | .lost => True) := by
  intro r hr
  unfold AHeap.room at hr
  obtain ⟨hsp, img, hi, hp'⟩ := hp
  cases hg : h.get p.block with
  | none => rw [hg] at hr; simp at hr; subst hr; trivial
  | some o =>
    rw [hg] at hr
    cases o with
    | cells c k =>
      obtain ⟨img2, c', e, fz, hi2, _, ho, _, _, hk⟩ := hR.cellsAt ⟨hsp, img, hi, hp'⟩ hg
      rw [hi] at hi2; injection hi2 with hi2; subst hi2
      cases k with
      | ro =>
        simp at hr; subst hr
        rcases hc with hc | ⟨i3, s, n, N, h1, h2, _⟩
        · exact hc
        · rw [hi] at h1; injection h1 with h1; subst h1; rw [hk] at h2; cases h2
      | own =>
        simp at hr; subst hr
        rcases hc with hc | ⟨i3, s, n, N, h1, h2, _⟩
        · exact hc
        · rw [hi] at h1; injection h1 with h1; subst h1; rw [hk.1] at h2; cases h2
      | grown s =>
        obtain ⟨_, hs, hext⟩ := hk
        simp only at hr
        split at hr
        · rename_i he
          subst hr
          refine ⟨?_, img, c'.size, hi, by rw [hext, he], hs, ?_⟩
          · rcases hc with hc | ⟨i3, s3, n, N, h1, h2, _, _, _, h6⟩
            · omega
            · exact h6
          · rcases hc with hc | ⟨i3, s3, n, N, h1, h2, h3, h4, h5, h6⟩
            · exact .inl hc
            · rw [hi] at h1; injection h1 with h1; subst h1
              rw [hext] at h2; injection h2 with h2; injection h2 with e1 h2; injection h2 with e2 e3
              subst e1 e2 e3
              exact .inr h5
        · rename_i he
          subst hr
          rcases hc with hc | ⟨i3, s3, n, N, h1, h2, h3, h4, h5, h6⟩
          · exact hc
          · rw [hi] at h1; injection h1 with h1; subst h1
            rw [hext] at h2; injection h2 with h2; injection h2 with e1 h2; injection h2 with e2 e3
            subst e1 e2 e3
            exact absurd h4 he
    | _ => simp at hr; subst hr; trivial

theorem V.emptySl (p' : Addr) (c : Nat) : V ι emptySl (.slice (some p') 0 c) := .semp _ _ _ rfl

end
end Go.Am
