/- The abstract machine, ninth part: what a light operation yields. -/
import Derived.Test.YtbnfbpiahcjhkaaGreatAm8
namespace Go.Am
open Go

section
variable {P : Program} {ι : Inj} {h : AHeap} {w : World} {env : List Value} {a : Act}

theorem opt_rel (hE : ERel ι env a) {x : Option Operand} {y : Option Opnd} (hx : compOo x = some y) : OV ι (y.map (·.ev env)) (x.map a.eval) := by
  rcases evo_rel hE hx with ⟨rfl, rfl⟩ | ⟨x0, y0, rfl, rfl, hV⟩
  · trivial
  · exact hV

theorem run_sliceVal (hR : R ι h w) {e : TypeId} {size : Nat} {t : TypeId} (hu : P.underlying t = some (.slice e)) (hs : sizeA P e = some size) {ad : Option Addr} {len cap : Nat} {x' : Value} (hx : V ι (.slice ad len cap) x')
    {lo lo' hi hi' mx mx' : Option Value} (h1 : OV ι lo lo') (h2 : OV ι hi hi') (h3 : OV ι mx mx') {v : Value} (hv : sliceVal h size ad len cap lo hi mx = some v) :
    ∃ v', (Instr.slice t x' lo' hi' mx').run P w = .ok v' w ∧ V ι v v' := by
  unfold sliceVal at hv
  split at hv
  · cases hv
  · rename_i l hh m hb
    cases ad with
    | none =>
      rw [hx.snone_inv]
      obtain ⟨m', hrun, q1, q2, q3⟩ := run_sliceBounds (P := P) h1 h2 h3 hb (Nat.le_refl _) true w
      simp only [Option.some.injEq] at hv; subst hv
      have hm : m' = m := by
        cases hmx : mx.isSome with
        | true => exact (q1 hmx).1
        | false => rw [(q2 hmx).1, (q2 hmx).2]
      subst hm
      refine ⟨.slice none (hh - l) (m' - l), ?_, .snone _ _⟩
      simp [Instr.slice, run_under hu, hrun, run_sizeA hs]
    | some p =>
      simp only at hv
      split at hv
      · rename_i hsp
        split at hv
        · rename_i hmx
          injection hv with hv; subst hv
          obtain ⟨p', c', rfl, rfl, rfl⟩ := hx.semp_inv hsp
          obtain ⟨m', hrun, q1, q2, q3, q4⟩ := run_sliceBounds (P := P) h1 h2 h3 hb (Nat.zero_le c') true w
          have hm0 : m = 0 := (q2 (by simpa using hmx)).1
          have hh0 : hh = 0 := by
            cases hhi : hi.isSome with
            | true => have := q4 hhi; omega
            | false =>
              unfold abounds at hb
              cases mx with
              | some _ => simp at hmx
              | none =>
                cases hi with
                | some _ => simp at hhi
                | none =>
                  simp only [Option.isSome_none, Bool.false_eq_true, if_false] at hb
                  split at hb
                  · cases hb
                  · simp at hb; exact hb.2.1.symm
          have hl0 : l = 0 := by omega
          subst hh0 hl0
          have key : (Instr.slice t (.slice (some p') 0 c') lo' hi' mx').run P w = .ok (.slice (some (if m' = 0 then p' else p'.add (0 * size))) (0 - 0) (m' - 0)) w := by
            simp [Instr.slice, run_under hu, hrun, run_sizeA hs]
            split <;> rfl
          exact ⟨_, key, V.emptySl _ _⟩
        · cases hv
      · rename_i hsp
        obtain ⟨p', c', rfl, hp, hc⟩ := hx.ssome_inv (by simpa using hsp)
        have hroom := hR.room hp hc _ rfl
        have hcc : cap ≤ c' := by
          rcases hc with hc | ⟨_, _, _, _, _, _, _, _, _, h6⟩
          · omega
          · exact h6
        obtain ⟨m', hrun, q1, q2, q3, q4⟩ := run_sliceBounds (P := P) h1 h2 h3 hb hcc true w
        have key : (Instr.slice t (.slice (some p') len c') lo' hi' mx').run P w = .ok (.slice (some (if m' = l then p' else p'.add (l * size))) (hh - l) (m' - l)) w := by
          simp [Instr.slice, run_under hu, hrun, run_sizeA hs]
          split <;> rfl
        have hadd : ∀ b : Bool, ARel ι (if b then p else p.add (l * size)) (if b then p' else p'.add (l * size)) := fun b => by cases b; exact hp.add _; exact hp
        have hmk : m' = m → V ι (.slice (some (if m = l then p else p.add (l * size))) (hh - l) (m - l)) (.slice (some (if m' = l then p' else p'.add (l * size))) (hh - l) (m' - l)) := fun e => by
          subst e
          have := hadd (decide (m' = l))
          simp only [decide_eq_true_eq] at this
          exact .ssome _ this (.inl rfl)
        split at hv
        · rename_i hr
          rw [hr] at hroom
          injection hv with hv; subst hv
          refine ⟨_, key, hmk ?_⟩
          cases hmx : mx.isSome with
          | true => exact (q1 hmx).1
          | false => rw [(q2 hmx).1, (q2 hmx).2]; exact hroom
        · rename_i s hr
          rw [hr] at hroom
          split at hv
          · rename_i hmx
            injection hv with hv; subst hv
            exact ⟨_, key, hmk (q1 hmx).1⟩
          · rename_i hmx
            have hmx : mx.isSome = false := by simpa using hmx
            obtain ⟨e1, e2⟩ := q2 hmx
            split at hv
            · rename_i hss
              obtain ⟨hss, hhm⟩ := hss
              subst hss
              obtain ⟨hle, img, N, hi1, hi2, hs0, hN⟩ := hroom
              split at hv
              · rename_i hml
                injection hv with hv; subst hv
                have : hh - l = 0 := by omega
                refine ⟨_, key, ?_⟩
                rw [this]
                exact V.emptySl _ _
              · rename_i hml
                injection hv with hv; subst hv
                refine ⟨_, key, ?_⟩
                have hlm : l ≤ m := by omega
                have hne : m' ≠ l := by rw [e2]; omega
                rw [if_neg hne]
                refine .ssome _ (hp.add _) ?_
                rcases hN with hN | hN
                · left; rw [e1, e2, hN]
                · right
                  refine ⟨img, s, _, N, by rw [add_block]; exact hi1, hi2, hs0, ?_, ?_, by omega⟩
                  · rw [add_off, e1]
                    have : l * s + (cap - l) * s = cap * s := by rw [← Nat.add_mul]; congr 1; omega
                    omega
                  · rw [add_off, e2]
                    have : l * s + (c' - l) * s = c' * s := by rw [← Nat.add_mul]; congr 1; omega
                    omega
            · cases hv
        · cases hv


/-- What a run of an operation's own text comes to. -/
theorem run_value {s : Sem Value} {v : Value} {w' : World} (hs : s.run P w = .ok v w') : (do pure (Next.value (← s)) : Sem Next).run P w = .ok (.value v) w' := by
  simp [hs]

theorem run_slice_of (t : TypeId) {x' : Value} {lo hi mx : Option Value} (hna : ∀ n e, P.underlying t ≠ some (.array n e)) {d : TypeDesc} (hd : P.underlying t = some d) :
    (Instr.sliceAt t x' lo hi mx).run P w = (Instr.slice t x' lo hi mx).run P w := by
  unfold Instr.sliceAt
  simp only [Sem.run_bind, run_under hd, Result.andThen_ok]
  cases d <;> first | rfl | exact absurd hd (hna _ _)

theorem asBytes_run : ∀ {cs cs' : List Value} {l : List UInt8}, asBytes cs = some l → VL ι cs cs' → ∀ (s : ByteArray) (w : World),
    (forIn (m := Sem) cs' s fun c s => do
      match c with
      | .int .u8 n => pure (ForInStep.yield (s.push (UInt8.ofNat n.toNat)))
      | _ => do
        stuck "bytesToString: byte expected"
        pure (ForInStep.yield s)).run P w = .ok ⟨s.data ++ l.toArray⟩ w
  | [], cs', l, hl, hc, s, w => by
    simp [asBytes] at hl; subst hl; rw [hc.nil_inv]; simp
  | x :: cs, cs', l, hl, hc, s, w => by
    obtain ⟨y, ys, rfl, h1, h2⟩ := hc.cons_inv
    cases x with
    | int k n =>
      cases k <;> simp [asBytes] at hl
      obtain ⟨l', hl', rfl⟩ := hl
      rw [h1.int_inv]
      have := asBytes_run hl' h2 (s.push (UInt8.ofNat n.toNat)) w
      simp only [List.forIn_cons, Sem.run_bind, Sem.run_pure, Result.andThen_ok]
      have e : (s.push (UInt8.ofNat n.toNat)).data ++ l'.toArray = s.data ++ (UInt8.ofNat n.toNat :: l').toArray := by
        cases s; apply Array.ext'; simp [ByteArray.push]
      rw [this, e]
    | _ => simp [asBytes] at hl

end
end Go.Am
