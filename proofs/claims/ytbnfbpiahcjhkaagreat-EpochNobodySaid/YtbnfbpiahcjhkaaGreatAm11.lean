/- The abstract machine, eleventh part: THE LIGHT OPERATIONS ARE SOUND. -/
import Derived.Test.YtbnfbpiahcjhkaaGreatAm10
namespace Go.Am
open Go

section
variable {P : Program} {ι : Inj} {h : AHeap} {w : World} {env : List Value} {a : Act}

def LSound (P : Program) (ι : Inj) (w : World) (v : Value) (s : Sem Next) : Prop := ∃ v', s.run P w = .ok (.value v') w ∧ V ι v v'

theorem LSound.of {v : Value} {s : Sem Value} {v' : Value} (hs : s.run P w = .ok v' w) (hV : V ι v v') : LSound P ι w v (do pure (Next.value (← s))) := ⟨v', run_value hs, hV⟩

theorem bin_light (hE : ERel ι env a) {op : BinOp} {t yt : TypeId} {x y : Operand} {ao : AOp} (hc : compBin P op t x y = some ao) {v : Value} (hv : lightVal ao env h = some v) :
    ∃ v', (do eqGuard op t x y (a.eval x) (a.eval y); binOp op t (a.eval x) (a.eval y) : Sem Value).run P w = .ok v' w ∧ V ι v v' := by
  have _ := yt
  unfold compBin at hc
  simp only [Option.bind_eq_bind] at hc
  cases hx : compO x with
  | none => rw [hx] at hc; simp at hc
  | some x1 =>
  cases hy : compO y with
  | none => rw [hx, hy] at hc; simp at hc
  | some y1 =>
  rw [hx, hy] at hc
  simp only [Option.bind_some] at hc
  have hX := ev_rel hE hx
  have hY := ev_rel hE hy
  have plain : abin op (x1.ev env) (y1.ev env) = some v → ∃ v', (do eqGuard op t x y (a.eval x) (a.eval y); binOp op t (a.eval x) (a.eval y) : Sem Value).run P w = .ok v' w ∧ V ι v v' := fun hv => by
    obtain ⟨e1, e2, hV⟩ := abin_plain hv hX hY
    exact ⟨v, by rw [e1, e2]; exact abin_sound hv x y w, hV⟩
  have eqn : ∀ b : Bool, (op = .eql ∨ op = .neq) → (eqGuard op t x y (a.eval x) (a.eval y)).run P w = .ok () w → (∀ d, (Op.equalIn (d + 1 + 1) t (a.eval x) (a.eval y)).run P w = .ok b w) →
      (∀ k n, ¬ (a.eval x = .int k n)) → (∀ s, a.eval x ≠ .string s) → (∀ k n, a.eval x ≠ .float k n) → (∀ k n m, a.eval x ≠ .complex k n m) →
      (do eqGuard op t x y (a.eval x) (a.eval y); binOp op t (a.eval x) (a.eval y) : Sem Value).run P w = .ok (.bool (if op = .neq then !b else b)) w := fun b ho hg he n1 n2 n3 n4 => by
    have he' : (Op.equal t (a.eval x) (a.eval y)).run P w = .ok b w := he 9998
    simp only [Sem.run_bind, hg, Result.andThen_ok]
    rcases ho with rfl | rfl
    · generalize a.eval x = u at *
      generalize a.eval y = u' at *
      cases u <;> first | (exact absurd rfl (n1 _ _)) | (exact absurd rfl (n2 _)) | (exact absurd rfl (n3 _ _)) | (exact absurd rfl (n4 _ _ _)) | (cases u' <;> simp [binOp, he'])
    · generalize a.eval x = u at *
      generalize a.eval y = u' at *
      cases u <;> first | (exact absurd rfl (n1 _ _)) | (exact absurd rfl (n2 _)) | (exact absurd rfl (n3 _ _)) | (exact absurd rfl (n4 _ _ _)) | (cases u' <;> simp [binOp, he'])
  split at hc
  · injection hc with hc; subst hc; exact plain hv
  · injection hc with hc; subst hc; exact plain hv
  · rename_i hu
    -- bools
    have hb : ∀ neg : Bool, (if neg then op = .neq else op = .eql) → lightVal (.eqB neg x1 y1) env h = some v → ∃ v', (do eqGuard op t x y (a.eval x) (a.eval y); binOp op t (a.eval x) (a.eval y) : Sem Value).run P w = .ok v' w ∧ V ι v v' := fun neg ho hv => by
      simp only [lightVal] at hv
      split at hv
      · rename_i p q h1 h2
        rw [h1] at hX; rw [h2] at hY
        injection hv with hv; subst hv
        have e1 := hX.bool_inv; have e2 := hY.bool_inv
        refine ⟨_, eqn (p == q) (by cases neg <;> simp at ho <;> simp [ho]) ?_ (fun d => ?_) (by simp [e1]) (by simp [e1]) (by simp [e1]) (by simp [e1]), ?_⟩
        · rw [e1, e2]; exact run_eqGuard_other op t x y (by simp) (by simp) w
        · rw [e1, e2]; simp [Op.equalIn, run_under hu]
        · cases neg <;> simp at ho <;> subst ho <;> simp <;> exact .bool _
      · cases hv
    split at hc
    · injection hc with hc; subst hc; exact hb false (by simp) hv
    · injection hc with hc; subst hc; exact hb true (by simp) hv
    · cases hc
  iterate 4
    · rename_i hu
      have hb : ∀ (k : NK) (neg : Bool), (∀ dd, P.underlying t = some dd → k.fits dd = true) → (if neg then op = .neq else op = .eql) → lightVal (.eqP k neg x1 y1) env h = some v → ∃ v', (do eqGuard op t x y (a.eval x) (a.eval y); binOp op t (a.eval x) (a.eval y) : Sem Value).run P w = .ok v' w ∧ V ι v v' := fun k neg hk ho hv => by
        simp only [lightVal, Option.map_eq_some_iff] at hv
        obtain ⟨b, hb, rfl⟩ := hv
        have hne : (∀ k n, ¬ (a.eval x = .int k n)) ∧ (∀ s, a.eval x ≠ .string s) ∧ (∀ k n, a.eval x ≠ .float k n) ∧ (∀ k n m, a.eval x ≠ .complex k n m) ∧ a.eval x ≠ .nilIface ∧ ∀ c, a.eval x ≠ .agg c := by
          generalize x1.ev env = u at *
          generalize y1.ev env = u2 at *
          generalize a.eval x = u' at *
          cases hX <;> first | (simp; done) | (cases k <;> cases u2 <;> simp [nilEq, junk] at hb)
        refine ⟨_, eqn b (by cases neg <;> simp at ho <;> simp [ho]) (run_eqGuard_other op t x y (fun c => hne.2.2.2.2.1 c.1) (fun c d e => hne.2.2.2.2.2 c e.1) w) (fun d => nilEq_sound hb hX hY hu (hk _ hu) _ w) hne.1 hne.2.1 hne.2.2.1 hne.2.2.2.1, ?_⟩
        cases neg <;> simp at ho <;> subst ho <;> simp <;> exact .bool _
      split at hc
      · injection hc with hc; subst hc; exact hb _ false (fun dd hd => by rw [hu] at hd; injection hd with hd; subst hd; rfl) (by simp) hv
      · injection hc with hc; subst hc; exact hb _ true (fun dd hd => by rw [hu] at hd; injection hd with hd; subst hd; rfl) (by simp) hv
      · cases hc
  · rename_i ms hu
    have hb : ∀ (neg : Bool), (if neg then op = .neq else op = .eql) → lightVal (.eqI neg (isC x || isC y) x1 y1) env h = some v → ∃ v', (do eqGuard op t x y (a.eval x) (a.eval y); binOp op t (a.eval x) (a.eval y) : Sem Value).run P w = .ok v' w ∧ V ι v v' := fun neg ho hv => by
      simp only [lightVal, Option.map_eq_some_iff] at hv
      obtain ⟨b, hb, rfl⟩ := hv
      have hs := ifaceEq_sound (P := P) hb hX hY hu
      have hne : (∀ k n, ¬ (a.eval x = .int k n)) ∧ (∀ s, a.eval x ≠ .string s) ∧ (∀ k n, a.eval x ≠ .float k n) ∧ (∀ k n m, a.eval x ≠ .complex k n m) := by
        generalize x1.ev env = u at *
        generalize y1.ev env = u2 at *
        generalize a.eval x = u' at *
        cases hX <;> first | (simp; done) | (cases u2 <;> simp [ifaceEq, junk] at hb)
      refine ⟨_, eqn b (by cases neg <;> simp at ho <;> simp [ho]) ?_ (fun d => (hs _ w).1) hne.1 hne.2.1 hne.2.2.1 hne.2.2.2, ?_⟩
      · by_cases hn : a.eval x = .nilIface ∧ a.eval y = .nilIface
        · rw [hn.1, hn.2]; exact run_eqGuard_nil op t ((hs 0 w).2.1 hn) w
        · exact run_eqGuard_other op t x y hn (hs 0 w).2.2 w
      · cases neg <;> simp at ho <;> subst ho <;> simp <;> exact .bool _
    split at hc
    · injection hc with hc; subst hc; exact hb false (by simp) hv
    · injection hc with hc; subst hc; exact hb true (by simp) hv
    · cases hc
  iterate 2
    · rename_i hu
      have hb : ∀ (ks : List PK) (neg : Bool), flatT P t = some ks → (if neg then op = .neq else op = .eql) → lightVal (.eqS neg ks x1 y1) env h = some v → ∃ v', (do eqGuard op t x y (a.eval x) (a.eval y); binOp op t (a.eval x) (a.eval y) : Sem Value).run P w = .ok v' w ∧ V ι v v' := fun ks neg hk ho hv => by
        simp only [lightVal] at hv
        split at hv
        · rename_i p q h1 h2
          simp only [Option.map_eq_some_iff] at hv
          obtain ⟨b, hb, rfl⟩ := hv
          rw [h1] at hX; rw [h2] at hY
          obtain ⟨p', e1, hp⟩ := hX.agg_inv
          obtain ⟨q', e2, hq⟩ := hY.agg_inv
          obtain ⟨e3, e4⟩ := primsEq_inv hb hp.toList hq.toList
          rw [Array.toList_inj] at e3 e4
          subst e3 e4
          refine ⟨_, eqn b (by cases neg <;> simp at ho <;> simp [ho]) ?_ (fun d => ?_) (by simp [e1]) (by simp [e1]) (by simp [e1]) (by simp [e1]), ?_⟩
          · rw [e1, e2]; exact run_eqGuard_agg op x y (flatT_guard hk) w
          · rw [e1, e2]; exact run_equalIn_flat hk hb _ w
          · cases neg <;> simp at ho <;> subst ho <;> simp <;> exact .bool _
        · cases hv
      split at hc
      · simp only [Option.map_eq_some_iff] at hc; obtain ⟨ks, hk, rfl⟩ := hc; exact hb ks false hk (by simp) hv
      · simp only [Option.map_eq_some_iff] at hc; obtain ⟨ks, hk, rfl⟩ := hc; exact hb ks true hk (by simp) hv
      · cases hc
  · cases hc

end
end Go.Am
