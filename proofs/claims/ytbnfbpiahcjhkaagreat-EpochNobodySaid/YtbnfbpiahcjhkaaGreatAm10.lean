/- The abstract machine, tenth part: operators. -/
import Derived.Test.YtbnfbpiahcjhkaaGreatAm9
namespace Go.Am
open Go

section
variable {P : Program} {ι : Inj} {h : AHeap} {w : World} {env : List Value} {a : Act}

theorem run_eqGuard_other (op : BinOp) (t : TypeId) (x y : Operand) {u v : Value} (h1 : ¬ (u = .nilIface ∧ v = .nilIface)) (h2 : ∀ c d, ¬ (u = .agg c ∧ v = .agg d)) (w : World) :
    (eqGuard op t x y u v).run P w = .ok () w := by
  unfold eqGuard
  cases op <;> simp only [Bool.not_false, Bool.not_true, Bool.false_eq_true, if_true, if_false, Sem.run_pure] <;>
    (split
     · exact absurd ⟨rfl, rfl⟩ h1
     · exact absurd ⟨rfl, rfl⟩ (h2 _ _)
     · rfl)

theorem run_eqGuard_nil (op : BinOp) (t : TypeId) {x y : Operand} (hc : (isC x || isC y) = true) (w : World) : (eqGuard op t x y .nilIface .nilIface).run P w = .ok () w := by
  unfold eqGuard
  cases op <;> simp only [Bool.not_false, Bool.not_true, Bool.false_eq_true, if_true, if_false, Sem.run_pure] <;>
    (cases x <;> cases y <;> simp [isC] at hc ⊢)

theorem run_eqGuard_agg (op : BinOp) {t : TypeId} (x y : Operand) {c d : Array Value} (ht : P.eqGuardType P.depth t = false) (w : World) : (eqGuard op t x y (.agg c) (.agg d)).run P w = .ok () w := by
  unfold eqGuard
  cases op <;> simp [ht]

theorem abin_sound {op : BinOp} {t : TypeId} {u v r : Value} (hr : abin op u v = some r) (x y : Operand) (w : World) :
    (do eqGuard op t x y u v; binOp op t u v : Sem Value).run P w = .ok r w := by
  cases u with
  | int k n =>
    cases v with
    | int k' m =>
      simp only [Sem.run_bind, run_eqGuard_other (P := P) op t x y (u := .int k n) (v := .int k' m) (by simp) (by simp), Result.andThen_ok]
      cases op <;> simp only [abin] at hr <;> simp only [binOp]
      case shl => split at hr; cases hr; rename_i hb; injection hr with hr; subst hr; simp [Op.shift, hb]
      case shr => split at hr; cases hr; rename_i hb; injection hr with hr; subst hr; simp [Op.shift, hb]
      all_goals
        split at hr
        · cases hr
        · rename_i hk
          simp only [ne_eq, Decidable.not_not] at hk
          rw [if_neg (by simpa using hk)]
          first
            | (split at hr
               · cases hr
               · rename_i hb
                 injection hr with hr; subst hr
                 simp [Op.intDiv, hb])
            | (injection hr with hr; subst hr; first | rfl | (simp [Op.intArith]; done) | (simp [Op.intBits]; done) | (simp [Op.intCmp]; done))
    | _ => cases op <;> simp [abin] at hr
  | string n =>
    cases v with
    | string m =>
      simp only [Sem.run_bind, run_eqGuard_other (P := P) op t x y (u := .string n) (v := .string m) (by simp) (by simp), Result.andThen_ok]
      cases op <;> simp only [abin] at hr <;> simp only [binOp]
      case add => split at hr; cases hr; rename_i hb; injection hr with hr; subst hr; simp only [Op.stringOp]; rw [if_neg hb]; rfl
      all_goals first | (cases hr; done) | (injection hr with hr; subst hr; rfl)
    | _ => cases op <;> simp [abin] at hr
  | _ => cases op <;> simp [abin] at hr

/-- The operands of abin are plain. -/
theorem abin_plain {op : BinOp} {u v r : Value} (hr : abin op u v = some r) {u' v' : Value} (hu : V ι u u') (hv : V ι v v') : u' = u ∧ v' = v ∧ V ι r r := by
  cases u with
  | int k n =>
    cases v with
    | int k' m =>
      refine ⟨hu.int_inv, hv.int_inv, ?_⟩
      cases op <;> simp only [abin] at hr <;> (repeat' split at hr) <;> first | (cases hr; done) | (injection hr with hr; subst hr; constructor)
    | _ => cases op <;> simp [abin] at hr
  | string n =>
    cases v with
    | string m =>
      refine ⟨hu.string_inv, hv.string_inv, ?_⟩
      cases op <;> simp only [abin] at hr <;> (repeat' split at hr) <;> first | (cases hr; done) | (injection hr with hr; subst hr; constructor)
    | _ => cases op <;> simp [abin] at hr
  | _ => cases op <;> simp [abin] at hr

theorem aun_sound {op : UnOp} {u r : Value} (hr : aun op u = some r) {u' : Value} (hu : V ι u u') (w : World) : (Op.unary op u').run P w = .ok r w ∧ V ι r r := by
  cases u with
  | int k n =>
    rw [hu.int_inv]
    cases op <;> simp only [aun] at hr <;> first | (cases hr; done) | (injection hr with hr; subst hr; exact ⟨rfl, .int _ _⟩)
  | bool b =>
    rw [hu.bool_inv]
    cases op <;> simp only [aun] at hr <;> first | (cases hr; done) | (injection hr with hr; subst hr; exact ⟨rfl, .bool _⟩)
  | _ => cases op <;> simp [aun] at hr

def NK.fits : NK → TypeDesc → Bool
  | .ptr, .pointer _ => true
  | .slice, .slice _ => true
  | .map, .map _ _ => true
  | .func, .func _ _ _ => true
  | _, _ => false

theorem nilEq_sound {t : TypeId} {k : NK} {u v : Value} {b : Bool} (hb : nilEq k u v = some b) {u' v' : Value} (hu : V ι u u') (hv : V ι v v') {dd : TypeDesc} (hd : P.underlying t = some dd) (ht : k.fits dd = true) (d : Nat) (w : World) :
    (Op.equalIn (d + 1) t u' v').run P w = .ok b w := by
  have hn : ∀ {u : Value} {v' : Value}, V ι u v' → (∀ c, u ≠ .agg c) → (u ≠ junk) → (∀ c, v' ≠ .agg c) ∧ (u ≠ .nilIface → v' ≠ .nilIface) := fun h h1 h2 => by
    cases h <;> first | (exact absurd rfl h2) | (exact absurd rfl (h1 _)) | simp
  cases k <;> cases dd <;> simp [NK.fits] at ht <;> cases u <;> simp [nilEq] at hb <;> cases v <;> (try simp [nilEq] at hb)
  · rename_i e p q
    cases p with
    | none =>
      rw [hu.pnone_inv]
      cases q with
      | none => rw [hv.pnone_inv]; simp [nilEq] at hb; subst hb; simp [Op.equalIn, run_under hd]
      | some q => obtain ⟨q', rfl, _⟩ := hv.psome_inv; simp [nilEq] at hb; subst hb; simp [Op.equalIn, run_under hd]
    | some p =>
      obtain ⟨p', rfl, _⟩ := hu.psome_inv
      cases q with
      | none => rw [hv.pnone_inv]; simp [nilEq] at hb; subst hb; simp [Op.equalIn, run_under hd]
      | some q => simp [nilEq] at hb
  · rename_i e p l c q l2 c2
    obtain ⟨p', c', rfl, hp⟩ := hu.slice_inv
    obtain ⟨q', c2', rfl, hq⟩ := hv.slice_inv
    cases p with
    | none =>
      cases p' with
      | some _ => simp at hp
      | none =>
        simp [nilEq] at hb; subst hb
        cases q <;> cases q' <;> simp at hq <;> simp [Op.equalIn, run_under hd]
    | some p =>
      cases p' with
      | none => simp at hp
      | some p' =>
        cases q with
        | none => cases q' <;> simp at hq; simp [nilEq] at hb; subst hb; simp [Op.equalIn, run_under hd]
        | some q => simp [nilEq] at hb
  · rename_i k e p q
    cases p with
    | none =>
      rw [hu.mnone_inv]
      cases q with
      | none => rw [hv.mnone_inv]; simp [nilEq] at hb; subst hb; simp [Op.equalIn, run_under hd]
      | some q => obtain ⟨q', rfl, _⟩ := hv.msome_inv; simp [nilEq] at hb; subst hb; simp [Op.equalIn, run_under hd]
    | some p =>
      obtain ⟨p', rfl, _⟩ := hu.msome_inv
      cases q with
      | none => rw [hv.mnone_inv]; simp [nilEq] at hb; subst hb; simp [Op.equalIn, run_under hd]
      | some q => simp [nilEq] at hb
  · obtain ⟨f', c', rfl, _⟩ := hu.func_inv
    rw [hv.nilFunc_inv]; subst hb; simp [Op.equalIn, run_under hd]
  · rw [hu.nilFunc_inv]
    obtain ⟨f', c', rfl, _⟩ := hv.func_inv
    subst hb; simp [Op.equalIn, run_under hd]
  · rw [hu.nilFunc_inv, hv.nilFunc_inv]; subst hb; simp [Op.equalIn, run_under hd]

theorem ifaceEq_sound {t : TypeId} {con : Bool} {u v : Value} {b : Bool} (hb : ifaceEq con u v = some b) {u' v' : Value} (hu : V ι u u') (hv : V ι v v') {ms : Array (String × TypeId)} (hd : P.underlying t = some (.interface ms)) (d : Nat) (w : World) :
    (Op.equalIn (d + 1) t u' v').run P w = .ok b w ∧ ((u' = .nilIface ∧ v' = .nilIface) → con = true) ∧ ∀ c e, ¬ (u' = .agg c ∧ v' = .agg e) := by
  cases u <;> simp [ifaceEq] at hb <;> cases v <;> simp [ifaceEq] at hb
  · rename_i t1 x t2 y
    obtain ⟨x', rfl, _⟩ := hu.iface_inv
    obtain ⟨y', rfl, _⟩ := hv.iface_inv
    obtain ⟨hne, rfl⟩ := hb
    exact ⟨by simp [Op.equalIn, run_under hd, hne], by simp, by simp⟩
  · obtain ⟨x', rfl, _⟩ := hu.iface_inv
    rw [hv.nilIface_inv]; subst hb
    exact ⟨by simp [Op.equalIn, run_under hd], by simp, by simp⟩
  · rw [hu.nilIface_inv]
    obtain ⟨x', rfl, _⟩ := hv.iface_inv
    subst hb
    exact ⟨by simp [Op.equalIn, run_under hd], by simp, by simp⟩
  · rw [hu.nilIface_inv, hv.nilIface_inv]
    obtain ⟨h1, rfl⟩ := hb
    exact ⟨by simp [Op.equalIn, run_under hd], fun _ => h1, by simp⟩

end
end Go.Am
