/- The abstract machine, twenty-ninth part: PLANS CHECKED BY BIT MASKS (fast in the kernel); code compiled by hints. -/
import Derived.Test.YtbnfbpiahcjhkaaGreatAm28
namespace Go.Am
open Go

def subM (m l : Nat) : Bool := Nat.beq (Nat.land m l) m

theorem subM_iff {m l : Nat} : subM m l = true ↔ ∀ j, m.testBit j = true → l.testBit j = true := by
  unfold subM
  constructor
  · intro h j hj
    have e : m &&& l = m := Nat.eq_of_beq_eq_true h
    rw [← e, Nat.testBit_and, Bool.and_eq_true] at hj
    exact hj.2
  · intro h
    have e : m &&& l = m := Nat.eq_of_testBit_eq fun j => by
      rw [Nat.testBit_and]
      cases hm : m.testBit j with
      | false => rfl
      | true => simp [h j hm]
    show Nat.beq (m &&& l) m = true
    rw [e]; exact Nat.beq_refl m

def bitM (m j : Nat) : Bool := Nat.beq (Nat.land (Nat.shiftRight m j) 1) 1

theorem bitM_eq (m j : Nat) : bitM m j = m.testBit j := by
  unfold bitM Nat.testBit
  show Nat.beq ((m >>> j) &&& 1) 1 = (1 &&& (m >>> j) != 0)
  rw [Nat.and_comm 1]
  rw [Nat.and_one_is_mod]
  rcases Nat.mod_two_eq_zero_or_one (m >>> j) with e | e <;> rw [e] <;> rfl

def addM (m i : Nat) : Nat := Nat.lor m (Nat.pow 2 i)

theorem addM_bit (m i j : Nat) : (addM m i).testBit j = (m.testBit j || decide (i = j)) := by
  show (m ||| 2 ^ i).testBit j = _
  rw [Nat.testBit_or, Nat.testBit_two_pow]

def maskOf : List Nat → Nat
  | [] => 0
  | j :: l => addM (maskOf l) j

theorem maskOf_bit : ∀ (l : List Nat) (j : Nat), (maskOf l).testBit j = true ↔ j ∈ l
  | [], j => by simp [maskOf]
  | i :: l, j => by
    simp only [maskOf, addM_bit, Bool.or_eq_true, maskOf_bit l j, decide_eq_true_eq, List.mem_cons]
    constructor
    · rintro (h | h)
      · exact .inr h
      · exact .inl h.symm
    · rintro (h | h)
      · exact .inr h.symm
      · exact .inl h

def depM (ops : Array Oper) : List Nat := (List.range ops.size).map fun i => maskOf (dd ops i)

def readyM (n : Nat) (D : List Nat) (m i : Nat) : Bool := Nat.blt i n && !bitM m i && subM (D.getD i 0) m

structure RelM (ops : Array Oper) (l : Array Bool) (m : Nat) : Prop where
  size : l.size = ops.size
  bit : ∀ j, l.getD j false = m.testBit j

theorem readyM_iff {ops : Array Oper} {l : Array Bool} {m : Nat} (r : RelM ops l m) (i : Nat) : readyM ops.size (depM ops) m i = true ↔ i ∈ Region.ready .any ops l := by
  rw [ready_iff]
  unfold readyM
  simp only [Bool.and_eq_true, Bool.not_eq_true', bitM_eq, subM_iff]
  have hlt : Nat.blt i ops.size = true ↔ i < ops.size := by simp [Nat.blt_eq]
  rw [hlt]
  constructor
  · rintro ⟨⟨h1, h2⟩, h3⟩
    refine ⟨unl_to (by rw [r.bit]; exact h2) (by rw [r.size]; exact h1), h1, fun j hj => ?_⟩
    rw [r.bit]
    refine h3 j ?_
    rw [List.getD_eq_getElem?_getD]
    simp only [depM, List.getElem?_map, List.getElem?_range h1, Option.map_some, Option.getD_some]
    exact (maskOf_bit _ _).2 hj
  · rintro ⟨h1, h2, h3⟩
    have h0 := (unl_of h1).1
    rw [r.bit] at h0
    refine ⟨⟨h2, h0⟩, fun j hj => ?_⟩
    rw [List.getD_eq_getElem?_getD] at hj
    simp only [depM, List.getElem?_map, List.getElem?_range h2, Option.map_some, Option.getD_some] at hj
    rw [← r.bit]
    exact h3 j ((maskOf_bit _ _).1 hj)

theorem RelM.add {ops : Array Oper} {l : Array Bool} {m i : Nat} (r : RelM ops l m) (hi : i < ops.size) : RelM ops (l.setIfInBounds i true) (addM m i) where
  size := by rw [Array.size_setIfInBounds]; exact r.size
  bit := fun j => by
    rw [set_getD (by rw [r.size]; exact hi), addM_bit, r.bit]
    by_cases e : j = i
    · subst e; simp
    · rw [if_neg e]
      have : decide (i = j) = false := by simp [Ne.symm e]
      rw [this, Bool.or_false]

def ancM (ops : Array Oper) : Nat → List Nat
  | 0 => []
  | n + 1 => let A := ancM ops n; A ++ [(dd ops n).foldr (fun j m => Nat.lor (addM (A.getD j 0) j) m) 0]

theorem ancM_length (ops : Array Oper) : ∀ n, (ancM ops n).length = n
  | 0 => rfl
  | n + 1 => by simp [ancM, ancM_length ops n]

theorem foldr_bit {A : List Nat} {B : List (List Nat)} (h : ∀ i r, (A.getD i 0).testBit r = true ↔ r ∈ B.getD i []) (r : Nat) : ∀ (l : List Nat), (l.foldr (fun j m => Nat.lor (addM (A.getD j 0) j) m) 0).testBit r = true ↔ r ∈ l.flatMap fun j => j :: B.getD j []
  | [] => by simp
  | j :: l => by
    simp only [List.foldr_cons, List.flatMap_cons, List.mem_append, List.mem_cons]
    show (addM (A.getD j 0) j ||| _).testBit r = true ↔ _
    rw [Nat.testBit_or, Bool.or_eq_true, foldr_bit h r l, addM_bit, Bool.or_eq_true, h j r, decide_eq_true_eq]
    constructor
    · rintro ((h | h) | h)
      · exact .inl (.inr h)
      · exact .inl (.inl h.symm)
      · exact .inr h
    · rintro ((h | h) | h)
      · exact .inl (.inr h.symm)
      · exact .inl (.inl h)
      · exact .inr h

theorem ancM_bit (ops : Array Oper) : ∀ (n i r : Nat), ((ancM ops n).getD i 0).testBit r = true ↔ r ∈ (ancs ops n).getD i []
  | 0, i, r => by simp [ancM, ancs]
  | n + 1, i, r => by
    have ih := ancM_bit ops n
    simp only [ancM, ancs, List.getD_eq_getElem?_getD]
    rcases Nat.lt_or_ge i n with h | h
    · rw [List.getElem?_append_left (by rw [ancM_length]; exact h), List.getElem?_append_left (by rw [ancs_length]; exact h)]
      have := ih i r
      rwa [List.getD_eq_getElem?_getD, List.getD_eq_getElem?_getD] at this
    · rw [List.getElem?_append_right (by rw [ancM_length]; exact h), List.getElem?_append_right (by rw [ancs_length]; exact h), ancM_length, ancs_length]
      by_cases e : i - n = 0
      · rw [e]
        simp only [List.getElem?_cons_zero, Option.getD_some, List.mem_eraseDups]
        have := foldr_bit (A := ancM ops n) (B := ancs ops n) ih r (dd ops n)
        simp only [List.getD_eq_getElem?_getD] at this
        exact this
      · rw [List.getElem?_eq_none (by simp; omega), List.getElem?_eq_none (by simp; omega)]
        simp

def okM (ops : Array Oper) (n : Nat) (D : List Nat) (aos : List AOper) (A : List Nat) : OTree → Bool → Nat → List Nat → Bool
  | .done, b, m, _ => !b && (List.range n).all fun j => !readyM n D m j
  | .light i t, b, m, fl => !b && readyM n D m i && isLight aos i && !inNames (dstOf aos i) (namesOf aos i) && fl.all (fits ops aos i) && okM ops n D aos A t false (addM m i) (i :: fl)
  | .alt i chk t rest, b, m, fl =>
    let fl' := fl.filter fun r => !bitM (A.getD i 0) r
    readyM n D m i && (aos[i]?).isSome && fl.all (fun r => !inNames (dstOf aos r) (namesOf aos i) || (dd ops i).contains r) &&
      fl'.all (fun r => !inNames (dstOf aos i) (namesOf aos r) && !sameDst (dstOf aos i) (dstOf aos r)) &&
      fl'.all (fun r => !isLooks aos r || (chk.contains r && (dstOf aos r).isSome)) &&
      okM ops n D aos A t false (addM m i) fl' && okM ops n D aos A rest true m fl && (match rest with | .alt .. | .stop => true | _ => false) &&
      (b || (List.range n).all fun j => !readyM n D m j || (i :: rest.heads).contains j)
  | .stop, b, _, _ => b

theorem okM_ok {ops : Array Oper} {aos : List AOper} : ∀ (t : OTree) (b : Bool) (m : Nat) (l : Array Bool) (fl : List Nat), RelM ops l m → okM ops ops.size (depM ops) aos (ancM ops ops.size) t b m fl = true → okT ops aos (ancs ops ops.size) t b l fl = true
  | .done, b, m, l, fl, r, h => by
    simp only [okM, Bool.and_eq_true] at h
    simp only [okT, Bool.and_eq_true]
    refine ⟨h.1, ?_⟩
    rw [List.isEmpty_iff, List.eq_nil_iff_forall_not_mem]
    intro j hj
    have hlt := (ready_iff.1 hj).2.1
    have := List.all_eq_true.1 h.2 j (List.mem_range.2 hlt)
    rw [(readyM_iff r j).2 hj] at this
    cases this
  | .stop, b, m, l, fl, r, h => h
  | .light i t, b, m, l, fl, r, h => by
    simp only [okM, Bool.and_eq_true] at h
    simp only [okT, Bool.and_eq_true]
    obtain ⟨⟨⟨⟨⟨h1, h2⟩, h3⟩, h4⟩, h5⟩, h6⟩ := h
    have hi := (readyM_iff r i).1 h2
    exact ⟨⟨⟨⟨⟨h1, List.contains_iff_mem.2 hi⟩, h3⟩, h4⟩, h5⟩, okM_ok t false _ _ _ (r.add (ready_iff.1 hi).2.1) h6⟩
  | .alt i chk t rest, b, m, l, fl, r, h => by
    simp only [okM, Bool.and_eq_true] at h
    simp only [okT, Bool.and_eq_true]
    obtain ⟨⟨⟨⟨⟨⟨⟨⟨h1, h2⟩, h3⟩, h4⟩, h5⟩, h6⟩, h7⟩, h8⟩, h9⟩ := h
    have hi := (readyM_iff r i).1 h1
    have hfl : (fl.filter fun r => !((ancs ops ops.size).getD i []).contains r) = fl.filter fun r => !bitM ((ancM ops ops.size).getD i 0) r := by
      congr 1
      funext x
      congr 1
      rw [bitM_eq, Bool.eq_iff_iff, ancM_bit, List.contains_iff_mem]
    rw [hfl]
    refine ⟨⟨⟨⟨⟨⟨⟨⟨List.contains_iff_mem.2 hi, h2⟩, h3⟩, h4⟩, h5⟩, okM_ok t false _ _ _ (r.add (ready_iff.1 hi).2.1) h6⟩, okM_ok rest true _ _ _ r h7⟩, h8⟩, ?_⟩
    rw [Bool.or_eq_true] at h9 ⊢
    refine h9.imp id fun h9 => ?_
    rw [List.all_eq_true] at h9 ⊢
    intro j hj
    have hlt := (ready_iff.1 hj).2.1
    have := h9 j (List.mem_range.2 hlt)
    rw [(readyM_iff r j).2 hj] at this
    simpa using this

/-- Code compiled by a hint: the plans and the loops' live variables are the hint's, all else is the code's. -/
def compH (P : Program) : Code → ACode → ACode
  | .skip, _ => .skip
  | .region _ ops draw, h => match compOps P ops with
    | none => .stuck
    | some aos => if draw then (match h with
      | .draw _ t => if okM ops ops.size (depM ops) aos (ancM ops ops.size) t false 0 [] then .draw aos t else .stuck
      | _ => .stuck) else .ops aos
  | .seq a b, h => match h with
    | .seq x y => .seq (compH P a x) (compH P b y)
    | _ => .stuck
  | .cond c a b, h => match compO c, h with
    | some c, .cond _ x y => .cond c (compH P a x) (compH P b y)
    | _, _ => .stuck
  | .block id b, h => match h with
    | .block _ x => .block id (compH P b x)
    | _ => .stuck
  | .loop b, h => match h with
    | .loop l x => .loop l (compH P b x)
    | _ => .stuck
  | .exit id, _ => .exit id
  | .ret, _ => .ret
  | _, _ => .stuck

theorem compR_stuck {P : Program} (c : Code) : CompR P c .stuck := by cases c <;> simp [CompR]

theorem relM_init (ops : Array Oper) : RelM ops (Array.replicate ops.size false) 0 where
  size := by simp
  bit := fun j => by
    rw [Nat.zero_testBit, Array.getD_eq_getD_getElem?]
    rcases Nat.lt_or_ge j ops.size with h | h
    · simp [h]
    · rw [Array.getElem?_eq_none (by simpa using h)]; rfl

theorem compH_ok {P : Program} : ∀ (c : Code) (ac : ACode), compH P c ac = ac → CompR P c ac := by
  intro c
  induction c with
  | skip => intro ac h; simp only [compH] at h; subst h; trivial
  | exit id => intro ac h; simp only [compH] at h; subst h; simp [CompR]
  | ret => intro ac h; simp only [compH] at h; subst h; trivial
  | region id ops draw =>
    intro ac h
    simp only [compH] at h
    split at h
    · subst h; exact compR_stuck _
    · rename_i aos hc
      split at h
      · rename_i hd
        split at h
        · rename_i aos' t
          split at h
          · rename_i hok
            injection h with h1 h2
            subst h1
            exact ⟨hd, hc, okM_ok t false 0 _ [] (relM_init ops) hok⟩
          · cases h
        · subst h; exact compR_stuck _
      · rename_i hd
        subst h
        exact ⟨by simpa using hd, hc⟩
  | seq a b iha ihb =>
    intro ac h
    simp only [compH] at h
    split at h
    · injection h with h1 h2
      exact ⟨iha _ h1, ihb _ h2⟩
    · subst h; exact compR_stuck _
  | cond c a b iha ihb =>
    intro ac h
    simp only [compH] at h
    split at h
    · rename_i hc
      injection h with h0 h1 h2
      subst h0
      exact ⟨hc, iha _ h1, ihb _ h2⟩
    · subst h; exact compR_stuck _
  | block id b ih =>
    intro ac h
    simp only [compH] at h
    split at h
    · injection h with h0 h1
      exact ⟨h0, ih _ h1⟩
    · subst h; exact compR_stuck _
  | loop b ih =>
    intro ac h
    simp only [compH] at h
    split at h
    · injection h with h0 h1
      exact ih _ h1
    · subst h; exact compR_stuck _
  | rangeFunc f params assign body _ _ => intro ac h; simp only [compH] at h; subst h; exact compR_stuck _
  | scope b _ => intro ac h; simp only [compH] at h; subst h; exact compR_stuck _
  | label l => intro ac h; simp only [compH] at h; subst h; exact compR_stuck _
  | goto l => intro ac h; simp only [compH] at h; subst h; exact compR_stuck _
  | refuse why => intro ac h; simp only [compH] at h; subst h; exact compR_stuck _

theorem FOk.of {P : Program} {f : FuncId} {F : AFun} {fn : Func} (h1 : P.funcs[f]? = some fn) (h2 : (fn.body.map fun c => compH P c F.body) = some F.body) (h3 : (fn.name == "runtime.NumGoroutine") = false) (h4 : fn.ntmps = F.ntmps)
    (h5 : fn.results.toList.mapM (compRes P) = some F.res) : FOk P f F := by
  cases hb : fn.body with
  | none => rw [hb] at h2; cases h2
  | some c =>
    rw [hb] at h2
    simp only [Option.map_some, Option.some.injEq] at h2
    exact ⟨fn, c, h1, hb, h3, h4, h5, compH_ok c _ h2⟩

end Go.Am
