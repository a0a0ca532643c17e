/- The abstract machine, twenty-second part: A REGION THAT DRAWS ITS ORDER: the plan serves every order. -/
import Derived.Test.YtbnfbpiahcjhkaaGreatAm21
namespace Go.Am
open Go

section
variable {P : Program} {ops : Array Oper} {aos : List AOper} {K : List Value → AHeap → Prop} {X : Value → AHeap → Prop}

theorem chksOk_mem : ∀ {chk : List Nat} {env : List Value} {h : AHeap}, chksOk aos chk env h → ∀ r ∈ chk, chkOk aos r env h
  | [], _, _, _, _, hr => by cases hr
  | r :: rs, env, h, hc, x, hx => by
    rcases List.mem_cons.1 hx with rfl | hx
    · exact hc.1
    · exact chksOk_mem hc.2 x hx

/-- The alternative that takes this operation. -/
theorem find_alt {A : List (List Nat)} : ∀ (t : OTree) (b : Bool) (lstar : Array Bool) (fl : List Nat) (envs : List Value) (h : AHeap) (i : Nat), okT ops aos A t b lstar fl = true → wtree P aos K X t envs h → i ∈ t.heads →
    ∃ chk t', (Region.ready .any ops lstar).contains i = true ∧ fl.all (fun r => !inNames (dstOf aos r) (namesOf aos i) || (dd ops i).contains r) = true ∧
      (fl.filter fun r => !(A.getD i []).contains r).all (fun r => !inNames (dstOf aos i) (namesOf aos r) && !sameDst (dstOf aos i) (dstOf aos r)) = true ∧
      (fl.filter fun r => !(A.getD i []).contains r).all (fun r => !isLooks aos r || (chk.contains r && (dstOf aos r).isSome)) = true ∧
      okT ops aos A t' false (lstar.setIfInBounds i true) (fl.filter fun r => !(A.getD i []).contains r) = true ∧
      ∃ o, aos[i]? = some o ∧ wopA P o (fun env' h' => chksOk aos chk env' h' ∧ wtree P aos K X t' env' h') X envs h
  | .done, b, lstar, fl, envs, h, i, hk, hw, hi => by simp [OTree.heads] at hi
  | .light j t, b, lstar, fl, envs, h, i, hk, hw, hi => by simp [OTree.heads] at hi
  | .stop, b, lstar, fl, envs, h, i, hk, hw, hi => by simp [OTree.heads] at hi
  | .alt j chk t rest, b, lstar, fl, envs, h, i, hk, hw, hi => by
    simp only [okT, Bool.and_eq_true] at hk
    obtain ⟨⟨⟨⟨⟨⟨⟨⟨h1, h2⟩, h3⟩, h4⟩, h5⟩, h6⟩, h7⟩, h8⟩, h9⟩ := hk
    simp only [wtree] at hw
    simp only [OTree.heads, List.mem_cons] at hi
    by_cases e : i = j
    · subst e
      refine ⟨chk, t, h1, h3, h4, h5, h6, ?_⟩
      cases ho : aos[i]? with
      | none => rw [ho] at h2; cases h2
      | some o => rw [ho] at hw; exact ⟨o, rfl, hw.1⟩
    · exact find_alt rest true lstar fl envs h i h7 hw.2 (hi.resolve_left e)

theorem count_set : ∀ (l : List Bool) (i : Nat), l[i]? = some false → (l.set i true).count false + 1 = l.count false
  | [], i, h => by simp at h
  | b :: l, 0, h => by simp at h; subst h; simp
  | b :: l, i + 1, h => by
    have := count_set l i (by simpa using h)
    cases b <;> simp [List.count_cons] <;> omega

theorem count_pos : ∀ (l : List Bool) (i : Nat), l[i]? = some false → 0 < l.count false
  | [], i, h => by simp at h
  | b :: l, 0, h => by simp at h; subst h; simp
  | b :: l, i + 1, h => by
    have := count_pos l i (by simpa using h)
    rw [List.count_cons]; omega

/-- The earliest of what is still to come may come now. -/
theorem earliest : ∀ (fl : List Nat) (p : Nat → Bool), (∃ i ∈ fl, p i = true) → fl.Pairwise (fun x y => x ∉ dd ops y) → (∀ i ∈ fl, i ∉ dd ops i) → ∃ y ∈ fl, p y = true ∧ ∀ j ∈ fl, p j = true → j ∉ dd ops y
  | [], _, ⟨_, h, _⟩, _, _ => by cases h
  | x :: fl, p, hex, hp, hs => by
    obtain ⟨hx, hp'⟩ := List.pairwise_cons.1 hp
    by_cases hin : ∃ i ∈ fl, p i = true
    · obtain ⟨y, hy, hpy, hall⟩ := earliest fl p hin hp' (fun i hi => hs i (List.mem_cons_of_mem _ hi))
      refine ⟨y, List.mem_cons_of_mem _ hy, hpy, fun j hj hpj => ?_⟩
      rcases List.mem_cons.1 hj with rfl | hj
      · exact hx y hy
      · exact hall j hj hpj
    · obtain ⟨i, hi, hpi⟩ := hex
      have : i = x := by
        rcases List.mem_cons.1 hi with h | h
        · exact h
        · exact absurd ⟨i, h, hpi⟩ hin
      subst this
      refine ⟨i, hi, hpi, fun j hj hpj => ?_⟩
      rcases List.mem_cons.1 hj with rfl | hj
      · exact hs _ hi
      · exact absurd ⟨j, hj, hpj⟩ hin

/-- Nothing may come any more: all has come. -/
theorem Inv.over {listed lstar : Array Bool} {fl : List Nat} {env envs : List Value} {h : AHeap} (I : Inv ops aos listed env lstar fl envs h) (hr : Region.ready .any ops listed = []) : ∀ i, lstar.getD i false = true → listed.getD i false = true := by
  intro i hi
  cases hq : listed.getD i false with
  | true => rfl
  | false =>
    exfalso
    obtain ⟨y, hy, hpy, hall⟩ := earliest (ops := ops) fl (fun i => !listed.getD i false) ⟨i, I.rest i hi hq, by simp [hq]⟩ I.ord (fun i hi => (I.fl_in i hi).2.2.2)
    simp only [Bool.not_eq_true'] at hpy hall
    have hlt : y < ops.size := by
      rcases Nat.lt_or_ge y lstar.size with h | h
      · rw [← I.sizes]; exact h
      · have := (I.fl_in y hy).1; simp [Array.getElem?_eq_none h] at this
    have : y ∈ Region.ready .any ops listed := by
      refine ready_iff.2 ⟨unl_to hpy (by rw [I.size]; exact hlt), hlt, fun j hj => ?_⟩
      have h1 := I.downs y (I.fl_in y hy).1 j hj
      cases hq2 : listed.getD j false with
      | true => rfl
      | false => exact absurd hj (hall j (I.rest j h1 hq2) hq2)
    rw [hr] at this; cases this

/-- Where nothing may come any more. -/
theorem over_K {A : List (List Nat)} {t : OTree} {listed lstar : Array Bool} {fl : List Nat} {env envs : List Value} {h : AHeap} (hk : okT ops aos A t false lstar fl = true) (hw : wtree P aos K X t envs h) (I : Inv ops aos listed env lstar fl envs h)
    (hr : Region.ready .any ops listed = []) : K env h := by
  obtain ⟨t', lstar', fl', envs', hnl, hk', hw', I'⟩ := saturate t listed lstar fl env envs h hk hw I
  have hov := I'.over hr
  cases t' with
  | light i s => exact absurd rfl (hnl i s)
  | stop => simp [okT] at hk'
  | done =>
    have : env = envs' := by
      apply List.ext_getElem I'.len
      intro i h1 h2
      have := I'.agree i fun r hrf hu _ => by have := hov r (I'.fl_in r hrf).1; rw [hu] at this; cases this
      simpa [List.getD_eq_getElem?_getD, List.getElem?_eq_getElem h1, List.getElem?_eq_getElem h2] using this
    rw [this]; exact hw'
  | alt i c s r =>
    exfalso
    simp only [okT, Bool.and_eq_true, List.contains_iff_mem] at hk'
    obtain ⟨h0, hlt, hdd⟩ := ready_iff.1 hk'.1.1.1.1.1.1.1.1
    have hu := unl_of h0
    have hun : listed.getD i false = false := by
      cases hq : listed.getD i false with
      | false => rfl
      | true => have := I'.sub i hq; rw [hu.1] at this; cases this
    have : i ∈ Region.ready .any ops listed := ready_iff.2 ⟨unl_to hun (by rw [I'.size]; exact hlt), hlt, fun j hj => hov j (hdd j hj)⟩
    rw [hr] at this; cases this

theorem pairwise_fits {fl : List Nat} (h : fl.Pairwise fun x y => fits ops aos x y = true) {x y : Nat} (hx : x ∈ fl) (hy : y ∈ fl) (hne : x ≠ y) : fits ops aos x y = true ∨ fits ops aos y x = true := by
  induction fl with
  | nil => cases hx
  | cons z fl ih =>
    obtain ⟨h1, h2⟩ := List.pairwise_cons.1 h
    rcases List.mem_cons.1 hx with ex | hx'
    · rcases List.mem_cons.1 hy with ey | hy'
      · exact absurd (ex.trans ey.symm) hne
      · rw [ex]; exact .inl (h1 y hy')
    · rcases List.mem_cons.1 hy with ey | hy'
      · rw [ey]; exact .inr (h1 x hx')
      · exact ih h2 hx' hy'

/-- **THE PLAN SERVES EVERY ORDER.** -/
theorem tree_any : ∀ (fuel : Nat) (t : OTree) (listed lstar : Array Bool) (fl : List Nat) (env envs : List Value) (h : AHeap), okT ops aos (ancs ops ops.size) t false lstar fl = true → wtree P aos K X t envs h → Inv ops aos listed env lstar fl envs h →
    listed.toList.count false = fuel → AnyA P ops aos K X fuel listed env h := by
  intro fuel
  induction fuel with
  | zero =>
    intro t listed lstar fl env envs h hk hw I hc
    have hr : Region.ready .any ops listed = [] := by
      cases hq : Region.ready .any ops listed with
      | nil => rfl
      | cons i l =>
        have hi : i ∈ Region.ready .any ops listed := by rw [hq]; exact List.mem_cons_self
        obtain ⟨h0, hlt, _⟩ := ready_iff.1 hi
        have hlt' : i < listed.size := by rw [I.size]; exact hlt
        have := count_pos listed.toList i (by simp [hlt'] at h0 ⊢; exact h0)
        omega
    exact ⟨hr, over_K hk hw I hr⟩
  | succ fuel ih =>
    intro t listed lstar fl env envs h hk hw I hc
    refine ⟨fun hr => over_K hk hw I hr, fun i hi => ?_⟩
    obtain ⟨t', lstar', fl', envs', hnl, hk', hw', I'⟩ := saturate t listed lstar fl env envs h hk hw I
    clear hk hw I
    obtain ⟨hi0, hilt, hidd⟩ := ready_iff.1 hi
    have hiu := unl_of hi0
    have hcount : (listed.setIfInBounds i true).toList.count false = fuel := by
      have h1 : listed.toList[i]? = some false := by
        have := hiu.1; simp [hiu.2] at this ⊢; exact this
      have := count_set listed.toList i h1
      rw [Array.toList_setIfInBounds]; omega
    have hset : ∀ j, (listed.setIfInBounds i true).getD j false = if j = i then true else listed.getD j false := fun j => set_getD hiu.2
    cases hst : lstar'.getD i false with
    | true =>
      -- it was taken ahead
      have hif := I'.rest i hst hiu.1
      obtain ⟨_, hlight, hself, _⟩ := I'.fl_in i hif
      cases ho : aos[i]? with
      | none => simp [isLight, ho] at hlight
      | some o =>
        refine ⟨o, rfl, ?_⟩
        have hlo : o.op.light = true := by simpa [isLight, ho] using hlight
        have hdst : dstOf aos i = o.dst := by simp [dstOf, ho]
        have hnm : namesOf aos i = o.names := by simp [namesOf, ho]
        have hn := I'.names ho hidd (fun r hr hu hin => by
          by_cases e : r = i
          · subst e; rw [hself] at hin; cases hin
          · rcases pairwise_fits I'.pw hr hif e with hf | hf
            · rw [(fits_iff.1 hf).1] at hin; cases hin
            · exact (fits_iff.1 hf).2.2 hin)
        have next : ∀ v, (∀ d, o.dst = some d → d < envs'.length → envs'.getD d undef = v) → AnyA P ops aos K X fuel (listed.setIfInBounds i true) (aput env o.dst v) h := fun v hv => by
          refine ih t' _ lstar' fl' _ envs' h hk' hw' ⟨by simp [I'.size], I'.sizes, I'.down.set hi, I'.downs, fun j hj => ?_, I'.fl_in, fun j h1 h2 => ?_, I'.ord, I'.pw, by rw [aput_length]; exact I'.len, fun u hu => ?_, fun j hj hjn oj hoj => ?_⟩ hcount
          · rw [hset] at hj
            by_cases e : j = i
            · subst e; exact hst
            · rw [if_neg e] at hj; exact I'.sub j hj
          · rw [hset] at h2
            by_cases e : j = i
            · rw [if_pos e] at h2; cases h2
            · rw [if_neg e] at h2; exact I'.rest j h1 h2
          · rw [aput_getD]
            split
            · rename_i hcu
              exact (hv u hcu.1 (by rw [← I'.len]; exact hcu.2)).symm
            · rename_i hcu
              rcases Nat.lt_or_ge u env.length with hlt | hge
              · refine I'.agree u fun r hrf hun hru => ?_
                by_cases e : r = i
                · subst e
                  rw [hdst] at hru
                  exact hcu ⟨hru, hlt⟩
                · exact hu r hrf (by rw [hset, if_neg e]; exact hun) hru
              · rw [List.getD_eq_getElem?_getD, List.getElem?_eq_none hge, List.getD_eq_getElem?_getD, List.getElem?_eq_none (by rw [← I'.len]; exact hge)]
          · rw [hset] at hjn
            by_cases e : j = i
            · rw [if_pos e] at hjn; cases hjn
            · rw [if_neg e] at hjn; exact I'.prom j hj hjn oj hoj
        unfold wopA
        rw [guardA_names hn]
        rcases I'.prom i hif hiu.1 o ho with ⟨hg, hd⟩ | ⟨hg, v, hv, hd⟩
        · rw [hg]; exact next undef (fun d hd' _ => hd d hd')
        · rw [hg]
          refine runA_light hlo ?_ (next v hd)
          rw [lightVal_names hn]; exact hv
    | false =>
      -- it comes in the plan's own turn
      have hready : i ∈ Region.ready .any ops lstar' := ready_iff.2 ⟨unl_to hst (by rw [I'.sizes]; exact hilt), hilt, fun j hj => I'.sub j (hidd j hj)⟩
      cases t' with
      | light j s => exact absurd rfl (hnl j s)
      | stop => simp [okT] at hk'
      | done =>
        simp only [okT, Bool.and_eq_true, List.isEmpty_iff] at hk'
        rw [hk'.2] at hready; cases hready
      | alt j chk s rest =>
        have hin : i ∈ (OTree.alt j chk s rest).heads := by
          simp only [okT, Bool.and_eq_true, Bool.or_eq_true, List.all_eq_true, List.contains_iff_mem] at hk'
          exact hk'.2.resolve_left (by simp) i hready
        obtain ⟨chk', t2, _, h3, h4, h5, h6, o, ho, hwop⟩ := find_alt _ false lstar' fl' envs' h i hk' hw' hin
        refine ⟨o, ho, ?_⟩
        simp only [List.all_eq_true, Bool.or_eq_true, Bool.not_eq_true', List.contains_iff_mem, Bool.and_eq_true] at h3 h4 h5
        have hdst : dstOf aos i = o.dst := by simp [dstOf, ho]
        have hn := I'.names ho hidd (fun r hr hu hin => (h3 r hr).resolve_left (by rw [hin]; simp))
        have hkeep : ∀ r ∈ fl', listed.getD r false = false → r ∈ fl'.filter fun r => !((ancs ops ops.size).getD i []).contains r := fun r hr hu => by
          refine List.mem_filter.2 ⟨hr, ?_⟩
          simp only [Bool.not_eq_true', ← Bool.not_eq_true, List.contains_iff_mem]
          intro hc
          have := anc_listed I'.down ops.size i hidd r hc
          rw [hu] at this; cases this
        refine wopA_congr (fun t ht => (hn t ht).symm) (fun v h' hk2 => ?_) hwop
        obtain ⟨hck, hw2⟩ := hk2
        have hne : ∀ r ∈ fl', r ≠ i := fun r hr e => by
          have := (I'.fl_in r hr).1; rw [e, hst] at this; cases this
        refine ih t2 _ (lstar'.setIfInBounds i true) _ _ _ h' h6 hw2 ⟨by simp [I'.size], by simp [I'.sizes], I'.down.set hi, I'.downs.set hready, fun x hx => ?_, fun r hr => ?_, fun x h1 h2 => ?_, I'.ord.filter _, I'.pw.filter _, by rw [aput_length, aput_length]; exact I'.len, fun u hu => ?_, fun r hr hrn oj hoj => ?_⟩ hcount
        · rw [set_getD (by rw [I'.sizes]; exact hilt)]
          rw [hset] at hx
          by_cases e : x = i
          · rw [if_pos e]
          · rw [if_neg e] at hx ⊢; exact I'.sub x hx
        · have hr' := (List.mem_filter.1 hr).1
          obtain ⟨a, b⟩ := I'.fl_in r hr'
          refine ⟨?_, b⟩
          rw [set_getD (by rw [I'.sizes]; exact hilt)]
          split
          · rfl
          · exact a
        · rw [set_getD (by rw [I'.sizes]; exact hilt)] at h1
          rw [hset] at h2
          by_cases e : x = i
          · rw [if_pos e] at h2; cases h2
          · rw [if_neg e] at h1 h2
            exact hkeep x (I'.rest x h1 h2) h2
        · rw [aput_getD, aput_getD, I'.len]
          split
          · rfl
          · refine I'.agree u fun r hrf hun hru => ?_
            exact hu r (hkeep r hrf hun) (by rw [hset, if_neg (hne r hrf)]; exact hun) hru
        · have hr' := (List.mem_filter.1 hr).1
          rw [hset, if_neg (hne r hr')] at hrn
          obtain ⟨g1, g2⟩ := h4 r hr
          have hnj : namesOf aos r = oj.names := by simp [namesOf, hoj]
          have hdj : dstOf aos r = oj.dst := by simp [dstOf, hoj]
          rw [hdst, hnj] at g1
          rw [hdst, hdj] at g2
          have hnn := names_aput (env := envs') g1 v
          have hdne : ∀ d, oj.dst = some d → (aput envs' o.dst v).getD d undef = envs'.getD d undef := fun d hd => by
            rw [aput_getD, if_neg (fun c => sameDst_false g2 d c.1 hd)]
          rcases I'.prom r hr' hrn oj hoj with ⟨a, b⟩ | ⟨a, w, b, c⟩
          · exact .inl ⟨by rw [guardA_names hnn]; exact a, fun d hd => by rw [hdne d hd]; exact b d hd⟩
          · refine .inr ⟨by rw [guardA_names hnn]; exact a, ?_⟩
            cases hlk : oj.op.looks with
            | false =>
              refine ⟨w, by rw [lightVal_names hnn, lightVal_blind hlk _ h' h]; exact b, fun d hd hdl => ?_⟩
              rw [hdne d hd]; rw [aput_length] at hdl; exact c d hd hdl
            | true =>
              have hlooks : isLooks aos r = true := by simp [isLooks, hoj, hlk]
              obtain ⟨q1, q2⟩ := (h5 r hr).resolve_left (by rw [hlooks]; simp)
              have hq := chksOk_mem hck r q1
              rw [hdj] at q2
              obtain ⟨d, hd⟩ := Option.isSome_iff_exists.1 q2
              simp only [chkOk, hoj, hd] at hq
              have := hq (by rw [guardA_names hnn]; exact a)
              exact ⟨_, this, fun d' hd' _ => by rw [hd] at hd'; injection hd' with hd'; subst hd'; rfl⟩

end
end Go.Am
