/- The abstract machine, twelfth part: THE LIGHT OPERATIONS ARE SOUND, all of them. -/
import Derived.Test.YtbnfbpiahcjhkaaGreatAm11
namespace Go.Am
open Go

section
variable {P : Program} {ι : Inj} {h : AHeap} {w : World} {env : List Value} {a : Act}

theorem parts_rel (hE : ERel ι env a) {place : Nat → Option (Nat × Nat)} : ∀ {parts : List (Nat × Operand)} {qs : List (Nat × Nat × Opnd)}, compParts P place parts = some qs →
    (qs.map fun (o, n, x) => (o, n, x.ev env)).length = (parts.map fun (i, x) => (i, a.eval x)).length ∧
    ∀ (i : Nat) (p : Nat × Nat × Value) (q : Nat × Value), (qs.map fun (o, n, x) => (o, n, x.ev env))[i]? = some p → (parts.map fun (i, x) => (i, a.eval x))[i]? = some q → place q.1 = some (p.1, p.2.1) ∧ V ι p.2.2 q.2
  | [], qs, hc => by simp [compParts] at hc; subst hc; simp
  | (j, x) :: parts, qs, hc => by
    simp only [compParts, List.mapM_cons, Option.pure_def, Option.bind_eq_bind] at hc
    cases hp : place j with
    | none => rw [hp] at hc; simp at hc
    | some on =>
      obtain ⟨o, n⟩ := on
      rw [hp] at hc
      cases hx : compO x with
      | none => rw [hx] at hc; simp at hc
      | some y =>
        rw [hx] at hc
        simp only [Option.bind_some] at hc
        cases hr : parts.mapM (fun (p : Nat × Operand) => (place p.1).bind fun on => (compO p.2).bind fun a => some (on.1, on.2, a)) with
        | none => rw [hr] at hc; simp at hc
        | some qs' =>
          rw [hr] at hc; simp at hc; subst hc
          have hr' : compParts P place parts = some qs' := by
            simp only [compParts, Option.pure_def, Option.bind_eq_bind]; exact hr
          obtain ⟨ih1, ih2⟩ := parts_rel hE hr'
          refine ⟨by simpa using ih1, fun i p q h1 h2 => ?_⟩
          cases i with
          | zero => simp at h1 h2; subst h1 h2; exact ⟨hp, ev_rel hE hx⟩
          | succ i => exact ih2 i p q (by simpa using h1) (by simpa using h2)

theorem run_places : ∀ (fs : List Field), fs.all (fun f => (sizeA P f.type).isSome) = true → ∀ (w : World),
    (fs.mapM (m := Sem) fun f => do pure (f.offset, ← sizeOf f.type)).run P w = .ok (fs.map fun f => (f.offset, (sizeA P f.type).getD 0)) w
  | [], _, w => by simp
  | f :: fs, hf, w => by
    simp only [List.all_cons, Bool.and_eq_true] at hf
    obtain ⟨n, hn⟩ := Option.isSome_iff_exists.1 hf.1
    have ih := run_places fs hf.2 w
    simp only [List.mapM_cons, Sem.run_bind, run_sizeA hn, Result.andThen_ok, Sem.run_pure, ih]
    simp [hn]

/-- The cells of a constant are related to themselves. -/
theorem zeroCs_rel (ι : Inj) {t : TypeId} {z : List Value} (hz : zeroCs P t = some z) : ∃ zv, zeroV P t = some zv ∧ zv.cells.toList = z ∧ sizeA P t = some z.length ∧ VL ι z z ∧ z.all oneCell = true := by
  unfold zeroCs at hz
  split at hz
  · rename_i zv n h1 h2
    split at hz
    · rename_i hc
      injection hz with hz
      have hk := (run_zeroV (P := P) h1 default).2
      have hne : zv ≠ junk := fun e => by subst e; simp [constOk, junk] at hk
      have := (constOk_V ι 4 zv hk).cells hne
      refine ⟨zv, h1, hz, by rw [h2, ← hz]; simp [hc.1], by rw [← hz]; exact this.toList, by rw [← hz]; simpa using hc.2⟩
    · cases hz
  · cases hz

theorem run_getObj {r : Nat} {o : Obj} (ho : w.heap[r]? = some o) (hn : ∀ c e f, o ≠ .cells c e f) : (getObj r).run P w = .ok o w := by
  simp only [getObj, Sem.run, ho]

theorem toList_cons {α : Type} {l : Array α} {x : α} {xs : List α} (h : l.toList = x :: xs) : l[0]? = some x := by
  rw [← Array.getElem?_toList, h]; rfl

theorem compOs_cons {x : Operand} {l : List Operand} {ys : List Opnd} (hc : compOs (x :: l) = some ys) : ∃ y ys', ys = y :: ys' ∧ compO x = some y ∧ compOs l = some ys' := by
  simp only [compOs, List.mapM_cons, Option.pure_def, Option.bind_eq_bind] at hc
  cases hx : compO x with
  | none => rw [hx] at hc; simp at hc
  | some y =>
    rw [hx] at hc
    cases hl : l.mapM compO with
    | none => rw [hl] at hc; simp at hc
    | some ys' => rw [hl] at hc; simp at hc; exact ⟨y, ys', hc.symm, rfl, hl⟩

theorem compOs_nil {ys : List Opnd} (hc : compOs [] = some ys) : ys = [] := by simp [compOs] at hc; first | exact hc | exact hc.symm

theorem compOs_length {l : List Operand} {ys : List Opnd} (hc : compOs l = some ys) : l.length = ys.length := by
  induction l generalizing ys with
  | nil => rw [compOs_nil hc]; rfl
  | cons x l ih => obtain ⟨y, ys', rfl, _, h⟩ := compOs_cons hc; simp [ih h]

/-- The values of a call's operands, one or two of them. -/
theorem args_one (hE : ERel ι env a) {args : Array Operand} {x : Opnd} (hc : compOs args.toList = some [x]) : ∃ u, args.map a.eval = #[u] ∧ V ι (x.ev env) u := by
  have hl := compOs_length hc
  cases hL : args.toList with
  | nil => rw [hL] at hl; simp at hl
  | cons p l =>
    cases l with
    | cons _ _ => rw [hL] at hl; simp at hl
    | nil =>
      rw [hL] at hc
      obtain ⟨y, ys, e, h1, h2⟩ := compOs_cons hc
      rw [compOs_nil h2] at e; injection e with e _; subst e
      exact ⟨a.eval p, by apply Array.ext'; simp [hL], ev_rel hE h1⟩

theorem args_two (hE : ERel ι env a) {args : Array Operand} {x y : Opnd} (hc : compOs args.toList = some [x, y]) : ∃ u v, args.map a.eval = #[u, v] ∧ V ι (x.ev env) u ∧ V ι (y.ev env) v := by
  have hl := compOs_length hc
  cases hL : args.toList with
  | nil => rw [hL] at hl; simp at hl
  | cons p l =>
    cases l with
    | nil => rw [hL] at hl; simp at hl
    | cons q l =>
      cases l with
      | cons _ _ => rw [hL] at hl; simp at hl
      | nil =>
        rw [hL] at hc
        obtain ⟨y1, ys, e, h1, h2⟩ := compOs_cons hc
        injection e with e e'; subst e
        subst e'
        obtain ⟨y2, ys2, e2, h3, h4⟩ := compOs_cons h2
        rw [compOs_nil h4] at e2; injection e2 with e2 _; subst e2
        exact ⟨a.eval p, a.eval q, by apply Array.ext'; simp [hL], ev_rel hE h1, ev_rel hE h3⟩

theorem builtin_light (hR : R ι h w) (hE : ERel ι env a) {b : Builtin} {argTypes : Array TypeId} {args : Array Operand} {type : TypeId} {ao : AOp} (hc : compBuiltin P b argTypes.toList args.toList = some ao)
    (hl : ao.light = true) {v : Value} (hv : lightVal ao env h = some v) : LSound P ι w v (do let d ← resolve a.eval ⟨.builtin b, args, argTypes⟩ type; invoke d.target d.args) := by
  unfold compBuiltin at hc
  simp only [Option.bind_eq_bind, Option.bind_eq_some_iff] at hc
  obtain ⟨xs, hxs, hc⟩ := hc
  simp only [resolve]
  split at hc
  · rename_i t u rest s x ht
    split at hc
    · split at hc
      · simp only [Option.map_eq_some_iff] at hc; obtain ⟨_, _, rfl⟩ := hc; simp [AOp.light] at hl
      · simp only [Option.map_eq_some_iff] at hc; obtain ⟨_, _, rfl⟩ := hc; simp [AOp.light] at hl
      · cases hc
    · cases hc
  · -- len
    rename_i t rest x ht
    obtain ⟨u, hu, hV⟩ := args_one hE hxs
    have ht0 := toList_cons ht
    have hrun : ∀ {v' : Value}, (Builtin.len_ argTypes type #[u]).run P w = .ok v' w → V ι v v' → LSound P ι w v (do let d ← (pure { target := Target.builtin .len argTypes type (args.map fun | .const _ => true | _ => false), args := args.map a.eval } : Sem Deferred); invoke d.target d.args) := fun {v'} h1 h2 => by
      refine ⟨v', ?_, h2⟩
      rw [hu]
      simp [invoke, builtin, h1]
    split at hc
    · rename_i hd
      injection hc with hc; subst hc
      simp only [lightVal] at hv
      split at hv
      · rename_i s hs
        rw [hs] at hV
        injection hv with hv; subst hv
        exact hrun (v' := goInt s.size) (by rw [hV.string_inv]; simp [Builtin.len_, ht0, run_under hd]) (.int _ _)
      · cases hv
    · rename_i e hd
      injection hc with hc; subst hc
      simp only [lightVal] at hv
      split at hv
      · rename_i p n c hs
        rw [hs] at hV
        injection hv with hv; subst hv
        obtain ⟨p', c', e1, _⟩ := hV.slice_inv
        exact hrun (v' := goInt n) (by rw [e1]; simp [Builtin.len_, ht0, run_under hd]) (.int _ _)
      · cases hv
    · rename_i k e hd
      injection hc with hc; subst hc
      simp only [lightVal] at hv
      split at hv
      · rename_i hs
        rw [hs] at hV
        injection hv with hv; subst hv
        exact hrun (v' := goInt 0) (by rw [hV.mnone_inv]; simp [Builtin.len_, ht0, run_under hd]) (.int _ _)
      · rename_i r hs
        rw [hs] at hV
        obtain ⟨r', e1, img, hi, _, hblk⟩ := hV.msome_inv
        split at hv
        · rename_i es clock ro hg
          injection hv with hv; subst hv
          obtain ⟨img2, o', hi2, ho, hrel⟩ := hR.live _ _ hg
          rw [hi] at hi2; injection hi2 with hi2; subst hi2
          obtain ⟨_, es', h1, h2⟩ := hrel
          subst h1 hblk
          refine hrun (v' := goInt es.length) ?_ (.int _ _)
          rw [e1]
          simp [Builtin.len_, ht0, run_under hd, run_getObj ho, h2.1]
        · cases hv
      · cases hv
    · rename_i n e hd
      injection hc with hc; subst hc
      simp only [lightVal, Option.some.injEq] at hv; subst hv
      exact hrun (v' := goInt n) (by simp [Builtin.len_, ht0, run_under hd]) (.int _ _)
    · rename_i arr hd
      split at hc
      · rename_i n e hd2
        injection hc with hc; subst hc
        simp only [lightVal, Option.some.injEq] at hv; subst hv
        exact hrun (v' := goInt n) (by simp [Builtin.len_, ht0, run_under hd, run_under hd2]) (.int _ _)
      · cases hc
    · cases hc
  · -- cap
    rename_i t rest x ht
    obtain ⟨u, hu, hV⟩ := args_one hE hxs
    have ht0 := toList_cons ht
    split at hc
    · rename_i e hd
      injection hc with hc; subst hc
      simp only [lightVal] at hv
      have hrun : ∀ {v' : Value}, (Builtin.cap_ argTypes type #[u]).run P w = .ok v' w → V ι v v' → LSound P ι w v (do let d ← (pure { target := Target.builtin .cap argTypes type (args.map fun | .const _ => true | _ => false), args := args.map a.eval } : Sem Deferred); invoke d.target d.args) := fun {v'} h1 h2 => by
        refine ⟨v', ?_, h2⟩
        rw [hu]
        simp [invoke, builtin, h1]
      split at hv
      · rename_i l c hs
        rw [hs] at hV
        injection hv with hv; subst hv
        exact hrun (v' := goInt c) (by rw [hV.snone_inv]; simp [Builtin.cap_, ht0, run_under hd]) (.int _ _)
      · rename_i p l c hs
        rw [hs] at hV
        split at hv
        · cases hv
        · rename_i hsp
          obtain ⟨p', c', e1, hA, hC⟩ := hV.ssome_inv (by simpa using hsp)
          split at hv
          · rename_i hr
            injection hv with hv; subst hv
            have := hR.room hA hC _ hr
            simp only at this
            exact hrun (v' := goInt c) (by rw [e1, this]; simp [Builtin.cap_, ht0, run_under hd]) (.int _ _)
          · cases hv
      · cases hv
    · cases hc
  · split at hc
    · simp only [Option.map_eq_some_iff] at hc; obtain ⟨_, _, rfl⟩ := hc; simp [AOp.light] at hl
    · cases hc
  · split at hc
    · simp only [Option.map_eq_some_iff] at hc; obtain ⟨_, _, rfl⟩ := hc; simp [AOp.light] at hl
    · cases hc
  · split at hc
    · injection hc with hc; subst hc; simp [AOp.light] at hl
    · simp only [Option.map_eq_some_iff] at hc; obtain ⟨_, _, rfl⟩ := hc; simp [AOp.light] at hl
    · cases hc
  · rename_i x y
    injection hc with hc; subst hc
    obtain ⟨u, u2, hu, hV, hV2⟩ := args_two hE hxs
    simp only [lightVal] at hv
    split at hv
    · rename_i k p k2 q h1 h2
      rw [h1] at hV; rw [h2] at hV2
      injection hv with hv; subst hv
      refine ⟨.int k (if q > p then q else p), ?_, .int _ _⟩
      rw [hu, hV.int_inv, hV2.int_inv]
      simp [invoke, builtin, Builtin.max_, Builtin.max2]
    · cases hv
  · rename_i x y
    injection hc with hc; subst hc
    obtain ⟨u, u2, hu, hV, hV2⟩ := args_two hE hxs
    simp only [lightVal] at hv
    split at hv
    · rename_i k p k2 q h1 h2
      rw [h1] at hV; rw [h2] at hV2
      injection hv with hv; subst hv
      refine ⟨.int k (if q < p then q else p), ?_, .int _ _⟩
      rw [hu, hV.int_inv, hV2.int_inv]
      simp [invoke, builtin, Builtin.min_, Builtin.min2]
    · cases hv
  · cases hc

theorem opt_map_eval (x : Option Operand) : x.map a.eval = x.map a.eval := rfl

theorem light_sound (hR : R ι h w) (hE : ERel ι env a) {o : Oper} {ao : AOp} (hc : comp P o.op = some ao) (hl : ao.light = true) {v : Value} (hv : lightVal ao env h = some v) :
    LSound P ι w v (execOp a.eval o) := by
  obtain ⟨dst, op, type, pos, after, guard⟩ := o
  simp only at hc
  cases op <;> simp only [comp] at hc <;> simp only [execOp]
  case move x =>
    simp only [Option.map_eq_some_iff] at hc; obtain ⟨y, hy, rfl⟩ := hc
    simp only [lightVal, Option.some.injEq] at hv; subst hv
    exact ⟨_, rfl, ev_rel hE hy⟩
  case assign x =>
    simp only [Option.map_eq_some_iff] at hc; obtain ⟨y, hy, rfl⟩ := hc
    simp only [lightVal, Option.some.injEq] at hv; subst hv
    exact ⟨_, rfl, ev_rel hE hy⟩
  case pick c x y =>
    simp only [Option.bind_eq_bind, Option.pure_def, Option.bind_eq_some_iff, Option.some.injEq] at hc
    obtain ⟨c', hc', x', hx, y', hy, rfl⟩ := hc
    simp only [lightVal] at hv
    split at hv
    · rename_i t ht
      have hC := ev_rel hE hc'
      rw [ht] at hC
      injection hv with hv; subst hv
      refine ⟨if t then a.eval x else a.eval y, by rw [hC.bool_inv]; simp [asBool], ?_⟩
      cases t <;> simp <;> exact ev_rel hE ‹_›
    · cases hv
  case build t parts =>
    simp only [Option.bind_eq_bind, Option.bind_eq_some_iff] at hc
    obtain ⟨z, hz, hc⟩ := hc
    obtain ⟨zv, hz1, hz2, hz3, hz4, _⟩ := zeroCs_rel ι hz
    split at hc
    · rename_i fs hu
      split at hc
      case isFalse => cases hc
      rename_i hall
      simp only [Option.map_eq_some_iff] at hc
      obtain ⟨qs, hq, rfl⟩ := hc
      simp only [lightVal, Option.map_eq_some_iff] at hv
      obtain ⟨cs, hf, rfl⟩ := hv
      obtain ⟨h1, h2⟩ := parts_rel hE hq
      obtain ⟨out', ho, hV⟩ := run_fill hf hz4 h1 h2
      refine LSound.of ?_ (V.aggL hV)
      simp only [Instr.build, Sem.run_bind, (run_zeroV hz1 w).1, Result.andThen_ok, run_under hu]
      rw [Array.mapM_eq_mapM_toList]
      simp only [Sem.run_map, run_places fs.toList hall w, Result.andThen_ok]
      have e1 : (List.map (fun f => (f.offset, (sizeA P f.type).getD 0)) fs.toList).toArray = fs.map fun f => (f.offset, (sizeA P f.type).getD 0) := by apply Array.ext'; simp
      have e2 : zv.cells = z.toArray := by rw [← hz2]
      rw [e1, e2]
      have e3 : (Array.map (fun x => (x.1, a.eval x.2)) parts).toList = parts.toList.map fun x => (x.1, a.eval x.2) := by simp
      rw [e3, ho]
      simp
    · rename_i n e hu
      simp only [Option.bind_eq_some_iff, Option.map_eq_some_iff] at hc
      obtain ⟨m, hm, qs, hq, rfl⟩ := hc
      simp only [lightVal, Option.map_eq_some_iff] at hv
      obtain ⟨cs, hf, rfl⟩ := hv
      obtain ⟨h1, h2⟩ := parts_rel hE hq
      obtain ⟨out', ho, hV⟩ := run_fill (place := fun i => some (i * m, m)) hf hz4 h1 h2
      refine LSound.of ?_ (V.aggL hV)
      simp only [Instr.build, Sem.run_bind, (run_zeroV hz1 w).1, Result.andThen_ok, run_under hu, run_sizeA hm]
      have e2 : zv.cells = z.toArray := by rw [← hz2]
      have e3 : (Array.map (fun x => (x.1, a.eval x.2)) parts).toList = parts.toList.map fun x => (x.1, a.eval x.2) := by simp
      rw [e2, e3, ho]
      simp
    · cases hc
  case load t x =>
    simp only [Option.bind_eq_bind, Option.bind_eq_some_iff] at hc
    obtain ⟨y, hy, hc⟩ := hc
    have hX := ev_rel hE hy
    split at hc
    · rename_i hag
      simp only [Option.map_eq_some_iff] at hc
      obtain ⟨n, hn, rfl⟩ := hc
      simp only [lightVal] at hv
      split at hv
      · rename_i p hp
        rw [hp] at hX
        obtain ⟨p', e1, hA⟩ := hX.psome_inv
        simp only [Option.map_eq_some_iff] at hv
        obtain ⟨cs, hcs, rfl⟩ := hv
        obtain ⟨hlen, cs', h1, h2⟩ := hR.loadN hA hcs
        refine LSound.of ?_ (V.aggL h1)
        rw [e1]; simp [Instr.loadAt, Instr.sureAddr, run_loadVarN hag hn (by rw [← h1.1]; exact hlen) h2]
      · cases hv
    · rename_i hag
      injection hc with hc; subst hc
      simp only [lightVal] at hv
      split at hv
      · rename_i p hp
        rw [hp] at hX
        obtain ⟨p', e1, hA⟩ := hX.psome_inv
        obtain ⟨v', h1, h2⟩ := hR.load1 hA hv
        refine LSound.of ?_ h2
        rw [e1]; simp [Instr.loadAt, Instr.sureAddr, run_loadVar1 hag h1]
      · cases hv
    · cases hc
  case nilCheck x =>
    simp only [Option.map_eq_some_iff] at hc; obtain ⟨y, hy, rfl⟩ := hc
    have hX := ev_rel hE hy
    simp only [lightVal] at hv
    split at hv <;> first | (cases hv; done) | (rename_i hp; rw [hp] at hX; clear hp; injection hv with hv; subst hv)
    · obtain ⟨p', e1, hA⟩ := hX.psome_inv; exact ⟨_, by rw [e1]; rfl, .psome hA⟩
    · obtain ⟨u, e1, hA⟩ := hX.iface_inv; exact ⟨_, by rw [e1]; rfl, .iface _ hA⟩
    · obtain ⟨f', c', e1, h1, h2, h3⟩ := hX.func_inv; exact ⟨_, by rw [e1]; rfl, .func h1 h2.1 h2.2 h3.1 h3.2⟩
    · have hX' := hX
      obtain ⟨a', c', e1, _⟩ := hX.slice_inv; exact ⟨_, by rw [e1]; rfl, by rw [e1] at hX'; exact hX'⟩
    · rename_i mm
      cases mm with
      | none => exact ⟨_, by rw [hX.mnone_inv]; rfl, .mnone⟩
      | some m => obtain ⟨r', e1, hA⟩ := hX.msome_inv; exact ⟨_, by rw [e1]; rfl, .msome hA⟩
  case binOp op t x y yt =>
    obtain ⟨v', h1, h2⟩ := bin_light (yt := yt) hE hc hv
    exact LSound.of h1 h2
  case unOp op t x =>
    simp only [Option.map_eq_some_iff] at hc; obtain ⟨y, hy, rfl⟩ := hc
    have := aun_sound (P := P) hv (ev_rel hE hy) w
    have hV := (aun_sound (P := P) hv (ev_rel hE hy) w).2
    exact LSound.of this.1 hV
  case convert s d x =>
    unfold compConv at hc
    simp only [Option.bind_eq_bind, Option.bind_eq_some_iff] at hc
    obtain ⟨y, hy, hc⟩ := hc
    have hX := ev_rel hE hy
    split at hc
    · rename_i k0 k hu1 hu2
      injection hc with hc; subst hc
      simp only [lightVal] at hv
      split at hv
      · rename_i k n hn
        rw [hn] at hX
        injection hv with hv; subst hv
        refine LSound.of ?_ (.int _ _)
        rw [hX.int_inv]; simp [convert, run_under hu1, run_under hu2, Conv.intToInt]
      · cases hv
    · rename_i e hu1 hu2
      split at hc
      · rename_i hue
        injection hc with hc; subst hc
        simp only [lightVal] at hv
        split at hv
        · rename_i l c hs
          rw [hs] at hX
          injection hv with hv; subst hv
          refine LSound.of (v' := .string .empty) ?_ (.string _)
          rw [hX.snone_inv]; simp [convert, run_under hu1, run_under hu2, run_under hue, Conv.bytesToString]
        · rename_i p len cap hs
          rw [hs] at hX
          split at hv
          · rename_i hsp
            injection hv with hv; subst hv
            obtain ⟨p', c', e1, rfl, rfl⟩ := hX.semp_inv hsp
            refine LSound.of (v' := .string .empty) ?_ (.string _)
            rw [e1]; simp [convert, run_under hu1, run_under hu2, run_under hue, Conv.bytesToString, loadCells, loadCellsFrom]
          · rename_i hsp
            obtain ⟨p', c', e1, hA, _⟩ := hX.ssome_inv (by simpa using hsp)
            split at hv
            · rename_i cs hcs
              simp only [Option.map_eq_some_iff] at hv
              obtain ⟨l, hl', rfl⟩ := hv
              obtain ⟨hlen, cs', h1, h2⟩ := hR.loadN hA hcs
              refine LSound.of (v' := .string ⟨l.toArray⟩) ?_ (.string _)
              rw [e1]
              have hrun := run_loadCells_of (P := P) p' cs' len (by rw [← h1.1]; exact hlen) h2
              have hfor := asBytes_run (P := P) hl' h1 ByteArray.empty w
              simp only [convert, Sem.run_bind, run_under hu1, run_under hu2, run_under hue, Result.andThen_ok, Conv.bytesToString, hrun]
              rw [← Array.forIn_toList]
              simp only [Sem.run_bind]
              refine (congrArg (fun r => Result.andThen r (fun a w' => Sem.run P (pure (Value.string a)) w')) hfor).trans ?_
              simp
            · cases hv
        · cases hv
      · cases hc
    · split at hc
      · injection hc with hc; subst hc; simp [AOp.light] at hl
      · cases hc
    · cases hc
  case makeInterface t x =>
    split at hc
    · cases hc
    · cases hc
    · rename_i d h1 h2
      simp only [Option.map_eq_some_iff] at hc; obtain ⟨y, hy, rfl⟩ := hc
      simp only [lightVal, Option.some.injEq] at hv; subst hv
      refine LSound.of (v' := .iface t (a.eval x)) ?_ (.iface t (ev_rel hE hy))
      simp only [Instr.makeInterface, Sem.run_bind, run_under h2, Result.andThen_ok]
      cases d <;> first | rfl | exact absurd rfl (h1 _)
  case makeFunc fn f c =>
    split at hc
    · rename_i hfine
      simp only [Option.bind_eq_bind, Option.pure_def, Option.bind_eq_some_iff, Option.some.injEq] at hc
      obtain ⟨f', hf, c', hc', rfl⟩ := hc
      simp only [lightVal, Option.some.injEq] at hv; subst hv
      have h1 := (evs_rel hE hf).toArray
      have h2 := (evs_rel hE hc').toArray
      have e1 : (f.toList.map a.eval).toArray = f.map a.eval := by apply Array.ext'; simp
      have e2 : (c.toList.map a.eval).toArray = c.map a.eval := by apply Array.ext'; simp
      rw [e1] at h1; rw [e2] at h2
      exact LSound.of (v' := .func fn (f.map a.eval) (c.map a.eval)) rfl (.func hfine h1.1 h1.2 h2.1 h2.2)
    · cases hc
  case slice t x lo hi mx =>
    unfold compSlice at hc
    simp only [Option.bind_eq_bind, Option.bind_eq_some_iff] at hc
    obtain ⟨y, hy, l, hlo, hh, hhi, m, hmx, hc⟩ := hc
    have hX := ev_rel hE hy
    have o1 := opt_rel hE hlo
    have o2 := opt_rel hE hhi
    have o3 := opt_rel hE hmx
    split at hc
    · rename_i hu
      split at hc
      · rename_i hm
        injection hc with hc; subst hc
        simp only [lightVal] at hv
        split at hv
        · rename_i s hs
          rw [hs] at hX
          split at hv
          · rename_i l' h' m' hb
            injection hv with hv; subst hv
            obtain ⟨m2, hrun, _⟩ := run_sliceBounds (P := P) o1 o2 (mx := none) (mx' := none) trivial hb (Nat.le_refl _) false w
            have hmn : mx = none := by
              cases mx with
              | none => rfl
              | some z => simp [compOo] at hmx; obtain ⟨z', _, rfl⟩ := hmx; simp at hm
            subst hmn
            refine LSound.of (v' := .string (s.extract l' h')) ?_ (.string _)
            rw [run_slice_of t (by simp [hu]) hu, hX.string_inv]
            simp [Instr.slice, run_under hu, hrun]
          · cases hv
        · cases hv
      · cases hc
    · rename_i e hu
      simp only [Option.map_eq_some_iff] at hc
      obtain ⟨n, hn, rfl⟩ := hc
      simp only [lightVal] at hv
      split at hv
      · rename_i ad len cap hs
        rw [hs] at hX
        obtain ⟨v', h1, h2⟩ := run_sliceVal hR hu hn hX o1 o2 o3 hv
        refine LSound.of (v' := v') ?_ h2
        rw [run_slice_of t (by simp [hu]) hu]; exact h1
      · cases hv
    · rename_i n e hu
      simp only [Option.map_eq_some_iff] at hc
      obtain ⟨sz, hn, rfl⟩ := hc
      simp only [lightVal] at hv
      split at hv
      · rename_i p hs
        rw [hs] at hX
        obtain ⟨p', e1, hA⟩ := hX.psome_inv
        split at hv
        · rename_i l' h' m' hb
          injection hv with hv; subst hv
          obtain ⟨m2, hrun, q1, q2, _⟩ := run_sliceBounds (P := P) o1 o2 o3 hb (Nat.le_refl _) false w
          have hm2 : m2 = m' := by
            cases hq : (m.map (·.ev env)).isSome with
            | true => exact (q1 hq).1
            | false => rw [(q2 hq).1, (q2 hq).2]
          subst hm2
          refine LSound.of (v' := .slice (some (if m2 = l' then p' else p'.add (l' * sz))) (h' - l') (m2 - l')) ?_ (.ssome _ ?_ (.inl rfl))
          · rw [e1]; simp [Instr.sliceAt, run_under hu, Instr.sureAddr, hrun, run_sizeA hn]
          · by_cases hq : m2 = l'
            · rw [if_pos hq, if_pos hq]; exact hA
            · rw [if_neg hq, if_neg hq]; exact hA.add _
        · cases hv
      · cases hv
    · rename_i arr hu
      split at hc
      · rename_i n e hua
        simp only [Option.map_eq_some_iff] at hc
        obtain ⟨sz, hn, rfl⟩ := hc
        simp only [lightVal] at hv
        split at hv
        · rename_i p hs
          rw [hs] at hX
          obtain ⟨p', e1, hA⟩ := hX.psome_inv
          split at hv
          · rename_i l' h' m' hb
            injection hv with hv; subst hv
            obtain ⟨m2, hrun, q1, q2, _⟩ := run_sliceBounds (P := P) o1 o2 o3 hb (Nat.le_refl _) false w
            have hm2 : m2 = m' := by
              cases hq : (m.map (·.ev env)).isSome with
              | true => exact (q1 hq).1
              | false => rw [(q2 hq).1, (q2 hq).2]
            subst hm2
            refine LSound.of (v' := .slice (some (if m2 = l' then p' else p'.add (l' * sz))) (h' - l') (m2 - l')) ?_ (.ssome _ ?_ (.inl rfl))
            · rw [run_slice_of t (by simp [hu]) hu, e1]; simp [Instr.slice, run_under hu, run_under hua, asAddr, hrun, run_sizeA hn]
            · by_cases hq : m2 = l'
              · rw [if_pos hq, if_pos hq]; exact hA
              · rw [if_neg hq, if_neg hq]; exact hA.add _
          · cases hv
        · cases hv
      · cases hc
    · cases hc
  case fieldAddr s x f =>
    split at hc
    · rename_i fs hu
      split at hc
      · rename_i fd hfd
        split at hc
        · rename_i hsz
          simp only [Option.map_eq_some_iff] at hc
          obtain ⟨y, hy, rfl⟩ := hc
          have hX := ev_rel hE hy
          simp only [lightVal] at hv
          split at hv
          · rename_i p hs
            rw [hs] at hX
            obtain ⟨p', e1, hA⟩ := hX.psome_inv
            injection hv with hv; subst hv
            refine LSound.of (v' := .pointer (some (p'.add fd.offset))) ?_ (.psome (hA.add _))
            cases hn : sizeA P fd.type with
            | none => rw [hn] at hsz; simp at hsz
            | some n =>
              rw [hn] at hsz
              simp only [Option.getD_some] at hsz
              rw [e1]; simp [Instr.fieldAt, run_under hu, hfd, Instr.sureAddr, fieldPlace, run_sizeA hn, hsz]
          · cases hv
        · cases hc
      · cases hc
    · cases hc
  case field t x f =>
    split at hc
    · rename_i fs hu
      split at hc
      · rename_i fd hfd
        split at hc
        · rename_i hag
          simp only [Option.bind_eq_bind, Option.bind_eq_some_iff, Option.map_eq_some_iff] at hc
          obtain ⟨n, hn, y, hy, rfl⟩ := hc
          have hX := ev_rel hE hy
          simp only [lightVal] at hv
          split at hv
          · rename_i cs hs
            rw [hs] at hX
            obtain ⟨c', e1, hA⟩ := hX.agg_inv
            obtain ⟨v', h1, h2⟩ := run_part (P := P) (w := w) hag (n := n) (fun _ => hn) hA (by simpa using hv)
            refine LSound.of (v' := v') ?_ h2
            rw [e1]; simp [Instr.field, run_under hu, hfd, asAgg, h1]
          · cases hv
        · rename_i hag
          simp only [Option.map_eq_some_iff] at hc
          obtain ⟨y, hy, rfl⟩ := hc
          have hX := ev_rel hE hy
          simp only [lightVal] at hv
          split at hv
          · rename_i cs hs
            rw [hs] at hX
            obtain ⟨c', e1, hA⟩ := hX.agg_inv
            obtain ⟨v', h1, h2⟩ := run_part (P := P) (w := w) hag (n := 0) (fun h => by cases h) hA (by simpa using hv)
            refine LSound.of (v' := v') ?_ h2
            rw [e1]; simp [Instr.field, run_under hu, hfd, asAgg, h1]
          · cases hv
        · cases hc
      · cases hc
    · cases hc
  case indexAddr t x i =>
    split at hc
    · rename_i n e hu
      simp only [Option.bind_eq_bind, Option.pure_def, Option.bind_eq_some_iff, Option.some.injEq] at hc
      obtain ⟨sz, hn, y, hy, j, hj, rfl⟩ := hc
      have hX := ev_rel hE hy
      have hJ := ev_rel hE hj
      simp only [lightVal] at hv
      split at hv
      · rename_i p k q h1 h2
        rw [h1] at hX; rw [h2] at hJ
        obtain ⟨p', e1, hA⟩ := hX.psome_inv
        split at hv
        · rename_i hb
          injection hv with hv; subst hv
          refine LSound.of (v' := .pointer (some (p'.add (q.toNat * sz)))) ?_ (.psome (hA.add _))
          rw [e1, hJ.int_inv]
          simp [Instr.indexAt, asIntOf, run_under hu, Instr.sureAddr, hb, run_sizeA hn]
        · cases hv
      · cases hv
    · rename_i e hu
      simp only [Option.bind_eq_bind, Option.pure_def, Option.bind_eq_some_iff, Option.some.injEq] at hc
      obtain ⟨sz, hn, y, hy, j, hj, rfl⟩ := hc
      have hX := ev_rel hE hy
      have hJ := ev_rel hE hj
      simp only [lightVal] at hv
      split at hv
      · rename_i p len cap k q h1 h2
        rw [h1] at hX; rw [h2] at hJ
        split at hv
        · rename_i hb
          injection hv with hv; subst hv
          cases hsp : p.spot.isSome with
          | true => obtain ⟨_, _, _, h0, _⟩ := hX.semp_inv hsp; omega
          | false =>
            obtain ⟨p', c', e1, hA, _⟩ := hX.ssome_inv hsp
            refine LSound.of (v' := .pointer (some (p'.add (q.toNat * sz)))) ?_ (.psome (hA.add _))
            rw [e1, hJ.int_inv]
            simp [Instr.indexAt, asIntOf, run_under hu, hb, run_sizeA hn]
        · cases hv
      · cases hv
    · cases hc
  case index t x i =>
    split at hc
    · rename_i n e hu
      simp only [Option.bind_eq_bind, Option.pure_def, Option.bind_eq_some_iff, Option.some.injEq] at hc
      obtain ⟨sz, hn, ag, hag, y, hy, j, hj, rfl⟩ := hc
      have hX := ev_rel hE hy
      have hJ := ev_rel hE hj
      simp only [lightVal] at hv
      split at hv
      · rename_i cs k q h1 h2
        rw [h1] at hX; rw [h2] at hJ
        obtain ⟨c', e1, hA⟩ := hX.agg_inv
        split at hv
        · rename_i hb
          obtain ⟨v', g1, g2⟩ := run_part (P := P) (w := w) hag (n := sz) (fun _ => hn) hA hv
          refine LSound.of (v' := v') ?_ g2
          rw [e1, hJ.int_inv]
          simp [Instr.index, asIntOf, run_under hu, hb, run_sizeA hn, g1]
        · cases hv
      · cases hv
    · rename_i hu
      simp only [Option.bind_eq_bind, Option.pure_def, Option.bind_eq_some_iff, Option.some.injEq] at hc
      obtain ⟨y, hy, j, hj, rfl⟩ := hc
      have hX := ev_rel hE hy
      have hJ := ev_rel hE hj
      simp only [lightVal] at hv
      split at hv
      · rename_i s k q h1 h2
        rw [h1] at hX; rw [h2] at hJ
        split at hv
        · rename_i hb
          simp only [Option.map_eq_some_iff] at hv
          obtain ⟨b, hb2, rfl⟩ := hv
          refine LSound.of (v' := .int .u8 b.toNat) ?_ (.int _ _)
          rw [hX.string_inv, hJ.int_inv]
          simp [Instr.index, asIntOf, run_under hu, hb, hb2]
        · cases hv
      · cases hv
    · cases hc
  case lookup t m k ok =>
    split at hc
    · rename_i kt e hu
      simp only [Option.bind_eq_bind, Option.pure_def, Option.bind_eq_some_iff, Option.some.injEq] at hc
      obtain ⟨z, hz, kk, hkk, y, hy, j, hj, rfl⟩ := hc
      have hX := ev_rel hE hy
      have hJ := ev_rel hE hj
      have hzr := run_zeroV (P := P) hz w
      have main : ∀ {es : List MapEntry} {es' : Array MapEntry}, EsRel ι es es' → lookupVal z ok kk es (j.ev env) = some v → ((a.eval m = .map none ∧ es' = #[]) ∨ ∃ r c, a.eval m = .map (some r) ∧ w.heap[r]? = some (.map es' c)) →
          LSound P ι w v (do pure (Next.value (← Instr.lookup t (a.eval m) (a.eval k) ok))) := fun {es es'} he hlv hm => by
        unfold lookupVal at hlv
        split at hlv
        · cases hlv
        · rename_i hke
          have hkeq : a.eval k = j.ev env := by
            cases hq : keyEq kk (j.ev env) (j.ev env) with
            | none => exact absurd hq hke
            | some b => exact (keyEq_inv hq hJ hJ).1
          have hck := run_checkKey (P := P) hkk hke es'.isEmpty w
          split at hlv
          · rename_i i u hf
            injection hlv with hlv; subst hlv
            obtain ⟨r', h1, h2⟩ := run_findKey hkk he hf w
            cases r' with
            | none => exact absurd h2 (by simp [FRel])
            | some p =>
              obtain ⟨i', u'⟩ := p
              obtain ⟨rfl, hV⟩ := h2
              refine LSound.of (v' := if ok then .tuple #[u', .bool true] else u') ?_ ?_
              · rw [hkeq]
                rcases hm with ⟨e1, rfl⟩ | ⟨r, c, e1, ho⟩
                · rw [e1]; simp only [Instr.lookup, Sem.run_bind, run_under hu, Result.andThen_ok, Sem.run_pure, hck, h1]
                · rw [e1]; simp only [Instr.lookup, Sem.run_bind, run_under hu, Result.andThen_ok, Sem.run_pure, run_getObj ho (by simp), hck, h1]
              · cases ok with
                | true => exact V.tuple' (VL.toArray (VL.cons hV (VL.cons (.bool true) (VL.nil ι))))
                | false => exact hV
          · rename_i hf
            injection hlv with hlv; subst hlv
            obtain ⟨r', h1, h2⟩ := run_findKey hkk he hf w
            cases r' with
            | some p => exact absurd h2 (by simp [FRel])
            | none =>
              have hzV := constOk_V ι 4 z hzr.2
              refine LSound.of (v' := if ok then .tuple #[z, .bool false] else z) ?_ ?_
              · rw [hkeq]
                rcases hm with ⟨e1, rfl⟩ | ⟨r, c, e1, ho⟩
                · rw [e1]; simp only [Instr.lookup, Sem.run_bind, run_under hu, Result.andThen_ok, Sem.run_pure, hck, h1, hzr.1]
                · rw [e1]; simp only [Instr.lookup, Sem.run_bind, run_under hu, Result.andThen_ok, Sem.run_pure, run_getObj ho (by simp), hck, h1, hzr.1]
              · cases ok with
                | true => exact V.tuple' (VL.toArray (VL.cons hzV (VL.cons (.bool false) (VL.nil ι))))
                | false => exact hzV
          · cases hlv
      simp only [lightVal] at hv
      split at hv
      · rename_i hs
        rw [hs] at hX
        exact main (es := []) (es' := #[]) ⟨rfl, fun i e e' h1 _ => by simp at h1⟩ hv (.inl ⟨hX.mnone_inv, rfl⟩)
      · rename_i r hs
        rw [hs] at hX
        obtain ⟨r', e1, img, hi, _, hblk⟩ := hX.msome_inv
        split at hv
        · rename_i es clock ro hg
          obtain ⟨img2, o', hi2, ho, hrel⟩ := hR.live _ _ hg
          rw [hi] at hi2; injection hi2 with hi2; subst hi2
          obtain ⟨_, es', h1, h2⟩ := hrel
          exact main h2 hv (.inr ⟨r', clock, e1, by rw [← hblk, ho, h1]⟩)
        · cases hv
      · cases hv
    · cases hc
  case entry it =>
    simp only [Option.map_eq_some_iff] at hc; obtain ⟨y, hy, rfl⟩ := hc
    have hX := ev_rel hE hy
    simp only [lightVal] at hv
    split at hv
    · rename_i p hs
      rw [hs] at hX
      obtain ⟨p', e1, hsp, img, hi, hp'⟩ := hX.psome_inv
      split at hv
      · rename_i hoff
        split at hv
        · rename_i m since seen stepped hg
          obtain ⟨img2, o', hi2, ho, hsh, m', ho', hmm⟩ := hR.live _ _ hg
          rw [hi] at hi2; injection hi2 with hi2; subst hi2
          split at hv
          · rename_i stamp es clock ro hst hgm
            cases m' with
            | none => exact absurd hmm (by simp [MoRel])
            | some m' =>
              obtain ⟨imgm, him, hsm, hbm⟩ := hmm
              obtain ⟨img3, o3, hi3, ho3, _, es', ho3', hes⟩ := hR.live _ _ hgm
              rw [him] at hi3; injection hi3 with hi3; subst hi3
              split at hv
              · cases hv
              · rename_i hck
                split at hv
                · rename_i e hfe
                  injection hv with hv; subst hv
                  have hel := hes.toList
                  have key : ∀ {es es' : List MapEntry}, ELRel ι es es' → ∀ e, es.find? (·.born == stamp) = some e → ∃ e', es'.find? (·.born == stamp) = some e' ∧ V ι e.key e'.key ∧ V ι e.val e'.val := by
                    intro es
                    induction es with
                    | nil => intro es' _ e he; simp at he
                    | cons x xs ih =>
                      intro es' hel e he
                      obtain ⟨x', xs', rfl, a1, a2, a3, hel'⟩ := hel.cons_inv
                      by_cases hq : x.born = stamp
                      · have hq' : x'.born = stamp := by rw [a3]; exact hq
                        simp [List.find?_cons, hq] at he ⊢
                        subst he
                        exact ⟨x', by simp [hq'], a1, a2⟩
                      · have hq' : ¬ x'.born = stamp := by rw [a3]; exact hq
                        have hb : (x.born == stamp) = false := by simpa using hq
                        have hb' : (x'.born == stamp) = false := by simpa using hq'
                        simp only [List.find?_cons, hb] at he
                        simp only [List.find?_cons, hb']
                        exact ih hel' e he
                  obtain ⟨e', hfe', a1, a2⟩ := key hel e hfe
                  refine LSound.of (v' := .tuple #[e'.key, e'.val]) ?_ (V.tuple' (VL.toArray (VL.cons a1 (VL.cons a2 (VL.nil ι)))))
                  have hp2 : p' = ⟨img.blk, 0, none⟩ := by rw [hp', hoff, hsh]
                  have hback : seen.toArray.back? = some stamp := by simpa using hst
                  have hfa : es'.find? (fun e => e.born == stamp) = some e' := by rw [← Array.find?_toList]; exact hfe'
                  rw [e1, hp2]
                  subst hbm
                  have g1 := run_getObj (P := P) ho (fun c e f q => by rw [ho'] at q; cases q)
                  have g2 := run_getObj (P := P) ho3 (fun c e f q => by rw [ho3'] at q; cases q)
                  rw [ho'] at g1; rw [ho3'] at g2
                  simp at hck
                  simp [Instr.entry, g1, g2, hback, hck, hfa]
                · cases hv
          · cases hv
        · cases hv
      · cases hv
    · cases hv
  case typeAssert x xt t ok =>
    split at hc
    · cases hc
    · cases hc
    · rename_i d hni hu
      simp only [Option.bind_eq_bind, Option.pure_def, Option.bind_eq_some_iff, Option.some.injEq] at hc
      obtain ⟨z, hz, y, hy, rfl⟩ := hc
      have hX := ev_rel hE hy
      have hzr := run_zeroV (P := P) hz w
      simp only [lightVal] at hv
      split at hv
      · rename_i u x0 hs
        rw [hs] at hX
        obtain ⟨x', e1, hA⟩ := hX.iface_inv
        split at hv
        · rename_i hut
          injection hv with hv; subst hv
          refine LSound.of (v' := if ok then .tuple #[x', .bool true] else x') ?_ ?_
          · rw [e1]; simp only [Instr.typeAssert, Sem.run_bind, run_under hu, Result.andThen_ok]
            cases d <;> first | (exact absurd rfl (hni _)) | (simp [hut])
          · cases ok with
            | true => exact V.tuple' (VL.toArray (VL.cons hA (VL.cons (.bool true) (VL.nil ι))))
            | false => exact hA
        · rename_i hut
          split at hv
          · rename_i hok
            injection hv with hv; subst hv
            refine LSound.of (v' := .tuple #[z, .bool false]) ?_ (V.tuple' (VL.toArray (VL.cons (constOk_V ι 4 z hzr.2) (VL.cons (.bool false) (VL.nil ι)))))
            rw [e1]; simp only [Instr.typeAssert, Sem.run_bind, run_under hu, Result.andThen_ok]
            cases d <;> first | (exact absurd rfl (hni _)) | (simp [hut, hok, hzr.1])
          · cases hv
      · rename_i hs
        rw [hs] at hX
        split at hv
        · rename_i hok
          injection hv with hv; subst hv
          refine LSound.of (v' := .tuple #[z, .bool false]) ?_ (V.tuple' (VL.toArray (VL.cons (constOk_V ι 4 z hzr.2) (VL.cons (.bool false) (VL.nil ι)))))
          rw [hX.nilIface_inv]; simp only [Instr.typeAssert, Sem.run_bind, run_under hu, Result.andThen_ok]
          cases d <;> first | (exact absurd rfl (hni _)) | (simp [hok, hzr.1])
        · cases hv
      · cases hv
  case extract x i =>
    simp only [Option.map_eq_some_iff] at hc; obtain ⟨y, hy, rfl⟩ := hc
    have hX := ev_rel hE hy
    simp only [lightVal] at hv
    split at hv
    · rename_i vs hs
      rw [hs] at hX
      obtain ⟨c', e1, hA⟩ := hX.tuple_inv
      obtain ⟨v', h1, h2⟩ := VL.get hA.toList (i := i) (x := v) (by simpa using hv)
      refine LSound.of (v' := v') ?_ h2
      rw [e1]
      have : c'[i]? = some v' := by simpa using h1
      simp [Instr.extract, this]
    · cases hv
  case call c =>
    obtain ⟨callee, args, argTypes⟩ := c
    cases callee with
    | value f => simp only [Option.bind_eq_bind, Option.pure_def, Option.bind_eq_some_iff, Option.some.injEq] at hc; obtain ⟨_, _, _, _, rfl⟩ := hc; simp [AOp.light] at hl
    | invoke r m => simp only [Option.bind_eq_bind, Option.pure_def, Option.bind_eq_some_iff, Option.some.injEq] at hc; obtain ⟨_, _, _, _, rfl⟩ := hc; simp [AOp.light] at hl
    | builtin b =>
      simp only at hc
      exact builtin_light hR hE hc hl hv
  case alloc => simp only [Option.map_eq_some_iff] at hc; obtain ⟨_, _, rfl⟩ := hc; simp [AOp.light] at hl
  case box => simp only [Option.map_eq_some_iff] at hc; obtain ⟨_, _, rfl⟩ := hc; simp [AOp.light] at hl
  case buildSlice =>
    split at hc
    · simp only [Option.bind_eq_bind, Option.bind_eq_some_iff] at hc
      obtain ⟨_, _, hc⟩ := hc
      split at hc
      · cases hc
      · simp only [Option.map_eq_some_iff] at hc; obtain ⟨_, _, rfl⟩ := hc; simp [AOp.light] at hl
    · cases hc
  case store =>
    simp only [Option.bind_eq_bind, Option.bind_eq_some_iff, Option.map_eq_some_iff] at hc
    obtain ⟨_, _, _, _, _, _, rfl⟩ := hc; simp [AOp.light] at hl
  case makeMap t r =>
    cases r with
    | none => simp only [Option.some.injEq] at hc; subst hc; simp [AOp.light] at hl
    | some _ => cases hc
  case makeSlice =>
    split at hc
    · simp only [Option.bind_eq_bind, Option.pure_def, Option.bind_eq_some_iff, Option.some.injEq] at hc
      obtain ⟨_, _, _, _, _, _, _, _, rfl⟩ := hc; simp [AOp.light] at hl
    · cases hc
  case insert =>
    split at hc
    · simp only [Option.bind_eq_bind, Option.pure_def, Option.bind_eq_some_iff, Option.some.injEq] at hc
      obtain ⟨_, _, _, _, _, _, _, _, rfl⟩ := hc; simp [AOp.light] at hl
    · cases hc
  case mapUpdate =>
    split at hc
    · simp only [Option.bind_eq_bind, Option.pure_def, Option.bind_eq_some_iff, Option.some.injEq] at hc
      obtain ⟨_, _, _, _, _, _, _, _, rfl⟩ := hc; simp [AOp.light] at hl
    · cases hc
  case range => split at hc <;> first | (cases hc; done) | (simp only [Option.map_eq_some_iff] at hc; obtain ⟨_, _, rfl⟩ := hc; simp [AOp.light] at hl)
  case next => split at hc <;> first | (cases hc; done) | (simp only [Option.map_eq_some_iff] at hc; obtain ⟨_, _, rfl⟩ := hc; simp [AOp.light] at hl)
  case panic => simp only [Option.map_eq_some_iff] at hc; obtain ⟨_, _, rfl⟩ := hc; simp [AOp.light] at hl
  all_goals (cases hc; done)

end
end Go.Am
