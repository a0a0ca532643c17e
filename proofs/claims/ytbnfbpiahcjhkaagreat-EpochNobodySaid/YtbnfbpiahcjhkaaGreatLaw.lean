/- The law 'EpochNobody' holds of the program for every input, with no condition: its whole run is carried out in the kernel by the abstract machine's evaluator; of the arguments nothing is looked at. -/
import Derived.Test.YtbnfbpiahcjhkaaGreatRows
import Derived.Test.YtbnfbpiahcjhkaaGreatAm29
import Derived.Test.YtbnfbpiahcjhkaaGreatF1
import Derived.KernelRfl
namespace Go.Proofs.YtbnfbpiahcjhkaaGreat
open Go.ChangeShapes Go.WideShapes Go.ChangeAt Go.RowKit Go.Am

theorem own : ownKnob Tryz.prog.godebug = none := by kernel_rfl
theorem follows : Tryz.prog.follows .mixedOrders = true := by kernel_rfl
theorem kids : Kids Tryz.prog (· < Tryz.prog.types.size) := kids_rows (by kernel_rfl) (by kernel_rfl)
theorem full : ∀ t e, t < Tryz.prog.types.size → Tryz.prog.underlying t = some (.slice e) → 0 < Tryz.prog.cellsOf e := slices_full_of _ (by kernel_rfl)
theorem ok3 : FOk Tryz.prog 3 F3 := FOk.of Tryz.func3 (by kernel_rfl) (by kernel_rfl) (by kernel_rfl) (by kernel_rfl)
theorem ok4 : FOk Tryz.prog 4 F4 := FOk.of Tryz.func4 (by kernel_rfl) (by kernel_rfl) (by kernel_rfl) (by kernel_rfl)
theorem ok5 : FOk Tryz.prog 5 F5 := FOk.of Tryz.func5 (by kernel_rfl) (by kernel_rfl) (by kernel_rfl) (by kernel_rfl)
theorem ok6 : FOk Tryz.prog 6 F6 := FOk.of Tryz.func6 (by kernel_rfl) (by kernel_rfl) (by kernel_rfl) (by kernel_rfl)
theorem ok7 : FOk Tryz.prog 7 F7 := FOk.of Tryz.func7 (by kernel_rfl) (by kernel_rfl) (by kernel_rfl) (by kernel_rfl)
theorem ok8 : FOk Tryz.prog 8 F8 := FOk.of Tryz.func8 (by kernel_rfl) (by kernel_rfl) (by kernel_rfl) (by kernel_rfl)
theorem ok9 : FOk Tryz.prog 9 F9 := FOk.of Tryz.func9 (by kernel_rfl) (by kernel_rfl) (by kernel_rfl) (by kernel_rfl)
theorem ok10 : FOk Tryz.prog 10 F10 := FOk.of Tryz.func10 (by kernel_rfl) (by kernel_rfl) (by kernel_rfl) (by kernel_rfl)
theorem ok11 : FOk Tryz.prog 11 F11 := FOk.of Tryz.func11 (by kernel_rfl) (by kernel_rfl) (by kernel_rfl) (by kernel_rfl)
theorem ok12 : FOk Tryz.prog 12 F12 := FOk.of Tryz.func12 (by kernel_rfl) (by kernel_rfl) (by kernel_rfl) (by kernel_rfl)
theorem ok13 : FOk Tryz.prog 13 F13 := FOk.of Tryz.func13 (by kernel_rfl) (by kernel_rfl) (by kernel_rfl) (by kernel_rfl)
theorem ok14 : FOk Tryz.prog 14 F14 := FOk.of Tryz.func14 (by kernel_rfl) (by kernel_rfl) (by kernel_rfl) (by kernel_rfl)
theorem ok15 : FOk Tryz.prog 15 F15 := FOk.of Tryz.func15 (by kernel_rfl) (by kernel_rfl) (by kernel_rfl) (by kernel_rfl)
theorem ok16 : FOk Tryz.prog 16 F16 := FOk.of Tryz.func16 (by kernel_rfl) (by kernel_rfl) (by kernel_rfl) (by kernel_rfl)
theorem ok17 : FOk Tryz.prog 17 F17 := FOk.of Tryz.func17 (by kernel_rfl) (by kernel_rfl) (by kernel_rfl) (by kernel_rfl)
theorem ok18 : FOk Tryz.prog 18 F18 := FOk.of Tryz.func18 (by kernel_rfl) (by kernel_rfl) (by kernel_rfl) (by kernel_rfl)
theorem ok19 : FOk Tryz.prog 19 F19 := FOk.of Tryz.func19 (by kernel_rfl) (by kernel_rfl) (by kernel_rfl) (by kernel_rfl)
theorem ok20 : FOk Tryz.prog 20 F20 := FOk.of Tryz.func20 (by kernel_rfl) (by kernel_rfl) (by kernel_rfl) (by kernel_rfl)
theorem ok21 : FOk Tryz.prog 21 F21 := FOk.of Tryz.func21 (by kernel_rfl) (by kernel_rfl) (by kernel_rfl) (by kernel_rfl)
theorem ok29 : FOk Tryz.prog 29 F29 := FOk.of Tryz.func29 (by kernel_rfl) (by kernel_rfl) (by kernel_rfl) (by kernel_rfl)
theorem ok46 : FOk Tryz.prog 46 F46 := FOk.of Tryz.func46 (by kernel_rfl) (by kernel_rfl) (by kernel_rfl) (by kernel_rfl)
theorem ok47 : FOk Tryz.prog 47 F47 := FOk.of Tryz.func47 (by kernel_rfl) (by kernel_rfl) (by kernel_rfl) (by kernel_rfl)
theorem ok48 : FOk Tryz.prog 48 F48 := FOk.of Tryz.func48 (by kernel_rfl) (by kernel_rfl) (by kernel_rfl) (by kernel_rfl)
theorem ok49 : FOk Tryz.prog 49 F49 := FOk.of Tryz.func49 (by kernel_rfl) (by kernel_rfl) (by kernel_rfl) (by kernel_rfl)
theorem ok50 : FOk Tryz.prog 50 F50 := FOk.of Tryz.func50 (by kernel_rfl) (by kernel_rfl) (by kernel_rfl) (by kernel_rfl)
theorem ok51 : FOk Tryz.prog 51 F51 := FOk.of Tryz.func51 (by kernel_rfl) (by kernel_rfl) (by kernel_rfl) (by kernel_rfl)
theorem ok52 : FOk Tryz.prog 52 F52 := FOk.of Tryz.func52 (by kernel_rfl) (by kernel_rfl) (by kernel_rfl) (by kernel_rfl)
theorem ok54 : FOk Tryz.prog 54 F54 := FOk.of Tryz.func54 (by kernel_rfl) (by kernel_rfl) (by kernel_rfl) (by kernel_rfl)
theorem ok56 : FOk Tryz.prog 56 F56 := FOk.of Tryz.func56 (by kernel_rfl) (by kernel_rfl) (by kernel_rfl) (by kernel_rfl)
def tabL : List (Nat × AFun) := [(3, F3), (4, F4), (5, F5), (6, F6), (7, F7), (8, F8), (9, F9), (10, F10), (11, F11), (12, F12), (13, F13), (14, F14), (15, F15), (16, F16), (17, F17), (18, F18), (19, F19), (20, F20), (21, F21), (29, F29), (46, F46), (47, F47), (48, F48), (49, F49), (50, F50), (51, F51), (52, F52), (54, F54), (56, F56)]
theorem tab_ok : ∀ p ∈ tabL, FOk Tryz.prog p.1 p.2 := (List.forall_mem_cons.2 ⟨ok3, (List.forall_mem_cons.2 ⟨ok4, (List.forall_mem_cons.2 ⟨ok5, (List.forall_mem_cons.2 ⟨ok6, (List.forall_mem_cons.2 ⟨ok7, (List.forall_mem_cons.2 ⟨ok8, (List.forall_mem_cons.2 ⟨ok9, (List.forall_mem_cons.2 ⟨ok10, (List.forall_mem_cons.2 ⟨ok11, (List.forall_mem_cons.2 ⟨ok12, (List.forall_mem_cons.2 ⟨ok13, (List.forall_mem_cons.2 ⟨ok14, (List.forall_mem_cons.2 ⟨ok15, (List.forall_mem_cons.2 ⟨ok16, (List.forall_mem_cons.2 ⟨ok17, (List.forall_mem_cons.2 ⟨ok18, (List.forall_mem_cons.2 ⟨ok19, (List.forall_mem_cons.2 ⟨ok20, (List.forall_mem_cons.2 ⟨ok21, (List.forall_mem_cons.2 ⟨ok29, (List.forall_mem_cons.2 ⟨ok46, (List.forall_mem_cons.2 ⟨ok47, (List.forall_mem_cons.2 ⟨ok48, (List.forall_mem_cons.2 ⟨ok49, (List.forall_mem_cons.2 ⟨ok50, (List.forall_mem_cons.2 ⟨ok51, (List.forall_mem_cons.2 ⟨ok52, (List.forall_mem_cons.2 ⟨ok54, (List.forall_mem_cons.2 ⟨ok56, (List.forall_mem_nil _)⟩)⟩)⟩)⟩)⟩)⟩)⟩)⟩)⟩)⟩)⟩)⟩)⟩)⟩)⟩)⟩)⟩)⟩)⟩)⟩)⟩)⟩)⟩)⟩)⟩)⟩)⟩)⟩)⟩)
def mach : Mach := machOf tabL [] noSpec
theorem mach_ok : MachOk Tryz.prog mach := machOf_ok tab_ok (List.forall_mem_nil _) noSpec_ok
set_option maxRecDepth 100000 in
theorem run (n1 : Int) : xcode mach 400 F3.body (xretQ F3 isTrue) (F3.env0 [.agg (Array.replicate 12 junk), .int .i64 n1]) h0 = true := by kernel_rfl
theorem walk (c0 : Array Value) (hc0 : c0.size = 12) (n1 : Int) (W : World) : Calls Tryz.prog 3 #[.agg c0, .int .i64 n1] W fun e W' => e = .returned (.bool true) ∧ Kept W W' :=
  calls_of_law (sound_of_run follows mach_ok ok3 (run n1)) (fun _ _ hk => isTrue_eq hk) (R.empty W) (VL.cons (V.aggJunk hc0) (VL.cons (.int _ _) (VL.nil _))) foot_empty

set_option maxRecDepth 100000 in
theorem lifted (os : Os) (started : os.Started) (H : Type) (enc : TypeId × Value → H) :
    ReturnsInHanded {} Tryz.checked os 3 .any (Rows.epochNobodySpec.pre6 enc Tryz.prog Tryz.f3 Rows.epochNobodyRow.domain false) (Rows.epochNobodySpec.post enc Tryz.prog Tryz.f3 false true false false) := by
  refine returnsInHanded_of_change (C := Tryz.checked) own started (by kernel_rfl) Tryz.func3
    (ChangeSpec.witness6 (enc := enc) (C := Tryz.checked) false ⟨#[], #[.agg #[.int .i64 0, .int .i64 0, .string .empty, .int .i64 0, .int .i64 0, .int .i64 0, .int .i64 0, .int .i64 0, .int .u32 0, .int .i64 0, .int .i64 0, .slice none 0 0], .int .i64 0], []⟩ 8 (by kernel_rfl) (by kernel_rfl) (by kernel_rfl) (by kernel_rfl)) ?_
  intro W base args ds gs before hval0 hW _ _
  have hval : ∀ (j : Nat) t v, Tryz.f3.params[j]? = some t → args[j]? = some v → Value.okWide Tryz.prog W .any base t v := hval0
  have hW' := hW
  obtain ⟨p, q, hA0, hV, rfl, hfz, hnd⟩ := hW
  have hA : DataW.TrodAll enc Tryz.prog W 0 (fun _ => true) true Tryz.f3.params.toList args.toList ds p := hA0
  rw [Tryz.params3] at hA hval
  obtain ⟨v0, vs0, d0, ds0, p0, q0, hargs, rfl, rfl, h0, r0⟩ := trodAll_cons hA
  obtain ⟨v1, vs1, d1, ds1, p1, q1, rfl, rfl, rfl, h1, r1⟩ := trodAll_cons r0
  obtain ⟨rfl, rfl, rfl⟩ := trodAll_nil r1
  obtain rfl : args = #[v0, v1] := by cases args; simp_all
  obtain ⟨c0, rfl, hc0⟩ := okWide_agg Tryz.underlying27 (by kernel_rfl) (hval 0 27 v0 rfl rfl)
  obtain ⟨n1, rfl⟩ := okWide_int Tryz.underlying3 (hval 1 3 v1 rfl rfl)
  refine (walk c0 hc0 n1 W).mono fun e W' ⟨he, hk⟩ => ?_
  subst he
  have hT : ∀ t ∈ Tryz.f3.params.toList, t < Tryz.prog.types.size := by
    have h : (Tryz.f3.params.toList.all fun t => decide (t < Tryz.prog.types.size)) = true := by kernel_rfl
    exact fun t ht => of_decide_eq_true (List.all_eq_true.1 h t ht)
  exact ⟨_, rfl, post_law kids full hT rfl Tryz.underlying4 rfl (fun gs' e => by subst e; rfl) hW' hk⟩

theorem epochNobody_holds : Rows.EpochNobodySaid :=
  OpenClaim.holds_of_wide 3 Tryz.f3 rfl rfl rfl rfl rfl rfl rfl ⟨rfl, rfl, rfl, rfl, rfl⟩ rfl rfl rfl rfl rfl (by kernel_rfl) Tryz.func3 (by kernel_rfl)
    (of_decide_eq_true (by kernel_rfl)) (by unfold Func.isWrapper; first | (rw [if_pos (by decide +kernel)]; kernel_rfl) | (rw [if_neg (by decide +kernel)]; exact ⟨rfl, rfl⟩))
    (fun os started H enc _ => lifted os started H enc)
#print axioms epochNobody_holds
end Go.Proofs.YtbnfbpiahcjhkaaGreat
