/-
  RidgeCourses answers true for every coat: the makes of its bundles are the pieces of a ridge, the bundles of each course are a row that fits, what all rows need are the piles of the coat, and the row with the number of each is that row; no conditions.
-/
import Derived.Test.YtfbfohkgajeopacTa
import Derived.Test.YtfbfohkgajeopacRows
import Derived.WalkKit
import Derived.ProofKit
import Derived.ShutString
import Derived.KernelRfl
set_option linter.unusedVariables false
namespace Go.Proofs.Ytfbfohkgajeopac.ridgeCourses
open Go.ChangeShapes Go.WideShapes Go.ChangeAt Go.RowKit Go.Ev
theorem own : ownKnob Try.prog.godebug = none := by kernel_rfl
theorem laidOut : laidOutB Try.prog = true := by kernel_rfl
theorem law : ∀ avs, TyArgs Try.prog Try.f3.params.toList avs → Con Try.prog 3 avs [] (.b true) [] := ridgeCourses_law
set_option maxRecDepth 100000 in
theorem lifted (os : Os) (started : os.Started) (H : Type) (enc : TypeId × Value → H) :
    ReturnsInHanded {} Try.checked os 3 .any (Rows.ridgeCoursesSpec.pre6 enc Try.prog Try.f3 Rows.ridgeCoursesRow.domain false) (Rows.ridgeCoursesSpec.post enc Try.prog Try.f3 false true false false) := by
  refine returnsInHanded_of_change_sized (C := Try.checked) own started (by kernel_rfl) Try.func3
    (ChangeSpec.witness6 (enc := enc) (C := Try.checked) false ⟨#[], #[.agg #[.slice none 0 0]], []⟩ 8 (by kernel_rfl) (by kernel_rfl) (by kernel_rfl) (by kernel_rfl)) ?_
  intro W base args ds gs before hval0 hW hcnd hsz0 _
  have hval : ∀ (j : Nat) t v, Try.f3.params[j]? = some t → args[j]? = some v → Value.okWide Try.prog W .any base t v := hval0
  have hW' := hW
  obtain ⟨p, q, hA, hV, rfl, hfz, hnd⟩ := hW
  have hA0 : DataW.TrodAll enc Try.prog W 0 (fun _ => true) true Try.f3.params.toList args.toList ds p := hA
  obtain ⟨rfl, rfl⟩ := trodVars_none hV
  have hc := law_calls (P := Try.prog) (f := 3) (fn := Try.f3) rfl (by kernel_rfl) law hval hA0
  have hb : ∀ W', Below W.heap.size W W' → DataW.TrodAll enc Try.prog W' 0 (fun b => decide (b < W.heap.size)) true Try.f3.params.toList args.toList ds p := fun W' bel => trodAll_below laidOut (by kernel_rfl) hA0 bel
  have hd : ds.length = 1 := by
    have := trodAll_len hA0
    rw [this.2]; rfl
  match ds, hd, hb, hW' with
  | [d0], _, hb, hW' =>
    refine hc.mono fun e W' ⟨he, bel⟩ => ?_
    subst he
    exact ⟨_, rfl, _, _, _, [], _, [], hW', trodAll_mk1 (shut_bool (by kernel_rfl) _), hb W' bel, rfl, bel.frame _, fun h => by cases h⟩
theorem over : Rows.ridgeCoursesRow.holds Try.pinned (OpenSpec.ofChange Rows.ridgeCoursesSpec) :=
  OpenClaim.holds_of_wide 3 Try.f3 rfl rfl rfl rfl rfl rfl rfl ⟨rfl, rfl, rfl, rfl, rfl⟩ rfl rfl rfl rfl rfl (by kernel_rfl) Try.func3 (by kernel_rfl)
    (of_decide_eq_true (by kernel_rfl)) (by unfold Func.isWrapper; first | (rw [if_pos (by decide +kernel)]; kernel_rfl) | (rw [if_neg (by decide +kernel)]; exact ⟨rfl, rfl⟩))
    (fun os started H enc _ => lifted os started H enc)
theorem proved : Rows.RidgeCoursesSaid := over
end Go.Proofs.Ytfbfohkgajeopac.ridgeCourses
namespace Go.Proofs.Ytfbfohkgajeopac
theorem ridgeCourses_holds : Rows.RidgeCoursesSaid := ridgeCourses.proved
end Go.Proofs.Ytfbfohkgajeopac
