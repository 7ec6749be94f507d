/-
  Whatever the thicknesses are, as long as they are as the first skin says, probes that are wrong by no more than they may be, and seasons that take what they may, contradict nothing, and each point is as thick as its bounds say; the law's guards are those of the given statement.
-/
import Derived.Test.YtoglnllbopcejaaTa
import Derived.Test.YtoglnllbopcejaaRows
import Derived.WalkKit
import Derived.ProofKit
import Derived.ShutString
import Derived.KernelRfl
set_option linter.unusedVariables false
namespace Go.Proofs.Ytoglnllbopcejaa.wearTrue
open Go.ChangeShapes Go.WideShapes Go.ChangeAt Go.RowKit Go.Ev
theorem own : ownKnob Try.prog.godebug = none := by kernel_rfl
theorem laidOut : laidOutB Try.prog = true := by kernel_rfl
theorem law : ∀ avs, TyArgs Try.prog Try.f6.params.toList avs → Con Try.prog 6 avs [] (.b true) [] := wearTrue_law
set_option maxRecDepth 100000 in
theorem lifted (os : Os) (started : os.Started) (H : Type) (enc : TypeId × Value → H) :
    ReturnsInHanded {} Try.checked os 6 .any (Rows.wearTrueSpec.pre6 enc Try.prog Try.f6 Rows.wearTrueRow.domain false) (Rows.wearTrueSpec.post enc Try.prog Try.f6 false true false false) := by
  refine returnsInHanded_of_change_sized (C := Try.checked) own started (by kernel_rfl) Try.func6
    (ChangeSpec.witness6 (enc := enc) (C := Try.checked) false ⟨#[], #[.agg #[.slice none 0 0, .slice none 0 0, .int .i64 0, .int .i64 0, .int .i64 0, .slice none 0 0], .slice none 0 0, .slice none 0 0, .agg #[.int .i64 0, .int .i64 0]], []⟩ 8 (by kernel_rfl) (by kernel_rfl) (by kernel_rfl) (by kernel_rfl)) ?_
  intro W base args ds gs before hval0 hW hcnd hsz0 _
  have hval : ∀ (j : Nat) t v, Try.f6.params[j]? = some t → args[j]? = some v → Value.okWide Try.prog W .any base t v := hval0
  have hW' := hW
  obtain ⟨p, q, hA, hV, rfl, hfz, hnd⟩ := hW
  have hA0 : DataW.TrodAll enc Try.prog W 0 (fun _ => true) true Try.f6.params.toList args.toList ds p := hA
  obtain ⟨rfl, rfl⟩ := trodVars_none hV
  have hc := law_calls (P := Try.prog) (f := 6) (fn := Try.f6) rfl (by kernel_rfl) law hval hA0
  have hb : ∀ W', Below W.heap.size W W' → DataW.TrodAll enc Try.prog W' 0 (fun b => decide (b < W.heap.size)) true Try.f6.params.toList args.toList ds p := fun W' bel => trodAll_below laidOut (by kernel_rfl) hA0 bel
  have hd : ds.length = 4 := by
    have := trodAll_len hA0
    rw [this.2]; rfl
  match ds, hd, hb, hW' with
  | [d0, d1, d2, d3], _, hb, hW' =>
    refine hc.mono fun e W' ⟨he, bel⟩ => ?_
    subst he
    exact ⟨_, rfl, _, _, _, [], _, [], hW', trodAll_mk1 (shut_bool (by kernel_rfl) _), hb W' bel, rfl, bel.frame _, fun h => by cases h⟩
theorem over : Rows.wearTrueRow.holds Try.pinned (OpenSpec.ofChange Rows.wearTrueSpec) :=
  OpenClaim.holds_of_wide 6 Try.f6 rfl rfl rfl rfl rfl rfl rfl ⟨rfl, rfl, rfl, rfl, rfl⟩ rfl rfl rfl rfl rfl (by kernel_rfl) Try.func6 (by kernel_rfl)
    (of_decide_eq_true (by kernel_rfl)) (by unfold Func.isWrapper; first | (rw [if_pos (by decide +kernel)]; kernel_rfl) | (rw [if_neg (by decide +kernel)]; exact ⟨rfl, rfl⟩))
    (fun os started H enc _ => lifted os started H enc)
theorem proved : Rows.WearTrueSaid := over
end Go.Proofs.Ytoglnllbopcejaa.wearTrue
namespace Go.Proofs.Ytoglnllbopcejaa
theorem wearTrue_holds : Rows.WearTrueSaid := wearTrue.proved
end Go.Proofs.Ytoglnllbopcejaa
