/-
  For every skin, probe and point: no probe makes bounds wider, at its own point they are within what it says, and the same probe once more changes nothing; the law's guards are those of the given statement.
-/
import Derived.Test.YtoglnllbopcejaaTb
import Derived.Test.YtoglnllbopcejaaRows
import Derived.WalkKit
import Derived.ProofKit
import Derived.ShutString
import Derived.KernelRfl
set_option linter.unusedVariables false
namespace Go.Proofs.Ytoglnllbopcejaa.wearNarrower
open Go.ChangeShapes Go.WideShapes Go.ChangeAt Go.RowKit Go.Ev
theorem own : ownKnob Try.prog.godebug = none := by kernel_rfl
theorem laidOut : laidOutB Try.prog = true := by kernel_rfl
theorem law : ∀ avs, TyArgs Try.prog Try.f5.params.toList avs → Con Try.prog 5 avs [] (.b true) [] := wearNarrower_law
set_option maxRecDepth 100000 in
theorem lifted (os : Os) (started : os.Started) (H : Type) (enc : TypeId × Value → H) :
    ReturnsInHanded {} Try.checked os 5 .any (Rows.wearNarrowerSpec.pre6 enc Try.prog Try.f5 Rows.wearNarrowerRow.domain false) (Rows.wearNarrowerSpec.post enc Try.prog Try.f5 false true false false) := by
  refine returnsInHanded_of_change_sized (C := Try.checked) own started (by kernel_rfl) Try.func5
    (ChangeSpec.witness6 (enc := enc) (C := Try.checked) false ⟨#[], #[.agg #[.slice none 0 0, .slice none 0 0, .int .i64 0, .int .i64 0, .int .i64 0, .slice none 0 0], .agg #[.int .i64 0, .int .i64 0, .int .i64 0, .int .i64 0], .agg #[.int .i64 0, .int .i64 0]], []⟩ 8 (by kernel_rfl) (by kernel_rfl) (by kernel_rfl) (by kernel_rfl)) ?_
  intro W base args ds gs before hval0 hW hcnd hsz0 _
  have hval : ∀ (j : Nat) t v, Try.f5.params[j]? = some t → args[j]? = some v → Value.okWide Try.prog W .any base t v := hval0
  have hW' := hW
  obtain ⟨p, q, hA, hV, rfl, hfz, hnd⟩ := hW
  have hA0 : DataW.TrodAll enc Try.prog W 0 (fun _ => true) true Try.f5.params.toList args.toList ds p := hA
  obtain ⟨rfl, rfl⟩ := trodVars_none hV
  have hc := law_calls (P := Try.prog) (f := 5) (fn := Try.f5) rfl (by kernel_rfl) law hval hA0
  have hb : ∀ W', Below W.heap.size W W' → DataW.TrodAll enc Try.prog W' 0 (fun b => decide (b < W.heap.size)) true Try.f5.params.toList args.toList ds p := fun W' bel => trodAll_below laidOut (by kernel_rfl) hA0 bel
  have hd : ds.length = 3 := by
    have := trodAll_len hA0
    rw [this.2]; rfl
  match ds, hd, hb, hW' with
  | [d0, d1, d2], _, hb, hW' =>
    refine hc.mono fun e W' ⟨he, bel⟩ => ?_
    subst he
    exact ⟨_, rfl, _, _, _, [], _, [], hW', trodAll_mk1 (shut_bool (by kernel_rfl) _), hb W' bel, rfl, bel.frame _, fun h => by cases h⟩
theorem over : Rows.wearNarrowerRow.holds Try.pinned (OpenSpec.ofChange Rows.wearNarrowerSpec) :=
  OpenClaim.holds_of_wide 5 Try.f5 rfl rfl rfl rfl rfl rfl rfl ⟨rfl, rfl, rfl, rfl, rfl⟩ rfl rfl rfl rfl rfl (by kernel_rfl) Try.func5 (by kernel_rfl)
    (of_decide_eq_true (by kernel_rfl)) (by unfold Func.isWrapper; first | (rw [if_pos (by decide +kernel)]; kernel_rfl) | (rw [if_neg (by decide +kernel)]; exact ⟨rfl, rfl⟩))
    (fun os started H enc _ => lifted os started H enc)
theorem proved : Rows.WearNarrowerSaid := over
end Go.Proofs.Ytoglnllbopcejaa.wearNarrower
namespace Go.Proofs.Ytoglnllbopcejaa
theorem wearNarrower_holds : Rows.WearNarrowerSaid := wearNarrower.proved
end Go.Proofs.Ytoglnllbopcejaa
