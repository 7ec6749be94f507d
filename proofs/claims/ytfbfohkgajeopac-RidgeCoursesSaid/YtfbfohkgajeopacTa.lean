/-
  RidgeCourses answers true for every coat: the makes of its bundles are the pieces of a ridge, the bundles of each course are a row that fits, what all rows need are the piles of the coat, and the row with the number of each is that row; no conditions.
-/
import Derived.Test.YtfbfohkgajeopacPf
import Derived.Test.YtfbfohkgajeopacPd
set_option linter.unusedVariables false
set_option maxRecDepth 100000
set_option linter.unusedVariables false
namespace Go.Proofs.Ytfbfohkgajeopac
open Go Go.Ev
theorem coat_of {a : AV} (h : TyArg Try.prog 24 a) : ∃ cs, a = .agg [.rs 43 cs] := by
  obtain ⟨bs, rfl, hw⟩ := ty_agg (c := [.sl 43]) (by kernel_rfl) (by kernel_rfl) h
  obtain ⟨b0, q0, rfl, w0, hw⟩ := WTs_cons hw
  obtain rfl := WTs_nil hw
  obtain ⟨cs, rfl, _⟩ := WT_sl w0
  exact ⟨cs, rfl⟩
theorem ridgeCourses_law (avs : List AV) (h : TyArgs Try.prog Try.f3.params.toList avs) : Con Try.prog 3 avs [] (.b true) [] := by
  obtain ⟨a0, r0, rfl, h0, h⟩ := tyArgs_cons h
  obtain rfl := tyArgs_nil h
  obtain ⟨cs, rfl⟩ := coat_of h0
  obtain ⟨h1, h2⟩ := law3 cs
  have := con3n cs h1
  rw [h2] at this
  exact this
end Go.Proofs.Ytfbfohkgajeopac
