/-
  The law WearRates returns true for every climate and all numbers, and leaves its arguments as they were. No conditions.
-/
import Derived.Test.YteclfchlejocmaaA3
set_option maxRecDepth 100000
namespace Go.Proofs.Yteclfchlejocmaa
open Go Go.Ev

def its : ISpec := fun g caps => cond (Nat.beq g 73) (match caps with
  | [.rp [.sl 32] [.rs 32 es] 0] => cond (Nat.ble es.length 9223372036854775807 && plainL (sidesL es)) (some ((sidesL es).map fun x => [x])) none
  | _ => none) none
theorem its_ok : IOK Try.prog its := by
  intro g caps xs h
  unfold its at h
  obtain ⟨hg, h2⟩ := cond_some h
  clear h
  have hg := Nat.eq_of_beq_eq_true hg
  subst hg
  split at h2
  · obtain ⟨hc, h3⟩ := cond_some h2
    have hc := Bool.and_eq_true_iff.1 hc
    cases h3
    exact sides_con _ (Nat.le_of_ble_eq_true hc.1) hc.2
  · cases h2
theorem mixed : Try.prog.follows .mixedOrders = true := by kernel_rfl
theorem names0 : (Try.prog.funcs.toList.all fun fn => !(fn.name == "runtime.NumGoroutine")) = true := by kernel_rfl
theorem names (f : FuncId) (fn : Func) (h : Try.prog.funcs[f]? = some fn) : (fn.name == "runtime.NumGoroutine") = false := by
  have := List.all_eq_true.1 names0 fn (Array.mem_toList_iff.2 (Array.mem_of_getElem? h))
  simpa using this
noncomputable def S1 : Ev.Spec := runS Try.prog its ro (fun _ _ => none) 300 5 12
theorem S1_ok : SpecOK Try.prog S1 := runS_ok its_ok mixed names (fun f args pre v h => by cases h) 12
theorem lives_eq : S1 14 [] = some (true, .b true) := by kernel_rfl
theorem lives_con : Con Try.prog 14 [] (.b true) := S1_ok _ _ _ _ lives_eq rfl
end Go.Proofs.Yteclfchlejocmaa
