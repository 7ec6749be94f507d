/-
  No cell of these rows narrows 'for every input' (looked for: loops, veiled, ifaces, maps, wideKeys, modest, calm, conditions, laid).
  DERIVED. THE GIVEN ROWS OF THIS SEAT. 10 by the template 'for every input the law returns true; each argument reads behind the call as it read before'; 0 by the template 'total and deterministic' (their statements: YteclfchlejocmaaTotals.lean).
  GIVEN WITH THE SEED: the statements are not yours to turn. If you find one false, say at which input.
  Laid BY PROGRAM, IN A SANDBOX (cutbox-rows.mjs): the forced cells as the released guide's own fill.sh prints them over the translation a302f5f75681e96e… (all of the seat's roots in one cut). By AI agents, Wed Nov 11 2026. No macro, syntax, notation, axiom, sorry.
-/
import Derived.Test.YteclfchlejocmaaChecked
import GoSem.Claim
import GoSem.ClaimJoined
import GoSem.ClaimMapViews
import Derived.JoinedTies
import Derived.KernelRfl
namespace Go.Proofs.Yteclfchlejocmaa
/- THE CELL 'sum', in the pinned program and in every row, IS THE sha256 OF THE DUMP (.gsa) THAT YteclfchlejocmaaProg.lean LOADS. Nothing in Lean hashes anything: it is a label: what it is worth is what the hold of that sum in a sandbox is worth. -/
noncomputable def Try.pinned : Pinned := { name := "yteclfchlejocmaa", sum := "a302f5f75681e96eb2fa53063a2dff8082240ff458b8c58176bbe8dad921bfb8", checked := Try.checked }
namespace Rows
def none {H : Type} : Left H := { results := [], args := [] }

/-- 'thatchlaw07.WearChecks': WHATEVER THE INPUT: true; the input reads as it did. -/
def wearChecksSpec : ChangeSpec := { name := "wearChecks", fn := fun _ => fun
  | [d1, d2] => { results := [.lit (.bool true)], args := [d1, d2] }
  | _ => none }
def wearChecksRow : OpenClaim := { program := "yteclfchlejocmaa", sum := "a302f5f75681e96eb2fa53063a2dff8082240ff458b8c58176bbe8dad921bfb8", func := "thatch/thatchlaw07.WearChecks", spec := "wearChecks", unfollowed := true, recurses := true, apart := false }
def WearChecksSaid : Prop := wearChecksRow.holds Try.pinned (OpenSpec.ofChange wearChecksSpec)

/-- ITS FALSE NEIGHBOUR: 'it returns false'. Refute it at one input. -/
def wearChecksWrong : ChangeSpec := { name := "wearChecks", fn := fun _ => fun
  | [d1, d2] => { results := [.lit (.bool false)], args := [d1, d2] }
  | _ => none }
def WearChecksWrongFalsely : Prop := wearChecksRow.holds Try.pinned (OpenSpec.ofChange wearChecksWrong)

/-- 'thatchlaw07.WearRates': WHATEVER THE INPUT: true; the input reads as it did. -/
def wearRatesSpec : ChangeSpec := { name := "wearRates", fn := fun _ => fun
  | [d1, d2, d3, d4, d5] => { results := [.lit (.bool true)], args := [d1, d2, d3, d4, d5] }
  | _ => none }
def wearRatesRow : OpenClaim := { program := "yteclfchlejocmaa", sum := "a302f5f75681e96eb2fa53063a2dff8082240ff458b8c58176bbe8dad921bfb8", func := "thatch/thatchlaw07.WearRates", spec := "wearRates", unfollowed := true, recurses := true, apart := false }
def WearRatesSaid : Prop := wearRatesRow.holds Try.pinned (OpenSpec.ofChange wearRatesSpec)

/-- ITS FALSE NEIGHBOUR: 'it returns false'. Refute it at one input. -/
def wearRatesWrong : ChangeSpec := { name := "wearRates", fn := fun _ => fun
  | [d1, d2, d3, d4, d5] => { results := [.lit (.bool false)], args := [d1, d2, d3, d4, d5] }
  | _ => none }
def WearRatesWrongFalsely : Prop := wearRatesRow.holds Try.pinned (OpenSpec.ofChange wearRatesWrong)

/-- 'thatchlaw07.WearSteep': WHATEVER THE INPUT: true; the input reads as it did. -/
def wearSteepSpec : ChangeSpec := { name := "wearSteep", fn := fun _ => fun
  | [d1, d2, d3] => { results := [.lit (.bool true)], args := [d1, d2, d3] }
  | _ => none }
def wearSteepRow : OpenClaim := { program := "yteclfchlejocmaa", sum := "a302f5f75681e96eb2fa53063a2dff8082240ff458b8c58176bbe8dad921bfb8", func := "thatch/thatchlaw07.WearSteep", spec := "wearSteep", unfollowed := true, recurses := true, apart := false }
def WearSteepSaid : Prop := wearSteepRow.holds Try.pinned (OpenSpec.ofChange wearSteepSpec)

/-- ITS FALSE NEIGHBOUR: 'it returns false'. Refute it at one input. -/
def wearSteepWrong : ChangeSpec := { name := "wearSteep", fn := fun _ => fun
  | [d1, d2, d3] => { results := [.lit (.bool false)], args := [d1, d2, d3] }
  | _ => none }
def WearSteepWrongFalsely : Prop := wearSteepRow.holds Try.pinned (OpenSpec.ofChange wearSteepWrong)

/-- 'thatchlaw07.WearFlatter': WHATEVER THE INPUT: true; the input reads as it did. -/
def wearFlatterSpec : ChangeSpec := { name := "wearFlatter", fn := fun _ => fun
  | [d1, d2, d3] => { results := [.lit (.bool true)], args := [d1, d2, d3] }
  | _ => none }
def wearFlatterRow : OpenClaim := { program := "yteclfchlejocmaa", sum := "a302f5f75681e96eb2fa53063a2dff8082240ff458b8c58176bbe8dad921bfb8", func := "thatch/thatchlaw07.WearFlatter", spec := "wearFlatter", unfollowed := true, recurses := true, apart := false }
def WearFlatterSaid : Prop := wearFlatterRow.holds Try.pinned (OpenSpec.ofChange wearFlatterSpec)

/-- ITS FALSE NEIGHBOUR: 'it returns false'. Refute it at one input. -/
def wearFlatterWrong : ChangeSpec := { name := "wearFlatter", fn := fun _ => fun
  | [d1, d2, d3] => { results := [.lit (.bool false)], args := [d1, d2, d3] }
  | _ => none }
def WearFlatterWrongFalsely : Prop := wearFlatterRow.holds Try.pinned (OpenSpec.ofChange wearFlatterWrong)

/-- 'thatchlaw07.WearSeasons': WHATEVER THE INPUT: true; the input reads as it did. -/
def wearSeasonsSpec : ChangeSpec := { name := "wearSeasons", fn := fun _ => fun
  | [d1, d2, d3] => { results := [.lit (.bool true)], args := [d1, d2, d3] }
  | _ => none }
def wearSeasonsRow : OpenClaim := { program := "yteclfchlejocmaa", sum := "a302f5f75681e96eb2fa53063a2dff8082240ff458b8c58176bbe8dad921bfb8", func := "thatch/thatchlaw07.WearSeasons", spec := "wearSeasons", unfollowed := true, recurses := true, apart := false }
def WearSeasonsSaid : Prop := wearSeasonsRow.holds Try.pinned (OpenSpec.ofChange wearSeasonsSpec)

/-- ITS FALSE NEIGHBOUR: 'it returns false'. Refute it at one input. -/
def wearSeasonsWrong : ChangeSpec := { name := "wearSeasons", fn := fun _ => fun
  | [d1, d2, d3] => { results := [.lit (.bool false)], args := [d1, d2, d3] }
  | _ => none }
def WearSeasonsWrongFalsely : Prop := wearSeasonsRow.holds Try.pinned (OpenSpec.ofChange wearSeasonsWrong)

/-- 'thatchlaw07.WearTwice': WHATEVER THE INPUT: true; the input reads as it did. -/
def wearTwiceSpec : ChangeSpec := { name := "wearTwice", fn := fun _ => fun
  | [d1, d2, d3] => { results := [.lit (.bool true)], args := [d1, d2, d3] }
  | _ => none }
def wearTwiceRow : OpenClaim := { program := "yteclfchlejocmaa", sum := "a302f5f75681e96eb2fa53063a2dff8082240ff458b8c58176bbe8dad921bfb8", func := "thatch/thatchlaw07.WearTwice", spec := "wearTwice", unfollowed := true, recurses := true, apart := false }
def WearTwiceSaid : Prop := wearTwiceRow.holds Try.pinned (OpenSpec.ofChange wearTwiceSpec)

/-- ITS FALSE NEIGHBOUR: 'it returns false'. Refute it at one input. -/
def wearTwiceWrong : ChangeSpec := { name := "wearTwice", fn := fun _ => fun
  | [d1, d2, d3] => { results := [.lit (.bool false)], args := [d1, d2, d3] }
  | _ => none }
def WearTwiceWrongFalsely : Prop := wearTwiceRow.holds Try.pinned (OpenSpec.ofChange wearTwiceWrong)

/-- 'thatchlaw07.WearProbes': WHATEVER THE INPUT: true; the input reads as it did. -/
def wearProbesSpec : ChangeSpec := { name := "wearProbes", fn := fun _ => fun
  | [d1, d2, d3, d4] => { results := [.lit (.bool true)], args := [d1, d2, d3, d4] }
  | _ => none }
def wearProbesRow : OpenClaim := { program := "yteclfchlejocmaa", sum := "a302f5f75681e96eb2fa53063a2dff8082240ff458b8c58176bbe8dad921bfb8", func := "thatch/thatchlaw07.WearProbes", spec := "wearProbes", inPlace := ["slices.overlaps[thatch/api.Mark]"], unfollowed := true, recurses := true, apart := false }
def WearProbesSaid : Prop := wearProbesRow.holds Try.pinned (OpenSpec.ofChange wearProbesSpec)

/-- ITS FALSE NEIGHBOUR: 'it returns false'. Refute it at one input. -/
def wearProbesWrong : ChangeSpec := { name := "wearProbes", fn := fun _ => fun
  | [d1, d2, d3, d4] => { results := [.lit (.bool false)], args := [d1, d2, d3, d4] }
  | _ => none }
def WearProbesWrongFalsely : Prop := wearProbesRow.holds Try.pinned (OpenSpec.ofChange wearProbesWrong)

/-- 'thatchlaw07.WearOrder': WHATEVER THE INPUT: true; the input reads as it did. -/
def wearOrderSpec : ChangeSpec := { name := "wearOrder", fn := fun _ => fun
  | [d1, d2, d3] => { results := [.lit (.bool true)], args := [d1, d2, d3] }
  | _ => none }
def wearOrderRow : OpenClaim := { program := "yteclfchlejocmaa", sum := "a302f5f75681e96eb2fa53063a2dff8082240ff458b8c58176bbe8dad921bfb8", func := "thatch/thatchlaw07.WearOrder", spec := "wearOrder", inPlace := ["slices.overlaps[thatch/api.Mark]"], unfollowed := true, recurses := true, apart := false }
def WearOrderSaid : Prop := wearOrderRow.holds Try.pinned (OpenSpec.ofChange wearOrderSpec)

/-- ITS FALSE NEIGHBOUR: 'it returns false'. Refute it at one input. -/
def wearOrderWrong : ChangeSpec := { name := "wearOrder", fn := fun _ => fun
  | [d1, d2, d3] => { results := [.lit (.bool false)], args := [d1, d2, d3] }
  | _ => none }
def WearOrderWrongFalsely : Prop := wearOrderRow.holds Try.pinned (OpenSpec.ofChange wearOrderWrong)

/-- 'thatchlaw07.WearNarrower': WHATEVER THE INPUT: true; the input reads as it did. -/
def wearNarrowerSpec : ChangeSpec := { name := "wearNarrower", fn := fun _ => fun
  | [d1, d2, d3] => { results := [.lit (.bool true)], args := [d1, d2, d3] }
  | _ => none }
def wearNarrowerRow : OpenClaim := { program := "yteclfchlejocmaa", sum := "a302f5f75681e96eb2fa53063a2dff8082240ff458b8c58176bbe8dad921bfb8", func := "thatch/thatchlaw07.WearNarrower", spec := "wearNarrower", inPlace := ["slices.overlaps[thatch/api.Mark]"], unfollowed := true, recurses := true, apart := false }
def WearNarrowerSaid : Prop := wearNarrowerRow.holds Try.pinned (OpenSpec.ofChange wearNarrowerSpec)

/-- ITS FALSE NEIGHBOUR: 'it returns false'. Refute it at one input. -/
def wearNarrowerWrong : ChangeSpec := { name := "wearNarrower", fn := fun _ => fun
  | [d1, d2, d3] => { results := [.lit (.bool false)], args := [d1, d2, d3] }
  | _ => none }
def WearNarrowerWrongFalsely : Prop := wearNarrowerRow.holds Try.pinned (OpenSpec.ofChange wearNarrowerWrong)

/-- 'thatchlaw07.WearTrue': WHATEVER THE INPUT: true; the input reads as it did. -/
def wearTrueSpec : ChangeSpec := { name := "wearTrue", fn := fun _ => fun
  | [d1, d2, d3, d4] => { results := [.lit (.bool true)], args := [d1, d2, d3, d4] }
  | _ => none }
def wearTrueRow : OpenClaim := { program := "yteclfchlejocmaa", sum := "a302f5f75681e96eb2fa53063a2dff8082240ff458b8c58176bbe8dad921bfb8", func := "thatch/thatchlaw07.WearTrue", spec := "wearTrue", inPlace := ["slices.overlaps[thatch/api.Mark]"], unfollowed := true, recurses := true, apart := false }
def WearTrueSaid : Prop := wearTrueRow.holds Try.pinned (OpenSpec.ofChange wearTrueSpec)

/-- ITS FALSE NEIGHBOUR: 'it returns false'. Refute it at one input. -/
def wearTrueWrong : ChangeSpec := { name := "wearTrue", fn := fun _ => fun
  | [d1, d2, d3, d4] => { results := [.lit (.bool false)], args := [d1, d2, d3, d4] }
  | _ => none }
def WearTrueWrongFalsely : Prop := wearTrueRow.holds Try.pinned (OpenSpec.ofChange wearTrueWrong)

/- THE SECOND FORM. 'bulk': how many values and letters a reading holds, each counted each time it is reached (what is shared counts as often as it is met; a slice's spare places count too). A statement '..UptoSaid' is the law's where the arguments, and the package variables that the reading takes, are together of bulk at most 1048576: NARROWER than '..Said'. Prove '..Said' where nothing that the law and all that it calls make is longer than what came in: it says more and counts as full. Else prove '..UptoSaid'. A law counts once. -/
mutual
def uptoBulk {H : Type} : DataW H → Nat
  | .lit (.string bytes) => bytes.length + 1
  | .lit _ => 1
  | .nil => 1
  | .ptr d => uptoBulk d + 1
  | .slice elems spare => uptoBulkAll elems + uptoBulkAll spare + 1
  | .agg parts => uptoBulkAll parts + 1
  | .iface _ d => uptoBulk d + 1
  | .map entries => uptoBulkEntries entries + 1
  | .held _ => 1
def uptoBulkAll {H : Type} : List (DataW H) → Nat
  | [] => 0
  | d :: r => uptoBulk d + uptoBulkAll r
def uptoBulkEntries {H : Type} : List (Lit × DataW H) → Nat
  | [] => 0
  | x :: r => uptoBulkEntry x + uptoBulkEntries r
def uptoBulkEntry {H : Type} : Lit × DataW H → Nat
  | (.string bytes, d) => bytes.length + uptoBulk d + 1
  | (_, d) => uptoBulk d + 1
 end
def uptoSmall : (H : Type) → List (DataW H) → Bool := fun _ ds => decide (uptoBulkAll ds ≤ 1048576)
def OpenSpec.upto (s : _root_.Go.ChangeSpec) : _root_.Go.OpenSpec := { _root_.Go.OpenSpec.ofChange s with cond := some uptoSmall }

/-- 'thatchlaw07.WearChecks', WHERE WHAT IT READS IS OF BULK AT MOST 1048576: true; the input reads as it did. -/
def wearChecksUptoRow : OpenClaim := { program := "yteclfchlejocmaa", sum := "a302f5f75681e96eb2fa53063a2dff8082240ff458b8c58176bbe8dad921bfb8", func := "thatch/thatchlaw07.WearChecks", spec := "wearChecks", unfollowed := true, recurses := true, apart := false, narrowed := true }
def WearChecksUptoSaid : Prop := wearChecksUptoRow.holds Try.pinned (OpenSpec.upto wearChecksSpec)

/-- 'thatchlaw07.WearRates', WHERE WHAT IT READS IS OF BULK AT MOST 1048576: true; the input reads as it did. -/
def wearRatesUptoRow : OpenClaim := { program := "yteclfchlejocmaa", sum := "a302f5f75681e96eb2fa53063a2dff8082240ff458b8c58176bbe8dad921bfb8", func := "thatch/thatchlaw07.WearRates", spec := "wearRates", unfollowed := true, recurses := true, apart := false, narrowed := true }
def WearRatesUptoSaid : Prop := wearRatesUptoRow.holds Try.pinned (OpenSpec.upto wearRatesSpec)

/-- 'thatchlaw07.WearSteep', WHERE WHAT IT READS IS OF BULK AT MOST 1048576: true; the input reads as it did. -/
def wearSteepUptoRow : OpenClaim := { program := "yteclfchlejocmaa", sum := "a302f5f75681e96eb2fa53063a2dff8082240ff458b8c58176bbe8dad921bfb8", func := "thatch/thatchlaw07.WearSteep", spec := "wearSteep", unfollowed := true, recurses := true, apart := false, narrowed := true }
def WearSteepUptoSaid : Prop := wearSteepUptoRow.holds Try.pinned (OpenSpec.upto wearSteepSpec)

/-- 'thatchlaw07.WearFlatter', WHERE WHAT IT READS IS OF BULK AT MOST 1048576: true; the input reads as it did. -/
def wearFlatterUptoRow : OpenClaim := { program := "yteclfchlejocmaa", sum := "a302f5f75681e96eb2fa53063a2dff8082240ff458b8c58176bbe8dad921bfb8", func := "thatch/thatchlaw07.WearFlatter", spec := "wearFlatter", unfollowed := true, recurses := true, apart := false, narrowed := true }
def WearFlatterUptoSaid : Prop := wearFlatterUptoRow.holds Try.pinned (OpenSpec.upto wearFlatterSpec)

/-- 'thatchlaw07.WearSeasons', WHERE WHAT IT READS IS OF BULK AT MOST 1048576: true; the input reads as it did. -/
def wearSeasonsUptoRow : OpenClaim := { program := "yteclfchlejocmaa", sum := "a302f5f75681e96eb2fa53063a2dff8082240ff458b8c58176bbe8dad921bfb8", func := "thatch/thatchlaw07.WearSeasons", spec := "wearSeasons", unfollowed := true, recurses := true, apart := false, narrowed := true }
def WearSeasonsUptoSaid : Prop := wearSeasonsUptoRow.holds Try.pinned (OpenSpec.upto wearSeasonsSpec)

/-- 'thatchlaw07.WearTwice', WHERE WHAT IT READS IS OF BULK AT MOST 1048576: true; the input reads as it did. -/
def wearTwiceUptoRow : OpenClaim := { program := "yteclfchlejocmaa", sum := "a302f5f75681e96eb2fa53063a2dff8082240ff458b8c58176bbe8dad921bfb8", func := "thatch/thatchlaw07.WearTwice", spec := "wearTwice", unfollowed := true, recurses := true, apart := false, narrowed := true }
def WearTwiceUptoSaid : Prop := wearTwiceUptoRow.holds Try.pinned (OpenSpec.upto wearTwiceSpec)

/-- 'thatchlaw07.WearProbes', WHERE WHAT IT READS IS OF BULK AT MOST 1048576: true; the input reads as it did. -/
def wearProbesUptoRow : OpenClaim := { program := "yteclfchlejocmaa", sum := "a302f5f75681e96eb2fa53063a2dff8082240ff458b8c58176bbe8dad921bfb8", func := "thatch/thatchlaw07.WearProbes", spec := "wearProbes", inPlace := ["slices.overlaps[thatch/api.Mark]"], unfollowed := true, recurses := true, apart := false, narrowed := true }
def WearProbesUptoSaid : Prop := wearProbesUptoRow.holds Try.pinned (OpenSpec.upto wearProbesSpec)

/-- 'thatchlaw07.WearOrder', WHERE WHAT IT READS IS OF BULK AT MOST 1048576: true; the input reads as it did. -/
def wearOrderUptoRow : OpenClaim := { program := "yteclfchlejocmaa", sum := "a302f5f75681e96eb2fa53063a2dff8082240ff458b8c58176bbe8dad921bfb8", func := "thatch/thatchlaw07.WearOrder", spec := "wearOrder", inPlace := ["slices.overlaps[thatch/api.Mark]"], unfollowed := true, recurses := true, apart := false, narrowed := true }
def WearOrderUptoSaid : Prop := wearOrderUptoRow.holds Try.pinned (OpenSpec.upto wearOrderSpec)

/-- 'thatchlaw07.WearNarrower', WHERE WHAT IT READS IS OF BULK AT MOST 1048576: true; the input reads as it did. -/
def wearNarrowerUptoRow : OpenClaim := { program := "yteclfchlejocmaa", sum := "a302f5f75681e96eb2fa53063a2dff8082240ff458b8c58176bbe8dad921bfb8", func := "thatch/thatchlaw07.WearNarrower", spec := "wearNarrower", inPlace := ["slices.overlaps[thatch/api.Mark]"], unfollowed := true, recurses := true, apart := false, narrowed := true }
def WearNarrowerUptoSaid : Prop := wearNarrowerUptoRow.holds Try.pinned (OpenSpec.upto wearNarrowerSpec)

/-- 'thatchlaw07.WearTrue', WHERE WHAT IT READS IS OF BULK AT MOST 1048576: true; the input reads as it did. -/
def wearTrueUptoRow : OpenClaim := { program := "yteclfchlejocmaa", sum := "a302f5f75681e96eb2fa53063a2dff8082240ff458b8c58176bbe8dad921bfb8", func := "thatch/thatchlaw07.WearTrue", spec := "wearTrue", inPlace := ["slices.overlaps[thatch/api.Mark]"], unfollowed := true, recurses := true, apart := false, narrowed := true }
def WearTrueUptoSaid : Prop := wearTrueUptoRow.holds Try.pinned (OpenSpec.upto wearTrueSpec)

end Rows
end Go.Proofs.Yteclfchlejocmaa
