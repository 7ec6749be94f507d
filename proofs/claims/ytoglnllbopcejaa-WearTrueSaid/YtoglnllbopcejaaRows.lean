/-
  No cell of these rows narrows 'for every input' (looked for: loops, veiled, ifaces, maps, wideKeys, modest, calm, conditions, laid).
  DERIVED. THE GIVEN ROWS OF THIS SEAT. 4 by the template 'for every input the law returns true; each argument reads behind the call as it read before'; 0 by the template 'total and deterministic' (their statements: YtoglnllbopcejaaTotals.lean).
  GIVEN WITH THE SEED: the statements are not yours to turn. If you find one false, say at which input.
  Laid BY PROGRAM, IN A SANDBOX (cutbox-rows.mjs): the forced cells as the released guide's own fill.sh prints them over the translation db03e502e102e57e… (all of the seat's roots in one cut). By AI agents, Wed Nov 11 2026. No macro, syntax, notation, axiom, sorry.
-/
import Derived.Test.YtoglnllbopcejaaChecked
import GoSem.Claim
import GoSem.ClaimJoined
import GoSem.ClaimMapViews
import Derived.JoinedTies
import Derived.KernelRfl
namespace Go.Proofs.Ytoglnllbopcejaa
/- THE CELL 'sum', in the pinned program and in every row, IS THE sha256 OF THE DUMP (.gsa) THAT YtoglnllbopcejaaProg.lean LOADS. Nothing in Lean hashes anything: it is a label: what it is worth is what the hold of that sum in a sandbox is worth. -/
noncomputable def Try.pinned : Pinned := { name := "ytoglnllbopcejaa", sum := "db03e502e102e57e71cd43f143ae220603244d5971f5ce4938980173bee462a9", checked := Try.checked }
namespace Rows
def none {H : Type} : Left H := { results := [], args := [] }

/-- 'thatchlaw07.WearProbes': WHATEVER THE INPUT: true; the input reads as it did. -/
def wearProbesSpec : ChangeSpec := { name := "wearProbes", fn := fun _ => fun
  | [d1, d2, d3, d4] => { results := [.lit (.bool true)], args := [d1, d2, d3, d4] }
  | _ => none }
def wearProbesRow : OpenClaim := { program := "ytoglnllbopcejaa", sum := "db03e502e102e57e71cd43f143ae220603244d5971f5ce4938980173bee462a9", func := "thatch/thatchlaw07.WearProbes", spec := "wearProbes", inPlace := ["slices.overlaps[thatch/api.Mark]"], unfollowed := true, recurses := true, apart := false }
def WearProbesSaid : Prop := wearProbesRow.holds Try.pinned (OpenSpec.ofChange wearProbesSpec)

/-- ITS FALSE NEIGHBOUR: 'it returns false'. Refute it at one input. -/
def wearProbesWrong : ChangeSpec := { name := "wearProbes", fn := fun _ => fun
  | [d1, d2, d3, d4] => { results := [.lit (.bool false)], args := [d1, d2, d3, d4] }
  | _ => none }
def WearProbesWrongFalsely : Prop := wearProbesRow.holds Try.pinned (OpenSpec.ofChange wearProbesWrong)

/-- 'thatchlaw07.WearOrder': WHATEVER THE INPUT: true; the input reads as it did. -/
def wearOrderSpec : ChangeSpec := { name := "wearOrder", fn := fun _ => fun
  | [d1, d2, d3] => { results := [.lit (.bool true)], args := [d1, d2, d3] }
  | _ => none }
def wearOrderRow : OpenClaim := { program := "ytoglnllbopcejaa", sum := "db03e502e102e57e71cd43f143ae220603244d5971f5ce4938980173bee462a9", func := "thatch/thatchlaw07.WearOrder", spec := "wearOrder", inPlace := ["slices.overlaps[thatch/api.Mark]"], unfollowed := true, recurses := true, apart := false }
def WearOrderSaid : Prop := wearOrderRow.holds Try.pinned (OpenSpec.ofChange wearOrderSpec)

/-- ITS FALSE NEIGHBOUR: 'it returns false'. Refute it at one input. -/
def wearOrderWrong : ChangeSpec := { name := "wearOrder", fn := fun _ => fun
  | [d1, d2, d3] => { results := [.lit (.bool false)], args := [d1, d2, d3] }
  | _ => none }
def WearOrderWrongFalsely : Prop := wearOrderRow.holds Try.pinned (OpenSpec.ofChange wearOrderWrong)

/-- 'thatchlaw07.WearNarrower': WHATEVER THE INPUT: true; the input reads as it did. -/
def wearNarrowerSpec : ChangeSpec := { name := "wearNarrower", fn := fun _ => fun
  | [d1, d2, d3] => { results := [.lit (.bool true)], args := [d1, d2, d3] }
  | _ => none }
def wearNarrowerRow : OpenClaim := { program := "ytoglnllbopcejaa", sum := "db03e502e102e57e71cd43f143ae220603244d5971f5ce4938980173bee462a9", func := "thatch/thatchlaw07.WearNarrower", spec := "wearNarrower", inPlace := ["slices.overlaps[thatch/api.Mark]"], unfollowed := true, recurses := true, apart := false }
def WearNarrowerSaid : Prop := wearNarrowerRow.holds Try.pinned (OpenSpec.ofChange wearNarrowerSpec)

/-- ITS FALSE NEIGHBOUR: 'it returns false'. Refute it at one input. -/
def wearNarrowerWrong : ChangeSpec := { name := "wearNarrower", fn := fun _ => fun
  | [d1, d2, d3] => { results := [.lit (.bool false)], args := [d1, d2, d3] }
  | _ => none }
def WearNarrowerWrongFalsely : Prop := wearNarrowerRow.holds Try.pinned (OpenSpec.ofChange wearNarrowerWrong)

/-- 'thatchlaw07.WearTrue': WHATEVER THE INPUT: true; the input reads as it did. -/
def wearTrueSpec : ChangeSpec := { name := "wearTrue", fn := fun _ => fun
  | [d1, d2, d3, d4] => { results := [.lit (.bool true)], args := [d1, d2, d3, d4] }
  | _ => none }
def wearTrueRow : OpenClaim := { program := "ytoglnllbopcejaa", sum := "db03e502e102e57e71cd43f143ae220603244d5971f5ce4938980173bee462a9", func := "thatch/thatchlaw07.WearTrue", spec := "wearTrue", inPlace := ["slices.overlaps[thatch/api.Mark]"], unfollowed := true, recurses := true, apart := false }
def WearTrueSaid : Prop := wearTrueRow.holds Try.pinned (OpenSpec.ofChange wearTrueSpec)

/-- ITS FALSE NEIGHBOUR: 'it returns false'. Refute it at one input. -/
def wearTrueWrong : ChangeSpec := { name := "wearTrue", fn := fun _ => fun
  | [d1, d2, d3, d4] => { results := [.lit (.bool false)], args := [d1, d2, d3, d4] }
  | _ => none }
def WearTrueWrongFalsely : Prop := wearTrueRow.holds Try.pinned (OpenSpec.ofChange wearTrueWrong)

/- THE SECOND FORM. 'bulk': how many values and letters a reading holds, each counted each time it is reached (what is shared counts as often as it is met; a slice's spare places count too). A statement '..UptoSaid' is the law's where the arguments, and the package variables that the reading takes, are together of bulk at most 1048576: NARROWER than '..Said'. Prove '..Said' where nothing that the law and all that it calls make is longer than what came in: it says more and counts as full. Else prove '..UptoSaid'. A law counts once. -/
mutual
def uptoBulk {H : Type} : DataW H → Nat
  | .lit (.string bytes) => bytes.length + 1
  | .lit _ => 1
  | .nil => 1
  | .ptr d => uptoBulk d + 1
  | .slice elems spare => uptoBulkAll elems + uptoBulkAll spare + 1
  | .agg parts => uptoBulkAll parts + 1
  | .iface _ d => uptoBulk d + 1
  | .map entries => uptoBulkEntries entries + 1
  | .held _ => 1
def uptoBulkAll {H : Type} : List (DataW H) → Nat
  | [] => 0
  | d :: r => uptoBulk d + uptoBulkAll r
def uptoBulkEntries {H : Type} : List (Lit × DataW H) → Nat
  | [] => 0
  | x :: r => uptoBulkEntry x + uptoBulkEntries r
def uptoBulkEntry {H : Type} : Lit × DataW H → Nat
  | (.string bytes, d) => bytes.length + uptoBulk d + 1
  | (_, d) => uptoBulk d + 1
 end
def uptoSmall : (H : Type) → List (DataW H) → Bool := fun _ ds => decide (uptoBulkAll ds ≤ 1048576)
def OpenSpec.upto (s : _root_.Go.ChangeSpec) : _root_.Go.OpenSpec := { _root_.Go.OpenSpec.ofChange s with cond := some uptoSmall }

/-- 'thatchlaw07.WearProbes', WHERE WHAT IT READS IS OF BULK AT MOST 1048576: true; the input reads as it did. -/
def wearProbesUptoRow : OpenClaim := { program := "ytoglnllbopcejaa", sum := "db03e502e102e57e71cd43f143ae220603244d5971f5ce4938980173bee462a9", func := "thatch/thatchlaw07.WearProbes", spec := "wearProbes", inPlace := ["slices.overlaps[thatch/api.Mark]"], unfollowed := true, recurses := true, apart := false, narrowed := true }
def WearProbesUptoSaid : Prop := wearProbesUptoRow.holds Try.pinned (OpenSpec.upto wearProbesSpec)

/-- 'thatchlaw07.WearOrder', WHERE WHAT IT READS IS OF BULK AT MOST 1048576: true; the input reads as it did. -/
def wearOrderUptoRow : OpenClaim := { program := "ytoglnllbopcejaa", sum := "db03e502e102e57e71cd43f143ae220603244d5971f5ce4938980173bee462a9", func := "thatch/thatchlaw07.WearOrder", spec := "wearOrder", inPlace := ["slices.overlaps[thatch/api.Mark]"], unfollowed := true, recurses := true, apart := false, narrowed := true }
def WearOrderUptoSaid : Prop := wearOrderUptoRow.holds Try.pinned (OpenSpec.upto wearOrderSpec)

/-- 'thatchlaw07.WearNarrower', WHERE WHAT IT READS IS OF BULK AT MOST 1048576: true; the input reads as it did. -/
def wearNarrowerUptoRow : OpenClaim := { program := "ytoglnllbopcejaa", sum := "db03e502e102e57e71cd43f143ae220603244d5971f5ce4938980173bee462a9", func := "thatch/thatchlaw07.WearNarrower", spec := "wearNarrower", inPlace := ["slices.overlaps[thatch/api.Mark]"], unfollowed := true, recurses := true, apart := false, narrowed := true }
def WearNarrowerUptoSaid : Prop := wearNarrowerUptoRow.holds Try.pinned (OpenSpec.upto wearNarrowerSpec)

/-- 'thatchlaw07.WearTrue', WHERE WHAT IT READS IS OF BULK AT MOST 1048576: true; the input reads as it did. -/
def wearTrueUptoRow : OpenClaim := { program := "ytoglnllbopcejaa", sum := "db03e502e102e57e71cd43f143ae220603244d5971f5ce4938980173bee462a9", func := "thatch/thatchlaw07.WearTrue", spec := "wearTrue", inPlace := ["slices.overlaps[thatch/api.Mark]"], unfollowed := true, recurses := true, apart := false, narrowed := true }
def WearTrueUptoSaid : Prop := wearTrueUptoRow.holds Try.pinned (OpenSpec.upto wearTrueSpec)

end Rows
end Go.Proofs.Ytoglnllbopcejaa
