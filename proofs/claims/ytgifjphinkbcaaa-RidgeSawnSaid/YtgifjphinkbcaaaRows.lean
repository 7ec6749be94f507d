/-
  No cell of these rows narrows 'for every input' (looked for: loops, veiled, ifaces, maps, wideKeys, modest, calm, conditions, laid).
  DERIVED. THE GIVEN ROWS OF THIS SEAT. 15 by the template 'for every input the law returns true; each argument reads behind the call as it read before'; 0 by the template 'total and deterministic' (their statements: YtgifjphinkbcaaaTotals.lean).
  GIVEN WITH THE SEED: the statements are not yours to turn. If you find one false, say at which input.
  Laid BY PROGRAM, IN A SANDBOX (cutbox-rows.mjs): the forced cells as the released guide's own fill.sh prints them over the translation 1434da75f26e11f0… (all of the seat's roots in one cut). By AI agents, Wed Nov 11 2026. No macro, syntax, notation, axiom, sorry.
-/
import Derived.Test.YtgifjphinkbcaaaChecked
import GoSem.Claim
import GoSem.ClaimJoined
import GoSem.ClaimMapViews
import Derived.JoinedTies
import Derived.KernelRfl
namespace Go.Proofs.Ytgifjphinkbcaaa
/- THE CELL 'sum', in the pinned program and in every row, IS THE sha256 OF THE DUMP (.gsa) THAT YtgifjphinkbcaaaProg.lean LOADS. Nothing in Lean hashes anything: it is a label: what it is worth is what the hold of that sum in a sandbox is worth. -/
noncomputable def Try.pinned : Pinned := { name := "ytgifjphinkbcaaa", sum := "1434da75f26e11f0a6809638be2661f6e313dacd940cc3c8898d66a2dab262db", checked := Try.checked }
namespace Rows
def none {H : Type} : Left H := { results := [], args := [] }

/-- 'thatchlaw06.RidgeFirst': WHATEVER THE INPUT: true; the input reads as it did. -/
def ridgeFirstSpec : ChangeSpec := { name := "ridgeFirst", fn := fun _ => fun
  | [d] => { results := [.lit (.bool true)], args := [d] }
  | _ => none }
def ridgeFirstRow : OpenClaim := { program := "ytgifjphinkbcaaa", sum := "1434da75f26e11f0a6809638be2661f6e313dacd940cc3c8898d66a2dab262db", func := "thatch/thatchlaw06.RidgeFirst", spec := "ridgeFirst", unfollowed := true, recurses := true, plainKeys := false, apart := false }
def RidgeFirstSaid : Prop := ridgeFirstRow.holds Try.pinned (OpenSpec.ofChange ridgeFirstSpec)

/-- ITS FALSE NEIGHBOUR: 'it returns false'. Refute it at one input. -/
def ridgeFirstWrong : ChangeSpec := { name := "ridgeFirst", fn := fun _ => fun
  | [d] => { results := [.lit (.bool false)], args := [d] }
  | _ => none }
def RidgeFirstWrongFalsely : Prop := ridgeFirstRow.holds Try.pinned (OpenSpec.ofChange ridgeFirstWrong)

/-- 'thatchlaw06.RidgeFibonacci': WHATEVER THE INPUT: true; the input reads as it did. -/
def ridgeFibonacciSpec : ChangeSpec := { name := "ridgeFibonacci", fn := fun _ => fun
  | [d] => { results := [.lit (.bool true)], args := [d] }
  | _ => none }
def ridgeFibonacciRow : OpenClaim := { program := "ytgifjphinkbcaaa", sum := "1434da75f26e11f0a6809638be2661f6e313dacd940cc3c8898d66a2dab262db", func := "thatch/thatchlaw06.RidgeFibonacci", spec := "ridgeFibonacci", unfollowed := true, recurses := true, plainKeys := false, apart := false }
def RidgeFibonacciSaid : Prop := ridgeFibonacciRow.holds Try.pinned (OpenSpec.ofChange ridgeFibonacciSpec)

/-- ITS FALSE NEIGHBOUR: 'it returns false'. Refute it at one input. -/
def ridgeFibonacciWrong : ChangeSpec := { name := "ridgeFibonacci", fn := fun _ => fun
  | [d] => { results := [.lit (.bool false)], args := [d] }
  | _ => none }
def RidgeFibonacciWrongFalsely : Prop := ridgeFibonacciRow.holds Try.pinned (OpenSpec.ofChange ridgeFibonacciWrong)

/-- 'thatchlaw06.RidgeBounds': WHATEVER THE INPUT: true; the input reads as it did. -/
def ridgeBoundsSpec : ChangeSpec := { name := "ridgeBounds", fn := fun _ => fun
  | [d1, d2] => { results := [.lit (.bool true)], args := [d1, d2] }
  | _ => none }
def ridgeBoundsRow : OpenClaim := { program := "ytgifjphinkbcaaa", sum := "1434da75f26e11f0a6809638be2661f6e313dacd940cc3c8898d66a2dab262db", func := "thatch/thatchlaw06.RidgeBounds", spec := "ridgeBounds", unfollowed := true, recurses := true, plainKeys := false, apart := false }
def RidgeBoundsSaid : Prop := ridgeBoundsRow.holds Try.pinned (OpenSpec.ofChange ridgeBoundsSpec)

/-- ITS FALSE NEIGHBOUR: 'it returns false'. Refute it at one input. -/
def ridgeBoundsWrong : ChangeSpec := { name := "ridgeBounds", fn := fun _ => fun
  | [d1, d2] => { results := [.lit (.bool false)], args := [d1, d2] }
  | _ => none }
def RidgeBoundsWrongFalsely : Prop := ridgeBoundsRow.holds Try.pinned (OpenSpec.ofChange ridgeBoundsWrong)

/-- 'thatchlaw06.RidgeImage': WHATEVER THE INPUT: true; the input reads as it did. -/
def ridgeImageSpec : ChangeSpec := { name := "ridgeImage", fn := fun _ => fun
  | [d1, d2] => { results := [.lit (.bool true)], args := [d1, d2] }
  | _ => none }
def ridgeImageRow : OpenClaim := { program := "ytgifjphinkbcaaa", sum := "1434da75f26e11f0a6809638be2661f6e313dacd940cc3c8898d66a2dab262db", func := "thatch/thatchlaw06.RidgeImage", spec := "ridgeImage", unfollowed := true, recurses := true, plainKeys := false, apart := false }
def RidgeImageSaid : Prop := ridgeImageRow.holds Try.pinned (OpenSpec.ofChange ridgeImageSpec)

/-- ITS FALSE NEIGHBOUR: 'it returns false'. Refute it at one input. -/
def ridgeImageWrong : ChangeSpec := { name := "ridgeImage", fn := fun _ => fun
  | [d1, d2] => { results := [.lit (.bool false)], args := [d1, d2] }
  | _ => none }
def RidgeImageWrongFalsely : Prop := ridgeImageRow.holds Try.pinned (OpenSpec.ofChange ridgeImageWrong)

/-- 'thatchlaw06.RidgeChecks': WHATEVER THE INPUT: true; the input reads as it did. -/
def ridgeChecksSpec : ChangeSpec := { name := "ridgeChecks", fn := fun _ => fun
  | [d1, d2] => { results := [.lit (.bool true)], args := [d1, d2] }
  | _ => none }
def ridgeChecksRow : OpenClaim := { program := "ytgifjphinkbcaaa", sum := "1434da75f26e11f0a6809638be2661f6e313dacd940cc3c8898d66a2dab262db", func := "thatch/thatchlaw06.RidgeChecks", spec := "ridgeChecks", unfollowed := true, recurses := true, plainKeys := false, apart := false }
def RidgeChecksSaid : Prop := ridgeChecksRow.holds Try.pinned (OpenSpec.ofChange ridgeChecksSpec)

/-- ITS FALSE NEIGHBOUR: 'it returns false'. Refute it at one input. -/
def ridgeChecksWrong : ChangeSpec := { name := "ridgeChecks", fn := fun _ => fun
  | [d1, d2] => { results := [.lit (.bool false)], args := [d1, d2] }
  | _ => none }
def RidgeChecksWrongFalsely : Prop := ridgeChecksRow.holds Try.pinned (OpenSpec.ofChange ridgeChecksWrong)

/-- 'thatchlaw06.RidgeWays': WHATEVER THE INPUT: true; the input reads as it did. -/
def ridgeWaysSpec : ChangeSpec := { name := "ridgeWays", fn := fun _ => fun
  | [d] => { results := [.lit (.bool true)], args := [d] }
  | _ => none }
def ridgeWaysRow : OpenClaim := { program := "ytgifjphinkbcaaa", sum := "1434da75f26e11f0a6809638be2661f6e313dacd940cc3c8898d66a2dab262db", func := "thatch/thatchlaw06.RidgeWays", spec := "ridgeWays", unfollowed := true, recurses := true, plainKeys := false, apart := false }
def RidgeWaysSaid : Prop := ridgeWaysRow.holds Try.pinned (OpenSpec.ofChange ridgeWaysSpec)

/-- ITS FALSE NEIGHBOUR: 'it returns false'. Refute it at one input. -/
def ridgeWaysWrong : ChangeSpec := { name := "ridgeWays", fn := fun _ => fun
  | [d] => { results := [.lit (.bool false)], args := [d] }
  | _ => none }
def RidgeWaysWrongFalsely : Prop := ridgeWaysRow.holds Try.pinned (OpenSpec.ofChange ridgeWaysWrong)

/-- 'thatchlaw06.RidgeNeeds': WHATEVER THE INPUT: true; the input reads as it did. -/
def ridgeNeedsSpec : ChangeSpec := { name := "ridgeNeeds", fn := fun _ => fun
  | [d1, d2] => { results := [.lit (.bool true)], args := [d1, d2] }
  | _ => none }
def ridgeNeedsRow : OpenClaim := { program := "ytgifjphinkbcaaa", sum := "1434da75f26e11f0a6809638be2661f6e313dacd940cc3c8898d66a2dab262db", func := "thatch/thatchlaw06.RidgeNeeds", spec := "ridgeNeeds", unfollowed := true, recurses := true, plainKeys := false, apart := false }
def RidgeNeedsSaid : Prop := ridgeNeedsRow.holds Try.pinned (OpenSpec.ofChange ridgeNeedsSpec)

/-- ITS FALSE NEIGHBOUR: 'it returns false'. Refute it at one input. -/
def ridgeNeedsWrong : ChangeSpec := { name := "ridgeNeeds", fn := fun _ => fun
  | [d1, d2] => { results := [.lit (.bool false)], args := [d1, d2] }
  | _ => none }
def RidgeNeedsWrongFalsely : Prop := ridgeNeedsRow.holds Try.pinned (OpenSpec.ofChange ridgeNeedsWrong)

/-- 'thatchlaw06.RidgeNths': WHATEVER THE INPUT: true; the input reads as it did. -/
def ridgeNthsSpec : ChangeSpec := { name := "ridgeNths", fn := fun _ => fun
  | [d1, d2, d3] => { results := [.lit (.bool true)], args := [d1, d2, d3] }
  | _ => none }
def ridgeNthsRow : OpenClaim := { program := "ytgifjphinkbcaaa", sum := "1434da75f26e11f0a6809638be2661f6e313dacd940cc3c8898d66a2dab262db", func := "thatch/thatchlaw06.RidgeNths", spec := "ridgeNths", unfollowed := true, recurses := true, plainKeys := false, apart := false }
def RidgeNthsSaid : Prop := ridgeNthsRow.holds Try.pinned (OpenSpec.ofChange ridgeNthsSpec)

/-- ITS FALSE NEIGHBOUR: 'it returns false'. Refute it at one input. -/
def ridgeNthsWrong : ChangeSpec := { name := "ridgeNths", fn := fun _ => fun
  | [d1, d2, d3] => { results := [.lit (.bool false)], args := [d1, d2, d3] }
  | _ => none }
def RidgeNthsWrongFalsely : Prop := ridgeNthsRow.holds Try.pinned (OpenSpec.ofChange ridgeNthsWrong)

/-- 'thatchlaw06.RidgeRanks': WHATEVER THE INPUT: true; the input reads as it did. -/
def ridgeRanksSpec : ChangeSpec := { name := "ridgeRanks", fn := fun _ => fun
  | [d1, d2] => { results := [.lit (.bool true)], args := [d1, d2] }
  | _ => none }
def ridgeRanksRow : OpenClaim := { program := "ytgifjphinkbcaaa", sum := "1434da75f26e11f0a6809638be2661f6e313dacd940cc3c8898d66a2dab262db", func := "thatch/thatchlaw06.RidgeRanks", spec := "ridgeRanks", unfollowed := true, recurses := true, plainKeys := false, apart := false }
def RidgeRanksSaid : Prop := ridgeRanksRow.holds Try.pinned (OpenSpec.ofChange ridgeRanksSpec)

/-- ITS FALSE NEIGHBOUR: 'it returns false'. Refute it at one input. -/
def ridgeRanksWrong : ChangeSpec := { name := "ridgeRanks", fn := fun _ => fun
  | [d1, d2] => { results := [.lit (.bool false)], args := [d1, d2] }
  | _ => none }
def RidgeRanksWrongFalsely : Prop := ridgeRanksRow.holds Try.pinned (OpenSpec.ofChange ridgeRanksWrong)

/-- 'thatchlaw06.RidgeEven': WHATEVER THE INPUT: true; the input reads as it did. -/
def ridgeEvenSpec : ChangeSpec := { name := "ridgeEven", fn := fun _ => fun
  | [d] => { results := [.lit (.bool true)], args := [d] }
  | _ => none }
def ridgeEvenRow : OpenClaim := { program := "ytgifjphinkbcaaa", sum := "1434da75f26e11f0a6809638be2661f6e313dacd940cc3c8898d66a2dab262db", func := "thatch/thatchlaw06.RidgeEven", spec := "ridgeEven", unfollowed := true, recurses := true, plainKeys := false, apart := false }
def RidgeEvenSaid : Prop := ridgeEvenRow.holds Try.pinned (OpenSpec.ofChange ridgeEvenSpec)

/-- ITS FALSE NEIGHBOUR: 'it returns false'. Refute it at one input. -/
def ridgeEvenWrong : ChangeSpec := { name := "ridgeEven", fn := fun _ => fun
  | [d] => { results := [.lit (.bool false)], args := [d] }
  | _ => none }
def RidgeEvenWrongFalsely : Prop := ridgeEvenRow.holds Try.pinned (OpenSpec.ofChange ridgeEvenWrong)

/-- 'thatchlaw06.RidgePlans': WHATEVER THE INPUT: true; the input reads as it did. -/
def ridgePlansSpec : ChangeSpec := { name := "ridgePlans", fn := fun _ => fun
  | [d] => { results := [.lit (.bool true)], args := [d] }
  | _ => none }
def ridgePlansRow : OpenClaim := { program := "ytgifjphinkbcaaa", sum := "1434da75f26e11f0a6809638be2661f6e313dacd940cc3c8898d66a2dab262db", func := "thatch/thatchlaw06.RidgePlans", spec := "ridgePlans", unfollowed := true, recurses := true, plainKeys := false, apart := false }
def RidgePlansSaid : Prop := ridgePlansRow.holds Try.pinned (OpenSpec.ofChange ridgePlansSpec)

/-- ITS FALSE NEIGHBOUR: 'it returns false'. Refute it at one input. -/
def ridgePlansWrong : ChangeSpec := { name := "ridgePlans", fn := fun _ => fun
  | [d] => { results := [.lit (.bool false)], args := [d] }
  | _ => none }
def RidgePlansWrongFalsely : Prop := ridgePlansRow.holds Try.pinned (OpenSpec.ofChange ridgePlansWrong)

/-- 'thatchlaw06.RidgeFewer': WHATEVER THE INPUT: true; the input reads as it did. -/
def ridgeFewerSpec : ChangeSpec := { name := "ridgeFewer", fn := fun _ => fun
  | [d1, d2, d3] => { results := [.lit (.bool true)], args := [d1, d2, d3] }
  | _ => none }
def ridgeFewerRow : OpenClaim := { program := "ytgifjphinkbcaaa", sum := "1434da75f26e11f0a6809638be2661f6e313dacd940cc3c8898d66a2dab262db", func := "thatch/thatchlaw06.RidgeFewer", spec := "ridgeFewer", unfollowed := true, recurses := true, plainKeys := false, apart := false }
def RidgeFewerSaid : Prop := ridgeFewerRow.holds Try.pinned (OpenSpec.ofChange ridgeFewerSpec)

/-- ITS FALSE NEIGHBOUR: 'it returns false'. Refute it at one input. -/
def ridgeFewerWrong : ChangeSpec := { name := "ridgeFewer", fn := fun _ => fun
  | [d1, d2, d3] => { results := [.lit (.bool false)], args := [d1, d2, d3] }
  | _ => none }
def RidgeFewerWrongFalsely : Prop := ridgeFewerRow.holds Try.pinned (OpenSpec.ofChange ridgeFewerWrong)

/-- 'thatchlaw06.RidgeProves': WHATEVER THE INPUT: true; the input reads as it did. -/
def ridgeProvesSpec : ChangeSpec := { name := "ridgeProves", fn := fun _ => fun
  | [d1, d2] => { results := [.lit (.bool true)], args := [d1, d2] }
  | _ => none }
def ridgeProvesRow : OpenClaim := { program := "ytgifjphinkbcaaa", sum := "1434da75f26e11f0a6809638be2661f6e313dacd940cc3c8898d66a2dab262db", func := "thatch/thatchlaw06.RidgeProves", spec := "ridgeProves", unfollowed := true, recurses := true, plainKeys := false, apart := false }
def RidgeProvesSaid : Prop := ridgeProvesRow.holds Try.pinned (OpenSpec.ofChange ridgeProvesSpec)

/-- ITS FALSE NEIGHBOUR: 'it returns false'. Refute it at one input. -/
def ridgeProvesWrong : ChangeSpec := { name := "ridgeProves", fn := fun _ => fun
  | [d1, d2] => { results := [.lit (.bool false)], args := [d1, d2] }
  | _ => none }
def RidgeProvesWrongFalsely : Prop := ridgeProvesRow.holds Try.pinned (OpenSpec.ofChange ridgeProvesWrong)

/-- 'thatchlaw06.RidgeAlike': WHATEVER THE INPUT: true; the input reads as it did. -/
def ridgeAlikeSpec : ChangeSpec := { name := "ridgeAlike", fn := fun _ => fun
  | [d1, d2, d3, d4] => { results := [.lit (.bool true)], args := [d1, d2, d3, d4] }
  | _ => none }
def ridgeAlikeRow : OpenClaim := { program := "ytgifjphinkbcaaa", sum := "1434da75f26e11f0a6809638be2661f6e313dacd940cc3c8898d66a2dab262db", func := "thatch/thatchlaw06.RidgeAlike", spec := "ridgeAlike", unfollowed := true, recurses := true, plainKeys := false, apart := false }
def RidgeAlikeSaid : Prop := ridgeAlikeRow.holds Try.pinned (OpenSpec.ofChange ridgeAlikeSpec)

/-- ITS FALSE NEIGHBOUR: 'it returns false'. Refute it at one input. -/
def ridgeAlikeWrong : ChangeSpec := { name := "ridgeAlike", fn := fun _ => fun
  | [d1, d2, d3, d4] => { results := [.lit (.bool false)], args := [d1, d2, d3, d4] }
  | _ => none }
def RidgeAlikeWrongFalsely : Prop := ridgeAlikeRow.holds Try.pinned (OpenSpec.ofChange ridgeAlikeWrong)

/-- 'thatchlaw06.RidgeSawn': WHATEVER THE INPUT: true; the input reads as it did. -/
def ridgeSawnSpec : ChangeSpec := { name := "ridgeSawn", fn := fun _ => fun
  | [d1, d2, d3, d4] => { results := [.lit (.bool true)], args := [d1, d2, d3, d4] }
  | _ => none }
def ridgeSawnRow : OpenClaim := { program := "ytgifjphinkbcaaa", sum := "1434da75f26e11f0a6809638be2661f6e313dacd940cc3c8898d66a2dab262db", func := "thatch/thatchlaw06.RidgeSawn", spec := "ridgeSawn", unfollowed := true, recurses := true, plainKeys := false, apart := false }
def RidgeSawnSaid : Prop := ridgeSawnRow.holds Try.pinned (OpenSpec.ofChange ridgeSawnSpec)

/-- ITS FALSE NEIGHBOUR: 'it returns false'. Refute it at one input. -/
def ridgeSawnWrong : ChangeSpec := { name := "ridgeSawn", fn := fun _ => fun
  | [d1, d2, d3, d4] => { results := [.lit (.bool false)], args := [d1, d2, d3, d4] }
  | _ => none }
def RidgeSawnWrongFalsely : Prop := ridgeSawnRow.holds Try.pinned (OpenSpec.ofChange ridgeSawnWrong)

/- THE SECOND FORM. 'bulk': how many values and letters a reading holds, each counted each time it is reached (what is shared counts as often as it is met; a slice's spare places count too). A statement '..UptoSaid' is the law's where the arguments, and the package variables that the reading takes, are together of bulk at most 1048576: NARROWER than '..Said'. Prove '..Said' where nothing that the law and all that it calls make is longer than what came in: it says more and counts as full. Else prove '..UptoSaid'. A law counts once. -/
mutual
def uptoBulk {H : Type} : DataW H → Nat
  | .lit (.string bytes) => bytes.length + 1
  | .lit _ => 1
  | .nil => 1
  | .ptr d => uptoBulk d + 1
  | .slice elems spare => uptoBulkAll elems + uptoBulkAll spare + 1
  | .agg parts => uptoBulkAll parts + 1
  | .iface _ d => uptoBulk d + 1
  | .map entries => uptoBulkEntries entries + 1
  | .held _ => 1
def uptoBulkAll {H : Type} : List (DataW H) → Nat
  | [] => 0
  | d :: r => uptoBulk d + uptoBulkAll r
def uptoBulkEntries {H : Type} : List (Lit × DataW H) → Nat
  | [] => 0
  | x :: r => uptoBulkEntry x + uptoBulkEntries r
def uptoBulkEntry {H : Type} : Lit × DataW H → Nat
  | (.string bytes, d) => bytes.length + uptoBulk d + 1
  | (_, d) => uptoBulk d + 1
 end
def uptoSmall : (H : Type) → List (DataW H) → Bool := fun _ ds => decide (uptoBulkAll ds ≤ 1048576)
def OpenSpec.upto (s : _root_.Go.ChangeSpec) : _root_.Go.OpenSpec := { _root_.Go.OpenSpec.ofChange s with cond := some uptoSmall }

/-- 'thatchlaw06.RidgeFirst', WHERE WHAT IT READS IS OF BULK AT MOST 1048576: true; the input reads as it did. -/
def ridgeFirstUptoRow : OpenClaim := { program := "ytgifjphinkbcaaa", sum := "1434da75f26e11f0a6809638be2661f6e313dacd940cc3c8898d66a2dab262db", func := "thatch/thatchlaw06.RidgeFirst", spec := "ridgeFirst", unfollowed := true, recurses := true, plainKeys := false, apart := false, narrowed := true }
def RidgeFirstUptoSaid : Prop := ridgeFirstUptoRow.holds Try.pinned (OpenSpec.upto ridgeFirstSpec)

/-- 'thatchlaw06.RidgeFibonacci', WHERE WHAT IT READS IS OF BULK AT MOST 1048576: true; the input reads as it did. -/
def ridgeFibonacciUptoRow : OpenClaim := { program := "ytgifjphinkbcaaa", sum := "1434da75f26e11f0a6809638be2661f6e313dacd940cc3c8898d66a2dab262db", func := "thatch/thatchlaw06.RidgeFibonacci", spec := "ridgeFibonacci", unfollowed := true, recurses := true, plainKeys := false, apart := false, narrowed := true }
def RidgeFibonacciUptoSaid : Prop := ridgeFibonacciUptoRow.holds Try.pinned (OpenSpec.upto ridgeFibonacciSpec)

/-- 'thatchlaw06.RidgeBounds', WHERE WHAT IT READS IS OF BULK AT MOST 1048576: true; the input reads as it did. -/
def ridgeBoundsUptoRow : OpenClaim := { program := "ytgifjphinkbcaaa", sum := "1434da75f26e11f0a6809638be2661f6e313dacd940cc3c8898d66a2dab262db", func := "thatch/thatchlaw06.RidgeBounds", spec := "ridgeBounds", unfollowed := true, recurses := true, plainKeys := false, apart := false, narrowed := true }
def RidgeBoundsUptoSaid : Prop := ridgeBoundsUptoRow.holds Try.pinned (OpenSpec.upto ridgeBoundsSpec)

/-- 'thatchlaw06.RidgeImage', WHERE WHAT IT READS IS OF BULK AT MOST 1048576: true; the input reads as it did. -/
def ridgeImageUptoRow : OpenClaim := { program := "ytgifjphinkbcaaa", sum := "1434da75f26e11f0a6809638be2661f6e313dacd940cc3c8898d66a2dab262db", func := "thatch/thatchlaw06.RidgeImage", spec := "ridgeImage", unfollowed := true, recurses := true, plainKeys := false, apart := false, narrowed := true }
def RidgeImageUptoSaid : Prop := ridgeImageUptoRow.holds Try.pinned (OpenSpec.upto ridgeImageSpec)

/-- 'thatchlaw06.RidgeChecks', WHERE WHAT IT READS IS OF BULK AT MOST 1048576: true; the input reads as it did. -/
def ridgeChecksUptoRow : OpenClaim := { program := "ytgifjphinkbcaaa", sum := "1434da75f26e11f0a6809638be2661f6e313dacd940cc3c8898d66a2dab262db", func := "thatch/thatchlaw06.RidgeChecks", spec := "ridgeChecks", unfollowed := true, recurses := true, plainKeys := false, apart := false, narrowed := true }
def RidgeChecksUptoSaid : Prop := ridgeChecksUptoRow.holds Try.pinned (OpenSpec.upto ridgeChecksSpec)

/-- 'thatchlaw06.RidgeWays', WHERE WHAT IT READS IS OF BULK AT MOST 1048576: true; the input reads as it did. -/
def ridgeWaysUptoRow : OpenClaim := { program := "ytgifjphinkbcaaa", sum := "1434da75f26e11f0a6809638be2661f6e313dacd940cc3c8898d66a2dab262db", func := "thatch/thatchlaw06.RidgeWays", spec := "ridgeWays", unfollowed := true, recurses := true, plainKeys := false, apart := false, narrowed := true }
def RidgeWaysUptoSaid : Prop := ridgeWaysUptoRow.holds Try.pinned (OpenSpec.upto ridgeWaysSpec)

/-- 'thatchlaw06.RidgeNeeds', WHERE WHAT IT READS IS OF BULK AT MOST 1048576: true; the input reads as it did. -/
def ridgeNeedsUptoRow : OpenClaim := { program := "ytgifjphinkbcaaa", sum := "1434da75f26e11f0a6809638be2661f6e313dacd940cc3c8898d66a2dab262db", func := "thatch/thatchlaw06.RidgeNeeds", spec := "ridgeNeeds", unfollowed := true, recurses := true, plainKeys := false, apart := false, narrowed := true }
def RidgeNeedsUptoSaid : Prop := ridgeNeedsUptoRow.holds Try.pinned (OpenSpec.upto ridgeNeedsSpec)

/-- 'thatchlaw06.RidgeNths', WHERE WHAT IT READS IS OF BULK AT MOST 1048576: true; the input reads as it did. -/
def ridgeNthsUptoRow : OpenClaim := { program := "ytgifjphinkbcaaa", sum := "1434da75f26e11f0a6809638be2661f6e313dacd940cc3c8898d66a2dab262db", func := "thatch/thatchlaw06.RidgeNths", spec := "ridgeNths", unfollowed := true, recurses := true, plainKeys := false, apart := false, narrowed := true }
def RidgeNthsUptoSaid : Prop := ridgeNthsUptoRow.holds Try.pinned (OpenSpec.upto ridgeNthsSpec)

/-- 'thatchlaw06.RidgeRanks', WHERE WHAT IT READS IS OF BULK AT MOST 1048576: true; the input reads as it did. -/
def ridgeRanksUptoRow : OpenClaim := { program := "ytgifjphinkbcaaa", sum := "1434da75f26e11f0a6809638be2661f6e313dacd940cc3c8898d66a2dab262db", func := "thatch/thatchlaw06.RidgeRanks", spec := "ridgeRanks", unfollowed := true, recurses := true, plainKeys := false, apart := false, narrowed := true }
def RidgeRanksUptoSaid : Prop := ridgeRanksUptoRow.holds Try.pinned (OpenSpec.upto ridgeRanksSpec)

/-- 'thatchlaw06.RidgeEven', WHERE WHAT IT READS IS OF BULK AT MOST 1048576: true; the input reads as it did. -/
def ridgeEvenUptoRow : OpenClaim := { program := "ytgifjphinkbcaaa", sum := "1434da75f26e11f0a6809638be2661f6e313dacd940cc3c8898d66a2dab262db", func := "thatch/thatchlaw06.RidgeEven", spec := "ridgeEven", unfollowed := true, recurses := true, plainKeys := false, apart := false, narrowed := true }
def RidgeEvenUptoSaid : Prop := ridgeEvenUptoRow.holds Try.pinned (OpenSpec.upto ridgeEvenSpec)

/-- 'thatchlaw06.RidgePlans', WHERE WHAT IT READS IS OF BULK AT MOST 1048576: true; the input reads as it did. -/
def ridgePlansUptoRow : OpenClaim := { program := "ytgifjphinkbcaaa", sum := "1434da75f26e11f0a6809638be2661f6e313dacd940cc3c8898d66a2dab262db", func := "thatch/thatchlaw06.RidgePlans", spec := "ridgePlans", unfollowed := true, recurses := true, plainKeys := false, apart := false, narrowed := true }
def RidgePlansUptoSaid : Prop := ridgePlansUptoRow.holds Try.pinned (OpenSpec.upto ridgePlansSpec)

/-- 'thatchlaw06.RidgeFewer', WHERE WHAT IT READS IS OF BULK AT MOST 1048576: true; the input reads as it did. -/
def ridgeFewerUptoRow : OpenClaim := { program := "ytgifjphinkbcaaa", sum := "1434da75f26e11f0a6809638be2661f6e313dacd940cc3c8898d66a2dab262db", func := "thatch/thatchlaw06.RidgeFewer", spec := "ridgeFewer", unfollowed := true, recurses := true, plainKeys := false, apart := false, narrowed := true }
def RidgeFewerUptoSaid : Prop := ridgeFewerUptoRow.holds Try.pinned (OpenSpec.upto ridgeFewerSpec)

/-- 'thatchlaw06.RidgeProves', WHERE WHAT IT READS IS OF BULK AT MOST 1048576: true; the input reads as it did. -/
def ridgeProvesUptoRow : OpenClaim := { program := "ytgifjphinkbcaaa", sum := "1434da75f26e11f0a6809638be2661f6e313dacd940cc3c8898d66a2dab262db", func := "thatch/thatchlaw06.RidgeProves", spec := "ridgeProves", unfollowed := true, recurses := true, plainKeys := false, apart := false, narrowed := true }
def RidgeProvesUptoSaid : Prop := ridgeProvesUptoRow.holds Try.pinned (OpenSpec.upto ridgeProvesSpec)

/-- 'thatchlaw06.RidgeAlike', WHERE WHAT IT READS IS OF BULK AT MOST 1048576: true; the input reads as it did. -/
def ridgeAlikeUptoRow : OpenClaim := { program := "ytgifjphinkbcaaa", sum := "1434da75f26e11f0a6809638be2661f6e313dacd940cc3c8898d66a2dab262db", func := "thatch/thatchlaw06.RidgeAlike", spec := "ridgeAlike", unfollowed := true, recurses := true, plainKeys := false, apart := false, narrowed := true }
def RidgeAlikeUptoSaid : Prop := ridgeAlikeUptoRow.holds Try.pinned (OpenSpec.upto ridgeAlikeSpec)

/-- 'thatchlaw06.RidgeSawn', WHERE WHAT IT READS IS OF BULK AT MOST 1048576: true; the input reads as it did. -/
def ridgeSawnUptoRow : OpenClaim := { program := "ytgifjphinkbcaaa", sum := "1434da75f26e11f0a6809638be2661f6e313dacd940cc3c8898d66a2dab262db", func := "thatch/thatchlaw06.RidgeSawn", spec := "ridgeSawn", unfollowed := true, recurses := true, plainKeys := false, apart := false, narrowed := true }
def RidgeSawnUptoSaid : Prop := ridgeSawnUptoRow.holds Try.pinned (OpenSpec.upto ridgeSawnSpec)

end Rows
end Go.Proofs.Ytgifjphinkbcaaa
