/-
  The law WearRates returns true for every climate and all numbers, and leaves its arguments as they were. No conditions.
-/
import Derived.Test.YteclfchlejocmaaEvX
import Derived.KernelRfl
import Derived.Test.YteclfchlejocmaaProg
namespace Go.Proofs.Yteclfchlejocmaa
open Go Go.Ev
def roTab : List (Nat × List Nat) := [(3, [5, 7]), (4, [11, 13]), (5, [7, 9, 13, 14]), (6, [7, 9, 11]), (7, [7, 9]), (8, [7, 9, 10]), (9, [9, 11]), (10, [7, 12]), (11, [7, 9, 10, 11]), (12, [4, 9, 12, 15, 18, 20]), (13, [4]), (14, [1, 3]), (15, [4]), (16, [4]), (17, [5, 7, 9, 10]), (18, [5]), (19, [10]), (20, [10]), (22, [3, 6]), (23, [3, 6]), (25, [4, 8, 11]), (26, [4, 8, 11, 15]), (27, [2, 4, 7]), (31, [0]), (32, [4, 5]), (33, [4, 5, 7]), (35, [4, 5]), (36, [2, 4, 5, 6, 7, 9]), (42, [9, 10, 11]), (46, [4, 6]), (47, [1, 2]), (48, [4]), (49, [1, 2]), (50, [4]), (59, [8]), (73, [4])]
def lookN : List (Nat × List Nat) → Nat → List Nat
  | [], _ => []
  | (k, l) :: r, f => cond (Nat.beq k f) l (lookN r f)
def ro (f : FuncId) (t : Nat) : Bool := !(lookN roTab f).any (Nat.beq t)
end Go.Proofs.Yteclfchlejocmaa
