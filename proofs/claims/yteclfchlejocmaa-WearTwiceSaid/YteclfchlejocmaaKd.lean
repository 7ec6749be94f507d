/-
  Two seasons take what one takes that takes both their spans, as far as nothing is gone below 0, and a season that takes nothing changes nothing, for every skin and any two seasons (statement WearTwice); this text is a part of that proof.
-/
import Derived.Test.YteclfchlejocmaaKb
import Derived.Test.YteclfchlejocmaaKc
set_option linter.unusedVariables false
set_option maxRecDepth 100000
set_option linter.unusedVariables false
namespace Go.Proofs.Yteclfchlejocmaa
open Go Go.Ev

/-! ### wear.checkOutline -/
noncomputable def c36 : Code := match Try.f36.body with | some c => c | _ => .skip
noncomputable def s36a (es : List (List AV)) (es_1 : List (List AV)) (n_1 : Int) (n_2 : Int) (n_3 : Int) : St :=
  { t := [(1, .rp [.sl 32] [.rs 32 es] 0), (2, .p 1 0 0), (19, .rs 32 es_1), (20, .i .i64 n_1), (21, .i .i64 n_2)], m := [(0, .dead), (1, .row 35 [[.i .i64 n_3]]), (2, .dead), (3, .dead), (4, .dead), (5, .dead), (6, .dead), (7, .dead), (8, .dead), (9, .dead), (10, .dead), (11, .dead), (12, .dead)], nx := 13, nt := 103 }
noncomputable def lp36a : Code := loopAt c36 [true, true, false, true, false]
noncomputable def ex36a (es : List (List AV)) (es_1 : List (List AV)) (n_1 : Int) (n_2 : Int) (n_3 : Int) : Bool := anyN (ex75 (List.drop (Int.toNat 0) (List.take n_2.toNat es)) (cU (es_1.getD n_2.toNat [])) (cV (es_1.getD n_2.toNat []))) (List.drop (Int.toNat 0) (List.take n_2.toNat es)).length
noncomputable def df36a (es : List (List AV)) (es_1 : List (List AV)) (n_1 : Int) (n_2 : Int) (n_3 : Int) : Bool := (inb n_2 es_1.length) && ((Nat.blt 0 (Try.prog.cellsOf 32) && (decide (0 ≤ 0) && (decide (0 ≤ n_2) && decide (n_2 ≤ (↑es.length : Int))))) && ((List.drop (Int.toNat 0) (List.take n_2.toNat es)).length.ble 9223372036854775807))
noncomputable def q36a_0 (es : List (List AV)) (es_1 : List (List AV)) (n_1 : Int) (n_2 : Int) (n_3 : Int) : Ex × St := (.ret, s36a es es_1 n_1 n_2 6)
noncomputable def q36a (es : List (List AV)) (es_1 : List (List AV)) (n_1 : Int) (n_2 : Int) (n_3 : Int) : Ex × St := q36a_0 es es_1 n_1 n_2 n_3
noncomputable def e36a (es : List (List AV)) (es_1 : List (List AV)) (n_1 : Int) (n_3 : Int) (k : Nat) : Bool := ex36a es es_1 n_1 ((k : Nat) : Int) n_3
noncomputable def d36a (es : List (List AV)) (es_1 : List (List AV)) (n_1 : Int) (n_3 : Int) (k : Nat) : Bool := df36a es es_1 n_1 ((k : Nat) : Int) n_3
noncomputable def st36a (es : List (List AV)) (es_1 : List (List AV)) (n_1 : Int) (n_3 : Int) (k : Nat) : St := s36a es es_1 n_1 ((k : Nat) : Int) n_3
noncomputable def ou36a (es : List (List AV)) (es_1 : List (List AV)) (n_1 : Int) (n_3 : Int) (k : Nat) : Ex × St := q36a es es_1 n_1 ((k : Nat) : Int) n_3
noncomputable def N36a (es : List (List AV)) (es_1 : List (List AV)) (n_1 : Int) (n_3 : Int) : Nat := n_1.toNat
noncomputable def g36a (es : List (List AV)) (es_1 : List (List AV)) (n_1 : Int) (n_3 : Int) : Bool := decide ((n_1 : Int) ≤ 9223372036854775807) && allN (d36a es es_1 n_1 n_3) (N36a es es_1 n_1 n_3)
noncomputable def l36a (st : St) : Option (List (Bool × Ex × St)) := match normE Try.prog [1, 2, 19, 20, 21] 13 st with
  | some ([.rp [.sl 32] [.rs 32 es] 0, .p 1 0 0, .rs 32 es_1, .i .i64 n_1, .i .i64 (.ofNat 0)], [.dead, .row 35 [[.i .i64 n_3]], .dead, .dead, .dead, .dead, .dead, .dead, .dead, .dead, .dead, .dead, .dead], 103) => some [(g36a es es_1 n_1 n_3 && anyN (e36a es es_1 n_1 n_3) (N36a es es_1 n_1 n_3), .ret, (q36a_0 es es_1 n_1 (((firstN (e36a es es_1 n_1 n_3) (N36a es es_1 n_1 n_3)) : Nat) : Int) n_3).2), (g36a es es_1 n_1 n_3, .ext 0, st36a es es_1 n_1 n_3 (N36a es es_1 n_1 n_3))]
  | _ => none
noncomputable def s36b (es : List (List AV)) (es_1 : List (List AV)) (n_1 : Int) (b_1 : Bool) (n_2 : Int) (n_3 : Int) (n_4 : Int) (n_5 : Int) : St :=
  { t := [(1, .rp [.sl 32] [.rs 32 es] 0), (2, .p 1 0 0), (5, .p 13 0 0), (6, .p 25 0 0), (43, .fn 73 [.rp [.sl 32] [.rs 32 es_1] 0])], m := [(0, .dead), (1, .row 35 [[.i .i64 n_1]]), (2, .dead), (3, .dead), (4, .dead), (5, .dead), (6, .dead), (7, .dead), (8, .dead), (9, .dead), (10, .dead), (11, .dead), (12, .dead), (13, .row 4 [[.b b_1]]), (14, .dead), (15, .dead), (16, .dead), (17, .dead), (18, .dead), (19, .dead), (20, .dead), (21, .dead), (22, .dead), (23, .dead), (24, .dead), (25, .row 97 [[.i .i64 n_2, .i .i64 n_3, .i .i64 n_4, .i .i64 n_5]]), (26, .dead), (27, .dead), (28, .dead)], nx := 29, nt := 103 }
noncomputable def rf36b : Code := match locate c36 [true, true, true, true, true, false, true, false] with | some c => c | _ => .skip
noncomputable def as36b : Code := match rf36b with | .rangeFunc _ _ a _ => a | _ => .skip
noncomputable def bd36b : Code := match rf36b with | .rangeFunc _ _ _ b => b | _ => .skip
noncomputable def s36ba (es : List (List AV)) (es_1 : List (List AV)) (es_2 : List (List AV)) (n_1 : Int) (n_2 : Int) (n_3 : Int) (b_1 : Bool) (n_4 : Int) (n_5 : Int) (n_6 : Int) (n_7 : Int) (e0 : Int) (e1 : Int) (e2 : Int) (e3 : Int) : St :=
  { t := [(1, .rp [.sl 32] [.rs 32 es] 0), (2, .p 1 0 0), (5, .p 13 0 0), (6, .p 25 0 0), (7, .p 29 0 0), (43, .fn 73 [.rp [.sl 32] [.rs 32 es_1] 0]), (45, .rs 32 es_2), (46, .i .i64 n_1), (47, .i .i64 n_2)], m := [(0, .dead), (1, .row 35 [[.i .i64 n_3]]), (2, .dead), (3, .dead), (4, .dead), (5, .dead), (6, .dead), (7, .dead), (8, .dead), (9, .dead), (10, .dead), (11, .dead), (12, .dead), (13, .row 4 [[.b b_1]]), (14, .dead), (15, .dead), (16, .dead), (17, .dead), (18, .dead), (19, .dead), (20, .dead), (21, .dead), (22, .dead), (23, .dead), (24, .dead), (25, .row 97 [[.i .i64 n_4, .i .i64 n_5, .i .i64 n_6, .i .i64 n_7]]), (26, .dead), (27, .dead), (28, .dead), (29, .row 97 [[.i .i64 e0, .i .i64 e1, .i .i64 e2, .i .i64 e3]]), (30, .dead), (31, .dead), (32, .dead), (33, .dead)], nx := 34, nt := 103 }
noncomputable def lp36ba : Code := loopAt c36 [true, true, true, true, true, false, true, false, true, false, false, true, false]
noncomputable def ex36ba (es : List (List AV)) (es_1 : List (List AV)) (es_2 : List (List AV)) (n_1 : Int) (n_2 : Int) (n_3 : Int) (b_1 : Bool) (n_4 : Int) (n_5 : Int) (n_6 : Int) (n_7 : Int) (e0 : Int) (e1 : Int) (e2 : Int) (e3 : Int) : Bool := decide (leftI e0 e1 e2 e3 (cU (es_2.getD n_2.toNat [])) (cV (es_2.getD n_2.toNat [])) < 0)
noncomputable def df36ba (es : List (List AV)) (es_1 : List (List AV)) (es_2 : List (List AV)) (n_1 : Int) (n_2 : Int) (n_3 : Int) (b_1 : Bool) (n_4 : Int) (n_5 : Int) (n_6 : Int) (n_7 : Int) (e0 : Int) (e1 : Int) (e2 : Int) (e3 : Int) : Bool := inb n_2 es_2.length
noncomputable def nx36ba_0 (es : List (List AV)) (es_1 : List (List AV)) (es_2 : List (List AV)) (n_1 : Int) (n_2 : Int) (n_3 : Int) (b_1 : Bool) (n_4 : Int) (n_5 : Int) (n_6 : Int) (n_7 : Int) (e0 : Int) (e1 : Int) (e2 : Int) (e3 : Int) : Bool := (decide (leftI e0 e1 e2 e3 (cU (es_2.getD n_2.toNat [])) (cV (es_2.getD n_2.toNat [])) > 0)) || (b_1)
noncomputable def q36ba_0 (es : List (List AV)) (es_1 : List (List AV)) (es_2 : List (List AV)) (n_1 : Int) (n_2 : Int) (n_3 : Int) (b_1 : Bool) (n_4 : Int) (n_5 : Int) (n_6 : Int) (n_7 : Int) (e0 : Int) (e1 : Int) (e2 : Int) (e3 : Int) : Ex × St := (.ret, s36ba es es_1 es_2 n_1 n_2 9 b_1 n_4 n_5 n_6 n_7 e0 e1 e2 e3)
noncomputable def q36ba (es : List (List AV)) (es_1 : List (List AV)) (es_2 : List (List AV)) (n_1 : Int) (n_2 : Int) (n_3 : Int) (b_1 : Bool) (n_4 : Int) (n_5 : Int) (n_6 : Int) (n_7 : Int) (e0 : Int) (e1 : Int) (e2 : Int) (e3 : Int) : Ex × St := q36ba_0 es es_1 es_2 n_1 n_2 n_3 b_1 n_4 n_5 n_6 n_7 e0 e1 e2 e3
noncomputable def a36ba (es : List (List AV)) (es_1 : List (List AV)) (es_2 : List (List AV)) (n_1 : Int) (n_3 : Int) (n_4 : Int) (n_5 : Int) (n_6 : Int) (n_7 : Int) (e0 : Int) (e1 : Int) (e2 : Int) (e3 : Int) (b_1 : Bool) : Nat → Bool
  | 0 => b_1
  | k + 1 => (nx36ba_0 es es_1 es_2 n_1 ((k : Nat) : Int) n_3 ((a36ba es es_1 es_2 n_1 n_3 n_4 n_5 n_6 n_7 e0 e1 e2 e3 b_1 k)) n_4 n_5 n_6 n_7 e0 e1 e2 e3)
noncomputable def e36ba (es : List (List AV)) (es_1 : List (List AV)) (es_2 : List (List AV)) (n_1 : Int) (n_3 : Int) (n_4 : Int) (n_5 : Int) (n_6 : Int) (n_7 : Int) (e0 : Int) (e1 : Int) (e2 : Int) (e3 : Int) (b_1 : Bool) (k : Nat) : Bool := ex36ba es es_1 es_2 n_1 ((k : Nat) : Int) n_3 (a36ba es es_1 es_2 n_1 n_3 n_4 n_5 n_6 n_7 e0 e1 e2 e3 b_1 k) n_4 n_5 n_6 n_7 e0 e1 e2 e3
noncomputable def d36ba (es : List (List AV)) (es_1 : List (List AV)) (es_2 : List (List AV)) (n_1 : Int) (n_3 : Int) (n_4 : Int) (n_5 : Int) (n_6 : Int) (n_7 : Int) (e0 : Int) (e1 : Int) (e2 : Int) (e3 : Int) (b_1 : Bool) (k : Nat) : Bool := df36ba es es_1 es_2 n_1 ((k : Nat) : Int) n_3 (a36ba es es_1 es_2 n_1 n_3 n_4 n_5 n_6 n_7 e0 e1 e2 e3 b_1 k) n_4 n_5 n_6 n_7 e0 e1 e2 e3
noncomputable def st36ba (es : List (List AV)) (es_1 : List (List AV)) (es_2 : List (List AV)) (n_1 : Int) (n_3 : Int) (n_4 : Int) (n_5 : Int) (n_6 : Int) (n_7 : Int) (e0 : Int) (e1 : Int) (e2 : Int) (e3 : Int) (b_1 : Bool) (k : Nat) : St := s36ba es es_1 es_2 n_1 ((k : Nat) : Int) n_3 (a36ba es es_1 es_2 n_1 n_3 n_4 n_5 n_6 n_7 e0 e1 e2 e3 b_1 k) n_4 n_5 n_6 n_7 e0 e1 e2 e3
noncomputable def ou36ba (es : List (List AV)) (es_1 : List (List AV)) (es_2 : List (List AV)) (n_1 : Int) (n_3 : Int) (n_4 : Int) (n_5 : Int) (n_6 : Int) (n_7 : Int) (e0 : Int) (e1 : Int) (e2 : Int) (e3 : Int) (b_1 : Bool) (k : Nat) : Ex × St := q36ba es es_1 es_2 n_1 ((k : Nat) : Int) n_3 (a36ba es es_1 es_2 n_1 n_3 n_4 n_5 n_6 n_7 e0 e1 e2 e3 b_1 k) n_4 n_5 n_6 n_7 e0 e1 e2 e3
noncomputable def N36ba (es : List (List AV)) (es_1 : List (List AV)) (es_2 : List (List AV)) (n_1 : Int) (n_3 : Int) (n_4 : Int) (n_5 : Int) (n_6 : Int) (n_7 : Int) (e0 : Int) (e1 : Int) (e2 : Int) (e3 : Int) (b_1 : Bool) : Nat := n_1.toNat
noncomputable def g36ba (es : List (List AV)) (es_1 : List (List AV)) (es_2 : List (List AV)) (n_1 : Int) (n_3 : Int) (n_4 : Int) (n_5 : Int) (n_6 : Int) (n_7 : Int) (e0 : Int) (e1 : Int) (e2 : Int) (e3 : Int) (b_1 : Bool) : Bool := decide ((n_1 : Int) ≤ 9223372036854775807) && allN (d36ba es es_1 es_2 n_1 n_3 n_4 n_5 n_6 n_7 e0 e1 e2 e3 b_1) (N36ba es es_1 es_2 n_1 n_3 n_4 n_5 n_6 n_7 e0 e1 e2 e3 b_1)
noncomputable def l36ba (st : St) : Option (List (Bool × Ex × St)) := match normE Try.prog [1, 2, 5, 6, 7, 43, 45, 46, 47] 34 st with
  | some ([.rp [.sl 32] [.rs 32 es] 0, .p 1 0 0, .p 13 0 0, .p 25 0 0, .p 29 0 0, .fn 73 [.rp [.sl 32] [.rs 32 es_1] 0], .rs 32 es_2, .i .i64 n_1, .i .i64 (.ofNat 0)], .dead :: .row 35 [[.i .i64 n_3]] :: .dead :: .dead :: .dead :: .dead :: .dead :: .dead :: .dead :: .dead :: .dead :: .dead :: .dead :: .row 4 [[.b b_1]] :: .dead :: .dead :: .dead :: .dead :: .dead :: .dead :: .dead :: .dead :: .dead :: .dead :: .dead :: .row 97 [[.i .i64 n_4, .i .i64 n_5, .i .i64 n_6, .i .i64 n_7]] :: .dead :: .dead :: .dead :: .row 97 [[.i .i64 e0, .i .i64 e1, .i .i64 e2, .i .i64 e3]] :: .dead :: .dead :: .dead :: .dead :: [], 103) => some [(g36ba es es_1 es_2 n_1 n_3 n_4 n_5 n_6 n_7 e0 e1 e2 e3 b_1 && anyN (e36ba es es_1 es_2 n_1 n_3 n_4 n_5 n_6 n_7 e0 e1 e2 e3 b_1) (N36ba es es_1 es_2 n_1 n_3 n_4 n_5 n_6 n_7 e0 e1 e2 e3 b_1), .ret, (q36ba_0 es es_1 es_2 n_1 (((firstN (e36ba es es_1 es_2 n_1 n_3 n_4 n_5 n_6 n_7 e0 e1 e2 e3 b_1) (N36ba es es_1 es_2 n_1 n_3 n_4 n_5 n_6 n_7 e0 e1 e2 e3 b_1)) : Nat) : Int) n_3 (a36ba es es_1 es_2 n_1 n_3 n_4 n_5 n_6 n_7 e0 e1 e2 e3 b_1 ((firstN (e36ba es es_1 es_2 n_1 n_3 n_4 n_5 n_6 n_7 e0 e1 e2 e3 b_1) (N36ba es es_1 es_2 n_1 n_3 n_4 n_5 n_6 n_7 e0 e1 e2 e3 b_1)))) n_4 n_5 n_6 n_7 e0 e1 e2 e3).2), (g36ba es es_1 es_2 n_1 n_3 n_4 n_5 n_6 n_7 e0 e1 e2 e3 b_1, .ext 4, st36ba es es_1 es_2 n_1 n_3 n_4 n_5 n_6 n_7 e0 e1 e2 e3 b_1 (N36ba es es_1 es_2 n_1 n_3 n_4 n_5 n_6 n_7 e0 e1 e2 e3 b_1))]
  | _ => none
noncomputable def ex36b (es : List (List AV)) (es_1 : List (List AV)) (n_1 : Int) (b_1 : Bool) (n_2 : Int) (n_3 : Int) (n_4 : Int) (n_5 : Int) (e0 e1 e2 e3 : Int) : Bool := (g36ba es es_1 es (↑es.length : Int) n_1 n_2 n_3 n_4 n_5 e0 e1 e2 e3 b_1 && anyN (e36ba es es_1 es (↑es.length : Int) n_1 n_2 n_3 n_4 n_5 e0 e1 e2 e3 b_1) (N36ba es es_1 es (↑es.length : Int) n_1 n_2 n_3 n_4 n_5 e0 e1 e2 e3 b_1)) || ((leftI n_2 n_3 n_4 n_5 e2 e3 == 0) && (decide (IntKind.i64.wrap (IntKind.i64.wrap (IntKind.i64.wrap (n_4 - n_2) * IntKind.i64.wrap (e2 - e0)) + IntKind.i64.wrap (IntKind.i64.wrap (n_5 - n_3) * IntKind.i64.wrap (e3 - e1))) < 0)))
noncomputable def df36b (es : List (List AV)) (es_1 : List (List AV)) (n_1 : Int) (b_1 : Bool) (n_2 : Int) (n_3 : Int) (n_4 : Int) (n_5 : Int) (e0 e1 e2 e3 : Int) : Bool := (g36ba es es_1 es (↑es.length : Int) n_1 n_2 n_3 n_4 n_5 e0 e1 e2 e3 b_1 && anyN (e36ba es es_1 es (↑es.length : Int) n_1 n_2 n_3 n_4 n_5 e0 e1 e2 e3 b_1) (N36ba es es_1 es (↑es.length : Int) n_1 n_2 n_3 n_4 n_5 e0 e1 e2 e3 b_1)) || (g36ba es es_1 es (↑es.length : Int) n_1 n_2 n_3 n_4 n_5 e0 e1 e2 e3 b_1)
noncomputable def nx36b_0 (es : List (List AV)) (es_1 : List (List AV)) (n_1 : Int) (b_1 : Bool) (n_2 : Int) (n_3 : Int) (n_4 : Int) (n_5 : Int) (e0 e1 e2 e3 : Int) : Bool := a36ba es es_1 es (↑es.length : Int) n_1 n_2 n_3 n_4 n_5 e0 e1 e2 e3 b_1 (N36ba es es_1 es (↑es.length : Int) n_1 n_2 n_3 n_4 n_5 e0 e1 e2 e3 b_1)
noncomputable def nx36b_1 (es : List (List AV)) (es_1 : List (List AV)) (n_1 : Int) (b_1 : Bool) (n_2 : Int) (n_3 : Int) (n_4 : Int) (n_5 : Int) (e0 e1 e2 e3 : Int) : Int := e0
noncomputable def nx36b_2 (es : List (List AV)) (es_1 : List (List AV)) (n_1 : Int) (b_1 : Bool) (n_2 : Int) (n_3 : Int) (n_4 : Int) (n_5 : Int) (e0 e1 e2 e3 : Int) : Int := e1
noncomputable def nx36b_3 (es : List (List AV)) (es_1 : List (List AV)) (n_1 : Int) (b_1 : Bool) (n_2 : Int) (n_3 : Int) (n_4 : Int) (n_5 : Int) (e0 e1 e2 e3 : Int) : Int := e2
noncomputable def nx36b_4 (es : List (List AV)) (es_1 : List (List AV)) (n_1 : Int) (b_1 : Bool) (n_2 : Int) (n_3 : Int) (n_4 : Int) (n_5 : Int) (e0 e1 e2 e3 : Int) : Int := e3
noncomputable def q36b_0 (es : List (List AV)) (es_1 : List (List AV)) (n_1 : Int) (b_1 : Bool) (n_2 : Int) (n_3 : Int) (n_4 : Int) (n_5 : Int) (e0 e1 e2 e3 : Int) : Ex × St := (.ret, s36b es es_1 9 (cond (g36ba es es_1 es (↑es.length : Int) n_1 n_2 n_3 n_4 n_5 e0 e1 e2 e3 b_1 && anyN (e36ba es es_1 es (↑es.length : Int) n_1 n_2 n_3 n_4 n_5 e0 e1 e2 e3 b_1) (N36ba es es_1 es (↑es.length : Int) n_1 n_2 n_3 n_4 n_5 e0 e1 e2 e3 b_1)) (a36ba es es_1 es (↑es.length : Int) n_1 n_2 n_3 n_4 n_5 e0 e1 e2 e3 b_1 (firstN (e36ba es es_1 es (↑es.length : Int) n_1 n_2 n_3 n_4 n_5 e0 e1 e2 e3 b_1) (N36ba es es_1 es (↑es.length : Int) n_1 n_2 n_3 n_4 n_5 e0 e1 e2 e3 b_1))) (a36ba es es_1 es (↑es.length : Int) n_1 n_2 n_3 n_4 n_5 e0 e1 e2 e3 b_1 (N36ba es es_1 es (↑es.length : Int) n_1 n_2 n_3 n_4 n_5 e0 e1 e2 e3 b_1))) n_2 n_3 n_4 n_5)
noncomputable def q36b (es : List (List AV)) (es_1 : List (List AV)) (n_1 : Int) (b_1 : Bool) (n_2 : Int) (n_3 : Int) (n_4 : Int) (n_5 : Int) (e0 e1 e2 e3 : Int) : Ex × St := q36b_0 es es_1 n_1 b_1 n_2 n_3 n_4 n_5 e0 e1 e2 e3
noncomputable def a36b (es : List (List AV)) (es_1 : List (List AV)) (n_1 : Int) (b_1 : Bool) (n_2 : Int) (n_3 : Int) (n_4 : Int) (n_5 : Int) (ITES : List (List AV)) : Nat → Bool × Int × Int × Int × Int
  | 0 => (b_1, n_2, n_3, n_4, n_5)
  | k + 1 => (nx36b_0 es es_1 n_1 (((a36b es es_1 n_1 b_1 n_2 n_3 n_4 n_5 ITES k)).1) (((a36b es es_1 n_1 b_1 n_2 n_3 n_4 n_5 ITES k)).2.1) (((a36b es es_1 n_1 b_1 n_2 n_3 n_4 n_5 ITES k)).2.2.1) (((a36b es es_1 n_1 b_1 n_2 n_3 n_4 n_5 ITES k)).2.2.2.1) (((a36b es es_1 n_1 b_1 n_2 n_3 n_4 n_5 ITES k)).2.2.2.2) (cU (ITES.getD k [])) (cV (ITES.getD k [])) (cU (ITES.getD ((k + 1) % ITES.length) [])) (cV (ITES.getD ((k + 1) % ITES.length) [])), nx36b_1 es es_1 n_1 (((a36b es es_1 n_1 b_1 n_2 n_3 n_4 n_5 ITES k)).1) (((a36b es es_1 n_1 b_1 n_2 n_3 n_4 n_5 ITES k)).2.1) (((a36b es es_1 n_1 b_1 n_2 n_3 n_4 n_5 ITES k)).2.2.1) (((a36b es es_1 n_1 b_1 n_2 n_3 n_4 n_5 ITES k)).2.2.2.1) (((a36b es es_1 n_1 b_1 n_2 n_3 n_4 n_5 ITES k)).2.2.2.2) (cU (ITES.getD k [])) (cV (ITES.getD k [])) (cU (ITES.getD ((k + 1) % ITES.length) [])) (cV (ITES.getD ((k + 1) % ITES.length) [])), nx36b_2 es es_1 n_1 (((a36b es es_1 n_1 b_1 n_2 n_3 n_4 n_5 ITES k)).1) (((a36b es es_1 n_1 b_1 n_2 n_3 n_4 n_5 ITES k)).2.1) (((a36b es es_1 n_1 b_1 n_2 n_3 n_4 n_5 ITES k)).2.2.1) (((a36b es es_1 n_1 b_1 n_2 n_3 n_4 n_5 ITES k)).2.2.2.1) (((a36b es es_1 n_1 b_1 n_2 n_3 n_4 n_5 ITES k)).2.2.2.2) (cU (ITES.getD k [])) (cV (ITES.getD k [])) (cU (ITES.getD ((k + 1) % ITES.length) [])) (cV (ITES.getD ((k + 1) % ITES.length) [])), nx36b_3 es es_1 n_1 (((a36b es es_1 n_1 b_1 n_2 n_3 n_4 n_5 ITES k)).1) (((a36b es es_1 n_1 b_1 n_2 n_3 n_4 n_5 ITES k)).2.1) (((a36b es es_1 n_1 b_1 n_2 n_3 n_4 n_5 ITES k)).2.2.1) (((a36b es es_1 n_1 b_1 n_2 n_3 n_4 n_5 ITES k)).2.2.2.1) (((a36b es es_1 n_1 b_1 n_2 n_3 n_4 n_5 ITES k)).2.2.2.2) (cU (ITES.getD k [])) (cV (ITES.getD k [])) (cU (ITES.getD ((k + 1) % ITES.length) [])) (cV (ITES.getD ((k + 1) % ITES.length) [])), nx36b_4 es es_1 n_1 (((a36b es es_1 n_1 b_1 n_2 n_3 n_4 n_5 ITES k)).1) (((a36b es es_1 n_1 b_1 n_2 n_3 n_4 n_5 ITES k)).2.1) (((a36b es es_1 n_1 b_1 n_2 n_3 n_4 n_5 ITES k)).2.2.1) (((a36b es es_1 n_1 b_1 n_2 n_3 n_4 n_5 ITES k)).2.2.2.1) (((a36b es es_1 n_1 b_1 n_2 n_3 n_4 n_5 ITES k)).2.2.2.2) (cU (ITES.getD k [])) (cV (ITES.getD k [])) (cU (ITES.getD ((k + 1) % ITES.length) [])) (cV (ITES.getD ((k + 1) % ITES.length) [])))
noncomputable def e36b (es : List (List AV)) (es_1 : List (List AV)) (n_1 : Int) (b_1 : Bool) (n_2 : Int) (n_3 : Int) (n_4 : Int) (n_5 : Int) (ITES : List (List AV)) (k : Nat) : Bool := ex36b es es_1 n_1 ((a36b es es_1 n_1 b_1 n_2 n_3 n_4 n_5 ITES k).1) ((a36b es es_1 n_1 b_1 n_2 n_3 n_4 n_5 ITES k).2.1) ((a36b es es_1 n_1 b_1 n_2 n_3 n_4 n_5 ITES k).2.2.1) ((a36b es es_1 n_1 b_1 n_2 n_3 n_4 n_5 ITES k).2.2.2.1) ((a36b es es_1 n_1 b_1 n_2 n_3 n_4 n_5 ITES k).2.2.2.2) (cU (ITES.getD k [])) (cV (ITES.getD k [])) (cU (ITES.getD ((k + 1) % ITES.length) [])) (cV (ITES.getD ((k + 1) % ITES.length) []))
noncomputable def d36b (es : List (List AV)) (es_1 : List (List AV)) (n_1 : Int) (b_1 : Bool) (n_2 : Int) (n_3 : Int) (n_4 : Int) (n_5 : Int) (ITES : List (List AV)) (k : Nat) : Bool := df36b es es_1 n_1 ((a36b es es_1 n_1 b_1 n_2 n_3 n_4 n_5 ITES k).1) ((a36b es es_1 n_1 b_1 n_2 n_3 n_4 n_5 ITES k).2.1) ((a36b es es_1 n_1 b_1 n_2 n_3 n_4 n_5 ITES k).2.2.1) ((a36b es es_1 n_1 b_1 n_2 n_3 n_4 n_5 ITES k).2.2.2.1) ((a36b es es_1 n_1 b_1 n_2 n_3 n_4 n_5 ITES k).2.2.2.2) (cU (ITES.getD k [])) (cV (ITES.getD k [])) (cU (ITES.getD ((k + 1) % ITES.length) [])) (cV (ITES.getD ((k + 1) % ITES.length) []))
noncomputable def st36b (es : List (List AV)) (es_1 : List (List AV)) (n_1 : Int) (b_1 : Bool) (n_2 : Int) (n_3 : Int) (n_4 : Int) (n_5 : Int) (ITES : List (List AV)) (k : Nat) : St := s36b es es_1 n_1 ((a36b es es_1 n_1 b_1 n_2 n_3 n_4 n_5 ITES k).1) ((a36b es es_1 n_1 b_1 n_2 n_3 n_4 n_5 ITES k).2.1) ((a36b es es_1 n_1 b_1 n_2 n_3 n_4 n_5 ITES k).2.2.1) ((a36b es es_1 n_1 b_1 n_2 n_3 n_4 n_5 ITES k).2.2.2.1) ((a36b es es_1 n_1 b_1 n_2 n_3 n_4 n_5 ITES k).2.2.2.2)
noncomputable def ou36b (es : List (List AV)) (es_1 : List (List AV)) (n_1 : Int) (b_1 : Bool) (n_2 : Int) (n_3 : Int) (n_4 : Int) (n_5 : Int) (ITES : List (List AV)) (k : Nat) : Ex × St := q36b es es_1 n_1 ((a36b es es_1 n_1 b_1 n_2 n_3 n_4 n_5 ITES k).1) ((a36b es es_1 n_1 b_1 n_2 n_3 n_4 n_5 ITES k).2.1) ((a36b es es_1 n_1 b_1 n_2 n_3 n_4 n_5 ITES k).2.2.1) ((a36b es es_1 n_1 b_1 n_2 n_3 n_4 n_5 ITES k).2.2.2.1) ((a36b es es_1 n_1 b_1 n_2 n_3 n_4 n_5 ITES k).2.2.2.2) (cU (ITES.getD k [])) (cV (ITES.getD k [])) (cU (ITES.getD ((k + 1) % ITES.length) [])) (cV (ITES.getD ((k + 1) % ITES.length) []))
noncomputable def g36b (es : List (List AV)) (es_1 : List (List AV)) (n_1 : Int) (b_1 : Bool) (n_2 : Int) (n_3 : Int) (n_4 : Int) (n_5 : Int) (ITES : List (List AV)) : Bool := okS ITES && allN (d36b es es_1 n_1 b_1 n_2 n_3 n_4 n_5 ITES) ITES.length
noncomputable def l36b (st : St) : Option (List (Bool × Ex × St)) := match normE Try.prog [1, 2, 5, 6, 43] 29 st, gt st.t 43 with
  | some ([.rp [.sl 32] [.rs 32 es] 0, .p 1 0 0, .p 13 0 0, .p 25 0 0, .fn 73 [.rp [.sl 32] [.rs 32 es_1] 0]], .dead :: .row 35 [[.i .i64 n_1]] :: .dead :: .dead :: .dead :: .dead :: .dead :: .dead :: .dead :: .dead :: .dead :: .dead :: .dead :: .row 4 [[.b b_1]] :: .dead :: .dead :: .dead :: .dead :: .dead :: .dead :: .dead :: .dead :: .dead :: .dead :: .dead :: .row 97 [[.i .i64 n_2, .i .i64 n_3, .i .i64 n_4, .i .i64 n_5]] :: .dead :: .dead :: .dead :: [], 103), .fn 73 [.rp [.sl 32] [.rs 32 ITES] 0] => some [(g36b es es_1 n_1 b_1 n_2 n_3 n_4 n_5 ITES && anyN (e36b es es_1 n_1 b_1 n_2 n_3 n_4 n_5 ITES) ITES.length, .ret, (q36b_0 es es_1 n_1 ((a36b es es_1 n_1 b_1 n_2 n_3 n_4 n_5 ITES ((firstN (e36b es es_1 n_1 b_1 n_2 n_3 n_4 n_5 ITES) ITES.length))).1) ((a36b es es_1 n_1 b_1 n_2 n_3 n_4 n_5 ITES ((firstN (e36b es es_1 n_1 b_1 n_2 n_3 n_4 n_5 ITES) ITES.length))).2.1) ((a36b es es_1 n_1 b_1 n_2 n_3 n_4 n_5 ITES ((firstN (e36b es es_1 n_1 b_1 n_2 n_3 n_4 n_5 ITES) ITES.length))).2.2.1) ((a36b es es_1 n_1 b_1 n_2 n_3 n_4 n_5 ITES ((firstN (e36b es es_1 n_1 b_1 n_2 n_3 n_4 n_5 ITES) ITES.length))).2.2.2.1) ((a36b es es_1 n_1 b_1 n_2 n_3 n_4 n_5 ITES ((firstN (e36b es es_1 n_1 b_1 n_2 n_3 n_4 n_5 ITES) ITES.length))).2.2.2.2) (cU (ITES.getD (firstN (e36b es es_1 n_1 b_1 n_2 n_3 n_4 n_5 ITES) ITES.length) [])) (cV (ITES.getD (firstN (e36b es es_1 n_1 b_1 n_2 n_3 n_4 n_5 ITES) ITES.length) [])) (cU (ITES.getD (((firstN (e36b es es_1 n_1 b_1 n_2 n_3 n_4 n_5 ITES) ITES.length) + 1) % ITES.length) [])) (cV (ITES.getD (((firstN (e36b es es_1 n_1 b_1 n_2 n_3 n_4 n_5 ITES) ITES.length) + 1) % ITES.length) []))).2), (g36b es es_1 n_1 b_1 n_2 n_3 n_4 n_5 ITES, .nrm, st36b es es_1 n_1 b_1 n_2 n_3 n_4 n_5 ITES ITES.length)]
  | _, _ => none
noncomputable def L36 : LSpec := fun p st => match p with
  | [false, true, false, true, true] => l36a st
  | [false, true, false, false, true, false, true, false, true, true, true, true, true] => l36ba st
  | [false, true, false, true, true, true, true, true] => l36b st
  | _ => none
noncomputable def tr36a (es : List (List AV)) (es_1 : List (List AV)) (n_1 : Int) (n_2 : Int) (n_3 : Int) : Option (Ex × St) := cond (inb n_2 es_1.length) (cond (Nat.blt 0 (Try.prog.cellsOf 32) && (decide (0 ≤ 0) && (decide (0 ≤ n_2) && decide (n_2 ≤ (↑es.length : Int))))) (cond ((List.drop (Int.toNat 0) (List.take n_2.toNat es)).length.ble 9223372036854775807) (cond (anyN (ex75 (List.drop (Int.toNat 0) (List.take n_2.toNat es)) (cU (es_1.getD n_2.toNat [])) (cV (es_1.getD n_2.toNat []))) (List.drop (Int.toNat 0) (List.take n_2.toNat es)).length) (some (.ret, s36a es es_1 n_1 n_2 6)) (some (.nrm, s36a es es_1 n_1 (IntKind.i64.wrap (n_2 + 1)) n_3))) (none)) (none)) (none)
theorem round36a (es : List (List AV)) (es_1 : List (List AV)) (n_1 : Int) (n_2 : Int) (n_3 : Int) : round Try.prog Si (ro 36) L36 lp36a [false, true, false, true, true] [1, 2, 19, 20, 21] 13 (s36a es es_1 n_1 n_2 n_3) =
    cond (decide (n_2 < n_1)) (tr36a es es_1 n_1 n_2 n_3) (some (.ext 0, s36a es es_1 n_1 n_2 n_3)) := by kernel_rfl
theorem step36a (es : List (List AV)) (es_1 : List (List AV)) (n_1 : Int) (n_2 : Int) (n_3 : Int) (hd : df36a es es_1 n_1 n_2 n_3 = true) : tr36a es es_1 n_1 n_2 n_3 = cond (ex36a es es_1 n_1 n_2 n_3) (some (q36a es es_1 n_1 n_2 n_3)) (some (.nrm, s36a es es_1 n_1 (IntKind.i64.wrap (n_2 + 1)) n_3)) := by
  unfold df36a at hd
  unfold ex36a q36a q36a_0 tr36a
  generalize (inb n_2 es_1.length) = t0 at *
  generalize (Nat.blt 0 (Try.prog.cellsOf 32) && (decide (0 ≤ 0) && (decide (0 ≤ n_2) && decide (n_2 ≤ (↑es.length : Int))))) = t1 at *
  generalize ((List.drop (Int.toNat 0) (List.take n_2.toNat es)).length.ble 9223372036854775807) = t2 at *
  generalize (anyN (ex75 (List.drop (Int.toNat 0) (List.take n_2.toNat es)) (cU (es_1.getD n_2.toNat [])) (cV (es_1.getD n_2.toNat []))) (List.drop (Int.toNat 0) (List.take n_2.toNat es)).length) = t3 at *
  cases t0 <;> cases t1 <;> cases t2 <;> cases t3 <;> first | rfl | (cases hd)
theorem lok36a {st : St} {outs : List (Bool × Ex × St)} {e : Ex} {s : St} {lo : Nat} (hlo : lo ≤ st.nx) (hl : l36a st = some outs) (hch : Chosen outs e s) :
    ∃ keep nb, lo ≤ nb ∧ LB Try.prog Si (ro 36) L36 lp36a [false, true, false, true, true] keep nb st e s := by
  unfold l36a at hl
  split at hl
  · rename_i es es_1 n_1 n_3 hno
    cases hl
    obtain ⟨hnx, hno⟩ := normE_norm hno
    refine LB_forG (n := (N36a es es_1 n_1 n_3)) (g := g36a es es_1 n_1 n_3) (stI := fun k => st36a es es_1 n_1 n_3 k) (ex := e36a es es_1 n_1 n_3) (out := (fun k => ou36a es es_1 n_1 n_3 k)) (fin := (.ext 0, st36a es es_1 n_1 n_3 (N36a es es_1 n_1 n_3))) hno (hnx ▸ hlo) hch (fun k => by simp [ou36a, q36a, q36a_0]) (by simp) (fun hg => ?_)
    obtain ⟨hb, hall⟩ := Bool.and_eq_true_iff.1 hg
    have hb := of_decide_eq_true hb
    refine ⟨fun k hk => ?_, ?_⟩
    · have h1 := lt_toNat hk
      have hd := allN_at hall k hk
      have hw := wrap_succ h1 hb
      show round _ _ _ _ _ _ _ _ (s36a es es_1 n_1 ((k : Nat) : Int) n_3) = _
      rw [round36a, show decide _ = true from decide_eq_true h1, cond_true, step36a _ _ _ _ _ hd, hw]
      rfl
    · show round _ _ _ _ _ _ _ _ (s36a es es_1 n_1 (((N36a es es_1 n_1 n_3) : Nat) : Int) n_3) = _
      rw [round36a, show decide ((((N36a es es_1 n_1 n_3) : Nat) : Int) < (n_1 : Int)) = false from not_lt_toNat]
      rfl
  · cases hl
noncomputable def tr36ba (es : List (List AV)) (es_1 : List (List AV)) (es_2 : List (List AV)) (n_1 : Int) (n_2 : Int) (n_3 : Int) (b_1 : Bool) (n_4 : Int) (n_5 : Int) (n_6 : Int) (n_7 : Int) (e0 : Int) (e1 : Int) (e2 : Int) (e3 : Int) : Option (Ex × St) := cond (inb n_2 es_2.length) (cond (decide (leftI e0 e1 e2 e3 (cU (es_2.getD n_2.toNat [])) (cV (es_2.getD n_2.toNat [])) < 0)) (some (.ret, s36ba es es_1 es_2 n_1 n_2 9 b_1 n_4 n_5 n_6 n_7 e0 e1 e2 e3)) (cond (decide (leftI e0 e1 e2 e3 (cU (es_2.getD n_2.toNat [])) (cV (es_2.getD n_2.toNat [])) > 0)) (some (.nrm, s36ba es es_1 es_2 n_1 (IntKind.i64.wrap (n_2 + 1)) n_3 true n_4 n_5 n_6 n_7 e0 e1 e2 e3)) (some (.nrm, s36ba es es_1 es_2 n_1 (IntKind.i64.wrap (n_2 + 1)) n_3 b_1 n_4 n_5 n_6 n_7 e0 e1 e2 e3)))) (none)
theorem round36ba (es : List (List AV)) (es_1 : List (List AV)) (es_2 : List (List AV)) (n_1 : Int) (n_2 : Int) (n_3 : Int) (b_1 : Bool) (n_4 : Int) (n_5 : Int) (n_6 : Int) (n_7 : Int) (e0 : Int) (e1 : Int) (e2 : Int) (e3 : Int) : round Try.prog Si (ro 36) L36 lp36ba [false, true, false, false, true, false, true, false, true, true, true, true, true] [1, 2, 5, 6, 7, 43, 45, 46, 47] 34 (s36ba es es_1 es_2 n_1 n_2 n_3 b_1 n_4 n_5 n_6 n_7 e0 e1 e2 e3) =
    cond (decide (n_2 < n_1)) (tr36ba es es_1 es_2 n_1 n_2 n_3 b_1 n_4 n_5 n_6 n_7 e0 e1 e2 e3) (some (.ext 4, s36ba es es_1 es_2 n_1 n_2 n_3 b_1 n_4 n_5 n_6 n_7 e0 e1 e2 e3)) := by kernel_rfl
theorem step36ba (es : List (List AV)) (es_1 : List (List AV)) (es_2 : List (List AV)) (n_1 : Int) (n_2 : Int) (n_3 : Int) (b_1 : Bool) (n_4 : Int) (n_5 : Int) (n_6 : Int) (n_7 : Int) (e0 : Int) (e1 : Int) (e2 : Int) (e3 : Int) (hd : df36ba es es_1 es_2 n_1 n_2 n_3 b_1 n_4 n_5 n_6 n_7 e0 e1 e2 e3 = true) : tr36ba es es_1 es_2 n_1 n_2 n_3 b_1 n_4 n_5 n_6 n_7 e0 e1 e2 e3 = cond (ex36ba es es_1 es_2 n_1 n_2 n_3 b_1 n_4 n_5 n_6 n_7 e0 e1 e2 e3) (some (q36ba es es_1 es_2 n_1 n_2 n_3 b_1 n_4 n_5 n_6 n_7 e0 e1 e2 e3)) (some (.nrm, s36ba es es_1 es_2 n_1 (IntKind.i64.wrap (n_2 + 1)) n_3 (nx36ba_0 es es_1 es_2 n_1 n_2 n_3 b_1 n_4 n_5 n_6 n_7 e0 e1 e2 e3) n_4 n_5 n_6 n_7 e0 e1 e2 e3)) := by
  unfold df36ba at hd
  unfold ex36ba nx36ba_0 q36ba q36ba_0 tr36ba
  generalize (inb n_2 es_2.length) = t0 at *
  generalize (decide (leftI e0 e1 e2 e3 (cU (es_2.getD n_2.toNat [])) (cV (es_2.getD n_2.toNat [])) < 0)) = t1 at *
  generalize (decide (leftI e0 e1 e2 e3 (cU (es_2.getD n_2.toNat [])) (cV (es_2.getD n_2.toNat [])) > 0)) = t2 at *
  cases t0 <;> cases t1 <;> cases t2 <;> first | rfl | (cases hd)
theorem lok36ba {st : St} {outs : List (Bool × Ex × St)} {e : Ex} {s : St} {lo : Nat} (hlo : lo ≤ st.nx) (hl : l36ba st = some outs) (hch : Chosen outs e s) :
    ∃ keep nb, lo ≤ nb ∧ LB Try.prog Si (ro 36) L36 lp36ba [false, true, false, false, true, false, true, false, true, true, true, true, true] keep nb st e s := by
  unfold l36ba at hl
  split at hl
  · rename_i es es_1 es_2 n_1 n_3 b_1 n_4 n_5 n_6 n_7 e0 e1 e2 e3 hno
    cases hl
    obtain ⟨hnx, hno⟩ := normE_norm hno
    refine LB_forG (n := (N36ba es es_1 es_2 n_1 n_3 n_4 n_5 n_6 n_7 e0 e1 e2 e3 b_1)) (g := g36ba es es_1 es_2 n_1 n_3 n_4 n_5 n_6 n_7 e0 e1 e2 e3 b_1) (stI := fun k => st36ba es es_1 es_2 n_1 n_3 n_4 n_5 n_6 n_7 e0 e1 e2 e3 b_1 k) (ex := e36ba es es_1 es_2 n_1 n_3 n_4 n_5 n_6 n_7 e0 e1 e2 e3 b_1) (out := (fun k => ou36ba es es_1 es_2 n_1 n_3 n_4 n_5 n_6 n_7 e0 e1 e2 e3 b_1 k)) (fin := (.ext 4, st36ba es es_1 es_2 n_1 n_3 n_4 n_5 n_6 n_7 e0 e1 e2 e3 b_1 (N36ba es es_1 es_2 n_1 n_3 n_4 n_5 n_6 n_7 e0 e1 e2 e3 b_1))) hno (hnx ▸ hlo) hch (fun k => by simp [ou36ba, q36ba, q36ba_0]) (by simp) (fun hg => ?_)
    obtain ⟨hb, hall⟩ := Bool.and_eq_true_iff.1 hg
    have hb := of_decide_eq_true hb
    refine ⟨fun k hk => ?_, ?_⟩
    · have h1 := lt_toNat hk
      have hd := allN_at hall k hk
      have hw := wrap_succ h1 hb
      show round _ _ _ _ _ _ _ _ (s36ba es es_1 es_2 n_1 ((k : Nat) : Int) n_3 (a36ba es es_1 es_2 n_1 n_3 n_4 n_5 n_6 n_7 e0 e1 e2 e3 b_1 k) n_4 n_5 n_6 n_7 e0 e1 e2 e3) = _
      rw [round36ba, show decide _ = true from decide_eq_true h1, cond_true, step36ba _ _ _ _ _ _ _ _ _ _ _ _ _ _ _ hd, hw]
      rfl
    · show round _ _ _ _ _ _ _ _ (s36ba es es_1 es_2 n_1 (((N36ba es es_1 es_2 n_1 n_3 n_4 n_5 n_6 n_7 e0 e1 e2 e3 b_1) : Nat) : Int) n_3 (a36ba es es_1 es_2 n_1 n_3 n_4 n_5 n_6 n_7 e0 e1 e2 e3 b_1 ((N36ba es es_1 es_2 n_1 n_3 n_4 n_5 n_6 n_7 e0 e1 e2 e3 b_1))) n_4 n_5 n_6 n_7 e0 e1 e2 e3) = _
      rw [round36ba, show decide ((((N36ba es es_1 es_2 n_1 n_3 n_4 n_5 n_6 n_7 e0 e1 e2 e3 b_1) : Nat) : Int) < (n_1 : Int)) = false from not_lt_toNat]
      rfl
  · cases hl
noncomputable def tr36b (es : List (List AV)) (es_1 : List (List AV)) (n_1 : Int) (b_1 : Bool) (n_2 : Int) (n_3 : Int) (n_4 : Int) (n_5 : Int) (e0 e1 e2 e3 : Int) : Option (Ex × St) := cond (g36ba es es_1 es (↑es.length : Int) n_1 n_2 n_3 n_4 n_5 e0 e1 e2 e3 b_1 && anyN (e36ba es es_1 es (↑es.length : Int) n_1 n_2 n_3 n_4 n_5 e0 e1 e2 e3 b_1) (N36ba es es_1 es (↑es.length : Int) n_1 n_2 n_3 n_4 n_5 e0 e1 e2 e3 b_1)) (some (.ret, s36b es es_1 9 (a36ba es es_1 es (↑es.length : Int) n_1 n_2 n_3 n_4 n_5 e0 e1 e2 e3 b_1 (firstN (e36ba es es_1 es (↑es.length : Int) n_1 n_2 n_3 n_4 n_5 e0 e1 e2 e3 b_1) (N36ba es es_1 es (↑es.length : Int) n_1 n_2 n_3 n_4 n_5 e0 e1 e2 e3 b_1))) n_2 n_3 n_4 n_5)) (cond (g36ba es es_1 es (↑es.length : Int) n_1 n_2 n_3 n_4 n_5 e0 e1 e2 e3 b_1) (cond (leftI n_2 n_3 n_4 n_5 e2 e3 == 0) (cond (decide (IntKind.i64.wrap (IntKind.i64.wrap (IntKind.i64.wrap (n_4 - n_2) * IntKind.i64.wrap (e2 - e0)) + IntKind.i64.wrap (IntKind.i64.wrap (n_5 - n_3) * IntKind.i64.wrap (e3 - e1))) < 0)) (some (.ret, s36b es es_1 9 (a36ba es es_1 es (↑es.length : Int) n_1 n_2 n_3 n_4 n_5 e0 e1 e2 e3 b_1 (N36ba es es_1 es (↑es.length : Int) n_1 n_2 n_3 n_4 n_5 e0 e1 e2 e3 b_1)) n_2 n_3 n_4 n_5)) (some (.nrm, s36b es es_1 n_1 (a36ba es es_1 es (↑es.length : Int) n_1 n_2 n_3 n_4 n_5 e0 e1 e2 e3 b_1 (N36ba es es_1 es (↑es.length : Int) n_1 n_2 n_3 n_4 n_5 e0 e1 e2 e3 b_1)) e0 e1 e2 e3))) (some (.nrm, s36b es es_1 n_1 (a36ba es es_1 es (↑es.length : Int) n_1 n_2 n_3 n_4 n_5 e0 e1 e2 e3 b_1 (N36ba es es_1 es (↑es.length : Int) n_1 n_2 n_3 n_4 n_5 e0 e1 e2 e3 b_1)) e0 e1 e2 e3))) (none))
theorem round36b (es : List (List AV)) (es_1 : List (List AV)) (n_1 : Int) (b_1 : Bool) (n_2 : Int) (n_3 : Int) (n_4 : Int) (n_5 : Int) (e0 e1 e2 e3 : Int) : roundF Try.prog Si (ro 36) L36 [44] as36b bd36b [false, true, false, true, true, true, true, true] 29 (s36b es es_1 n_1 b_1 n_2 n_3 n_4 n_5) [.agg [.i .i64 e0, .i .i64 e1, .i .i64 e2, .i .i64 e3]] = tr36b es es_1 n_1 b_1 n_2 n_3 n_4 n_5 e0 e1 e2 e3 := by kernel_rfl
theorem step36b (es : List (List AV)) (es_1 : List (List AV)) (n_1 : Int) (b_1 : Bool) (n_2 : Int) (n_3 : Int) (n_4 : Int) (n_5 : Int) (e0 e1 e2 e3 : Int) (hd : df36b es es_1 n_1 b_1 n_2 n_3 n_4 n_5 e0 e1 e2 e3 = true) : tr36b es es_1 n_1 b_1 n_2 n_3 n_4 n_5 e0 e1 e2 e3 = cond (ex36b es es_1 n_1 b_1 n_2 n_3 n_4 n_5 e0 e1 e2 e3) (some (q36b es es_1 n_1 b_1 n_2 n_3 n_4 n_5 e0 e1 e2 e3)) (some (.nrm, s36b es es_1 n_1 (nx36b_0 es es_1 n_1 b_1 n_2 n_3 n_4 n_5 e0 e1 e2 e3) (nx36b_1 es es_1 n_1 b_1 n_2 n_3 n_4 n_5 e0 e1 e2 e3) (nx36b_2 es es_1 n_1 b_1 n_2 n_3 n_4 n_5 e0 e1 e2 e3) (nx36b_3 es es_1 n_1 b_1 n_2 n_3 n_4 n_5 e0 e1 e2 e3) (nx36b_4 es es_1 n_1 b_1 n_2 n_3 n_4 n_5 e0 e1 e2 e3))) := by
  unfold df36b at hd
  unfold ex36b nx36b_0 nx36b_1 nx36b_2 nx36b_3 nx36b_4 q36b q36b_0 tr36b
  generalize (g36ba es es_1 es (↑es.length : Int) n_1 n_2 n_3 n_4 n_5 e0 e1 e2 e3 b_1 && anyN (e36ba es es_1 es (↑es.length : Int) n_1 n_2 n_3 n_4 n_5 e0 e1 e2 e3 b_1) (N36ba es es_1 es (↑es.length : Int) n_1 n_2 n_3 n_4 n_5 e0 e1 e2 e3 b_1)) = t0 at *
  generalize (g36ba es es_1 es (↑es.length : Int) n_1 n_2 n_3 n_4 n_5 e0 e1 e2 e3 b_1) = t1 at *
  generalize (leftI n_2 n_3 n_4 n_5 e2 e3 == 0) = t2 at *
  generalize (decide (IntKind.i64.wrap (IntKind.i64.wrap (IntKind.i64.wrap (n_4 - n_2) * IntKind.i64.wrap (e2 - e0)) + IntKind.i64.wrap (IntKind.i64.wrap (n_5 - n_3) * IntKind.i64.wrap (e3 - e1))) < 0)) = t3 at *
  cases t0 <;> cases t1 <;> cases t2 <;> cases t3 <;> first | rfl | (cases hd)
theorem lok36b {st : St} {outs : List (Bool × Ex × St)} {e : Ex} {s : St} {lo : Nat} (hlo : lo ≤ st.nx) (hl : l36b st = some outs) (hch : Chosen outs e s) :
    ∃ keep nb, lo ≤ nb ∧ RB Try.prog Si (ro 36) L36 (.tmp 43) [44] as36b bd36b [false, true, false, true, true, true, true, true] keep nb st e s := by
  unfold l36b at hl
  split at hl
  · rename_i es es_1 n_1 b_1 n_2 n_3 n_4 n_5 ITES hno hgf
    cases hl
    obtain ⟨hnx, hno⟩ := normE_norm hno
    refine RB_forG (n := ITES.length) (gd := g36b es es_1 n_1 b_1 n_2 n_3 n_4 n_5 ITES) (stI := fun k => st36b es es_1 n_1 b_1 n_2 n_3 n_4 n_5 ITES k) (ex := e36b es es_1 n_1 b_1 n_2 n_3 n_4 n_5 ITES) (out := (fun k => ou36b es es_1 n_1 b_1 n_2 n_3 n_4 n_5 ITES k)) (xs := (sidesL ITES).map fun x => [x]) hno (hnx ▸ hlo) hgf (by kernel_rfl) (fun q hq => ?_) (sides_len ITES) hch (fun k => by simp [ou36b, q36b, q36b_0]) (fun x hx => sides_one hx) (fun hg => ?_)
    · simp at hq; subst hq; exact (by decide : 44 < 103)
    · obtain ⟨hg1, hall⟩ := Bool.and_eq_true_iff.1 hg
      obtain ⟨h1, h2⟩ := Bool.and_eq_true_iff.1 hg1
      refine ⟨sides_con ITES (Nat.le_of_ble_eq_true h1) h2, fun k x hx => ?_⟩
      obtain ⟨hk, rfl⟩ := sides_at hx
      have hd := allN_at hall k hk
      exact (round36b _ _ _ _ _ _ _ _ _ _ _ _).trans (step36b _ _ _ _ _ _ _ _ _ _ _ _ hd)
  · cases hl
theorem L36_ok (q : Pl) (c : Code) (hq : locate c36 q.reverse = some (.loop c)) (lo : Nat) (st : St) (outs : List (Bool × Ex × St)) (e : Ex) (s : St) (hlo : lo ≤ st.nx) (hl : L36 q st = some outs) (hch : Chosen outs e s) :
    ∃ keep nb, lo ≤ nb ∧ LB Try.prog Si (ro 36) L36 c q keep nb st e s := by
  unfold L36 at hl
  split at hl
  · have : locate c36 ([false, true, false, true, true] : Pl).reverse = some (.loop lp36a) := by kernel_rfl
    rw [this] at hq
    cases hq
    exact lok36a hlo hl hch
  · have : locate c36 ([false, true, false, false, true, false, true, false, true, true, true, true, true] : Pl).reverse = some (.loop lp36ba) := by kernel_rfl
    rw [this] at hq
    cases hq
    exact lok36ba hlo hl hch
  · have : locate c36 ([false, true, false, true, true, true, true, true] : Pl).reverse = some (.rangeFunc (.tmp 43) #[44] as36b bd36b) := by kernel_rfl
    rw [this] at hq
    cases hq
  · cases hl
theorem L36_okR (q : Pl) (g : Operand) (ps : Array Nat) (a b : Code) (hq : locate c36 q.reverse = some (.rangeFunc g ps a b)) (lo : Nat) (st : St) (outs : List (Bool × Ex × St)) (e : Ex) (s : St) (hlo : lo ≤ st.nx) (hl : L36 q st = some outs) (hch : Chosen outs e s) :
    ∃ keep nb, lo ≤ nb ∧ RB Try.prog Si (ro 36) L36 g ps.toList a b q keep nb st e s := by
  unfold L36 at hl
  split at hl
  · have : locate c36 ([false, true, false, true, true] : Pl).reverse = some (.loop lp36a) := by kernel_rfl
    rw [this] at hq
    cases hq
  · have : locate c36 ([false, true, false, false, true, false, true, false, true, true, true, true, true] : Pl).reverse = some (.loop lp36ba) := by kernel_rfl
    rw [this] at hq
    cases hq
  · have : locate c36 ([false, true, false, true, true, true, true, true] : Pl).reverse = some (.rangeFunc (.tmp 43) #[44] as36b bd36b) := by kernel_rfl
    rw [this] at hq
    cases hq
    exact lok36b hlo hl hch
  · cases hl
theorem eq36 (es : List (List AV)) : evF Try.prog Si (ro 36) L36 Try.f36 [.rs 32 es] =
    cond (!inB (↑es.length : Int) 3 12) (some (.i .i64 1)) (cond (es.length.ble 9223372036854775807) (cond (anyN (ex74 es) es.length) (some (.i .i64 1)) (cond (g36a es es (↑es.length : Int) 0 && anyN (e36a es es (↑es.length : Int) 0) (N36a es es (↑es.length : Int) 0)) (some (.i .i64 6)) (cond (g36a es es (↑es.length : Int) 0) (cond (inb (IntKind.i64.wrap ((↑es.length : Int) - 1)) es.length) (cond (inb 0 es.length) (cond (g36b es es 0 false (cU (es.getD (IntKind.i64.wrap ((↑es.length : Int) - 1)).toNat [])) (cV (es.getD (IntKind.i64.wrap ((↑es.length : Int) - 1)).toNat [])) (cU (es.getD (Int.toNat 0) [])) (cV (es.getD (Int.toNat 0) [])) es && anyN (e36b es es 0 false (cU (es.getD (IntKind.i64.wrap ((↑es.length : Int) - 1)).toNat [])) (cV (es.getD (IntKind.i64.wrap ((↑es.length : Int) - 1)).toNat [])) (cU (es.getD (Int.toNat 0) [])) (cV (es.getD (Int.toNat 0) [])) es) es.length) (some (.i .i64 9)) (cond (g36b es es 0 false (cU (es.getD (IntKind.i64.wrap ((↑es.length : Int) - 1)).toNat [])) (cV (es.getD (IntKind.i64.wrap ((↑es.length : Int) - 1)).toNat [])) (cU (es.getD (Int.toNat 0) [])) (cV (es.getD (Int.toNat 0) [])) es) (cond (!(a36b es es 0 false (cU (es.getD (IntKind.i64.wrap ((↑es.length : Int) - 1)).toNat [])) (cV (es.getD (IntKind.i64.wrap ((↑es.length : Int) - 1)).toNat [])) (cU (es.getD (Int.toNat 0) [])) (cV (es.getD (Int.toNat 0) [])) es es.length).fst) (some (.i .i64 9)) (some (.i .i64 0))) (none))) (none)) (none)) (none)))) (none)) := by kernel_rfl
end Go.Proofs.Yteclfchlejocmaa

set_option maxRecDepth 100000
set_option linter.unusedVariables false
namespace Go.Proofs.Yteclfchlejocmaa
open Go Go.Ev

theorem anyN_congr {f g : Nat → Bool} {n : Nat} (h : ∀ i, i < n → f i = g i) : anyN f n = anyN g n := by
  rw [Bool.eq_iff_iff, anyN_iff, anyN_iff]
  exact ⟨fun ⟨i, hi, hx⟩ => ⟨i, hi, by rw [← h i hi]; exact hx⟩, fun ⟨i, hi, hx⟩ => ⟨i, hi, by rw [h i hi]; exact hx⟩⟩
theorem anyN_snoc {f : Nat → Bool} {n : Nat} : anyN f (n + 1) = (anyN f n || f n) := by
  rw [Bool.eq_iff_iff, Bool.or_eq_true, anyN_iff, anyN_iff]
  constructor
  · rintro ⟨i, hi, hx⟩
    by_cases e : i = n
    · subst e; exact .inr hx
    · exact .inl ⟨i, by omega, hx⟩
  · rintro (⟨i, hi, hx⟩ | hx)
    · exact ⟨i, by omega, hx⟩
    · exact ⟨n, by omega, hx⟩
theorem inb_nat {i n : Nat} (h : i < n) : inb (i : Int) n = true := by simp [inb, h]
theorem wrap_nat {k n : Nat} (h : k ≤ n) (hn : n ≤ 9223372036854775807) : IntKind.i64.wrap (k : Int) = (k : Int) := wrap_id (by omega) (by omega)
theorem mod_idx {k n : Nat} (hk : k < n) (hn : n ≤ 9223372036854775807) : (IntKind.i64.wrap ((k : Int) + 1)).tmod (n : Int) = (((k + 1) % n : Nat) : Int) := by
  rw [wrap_id (by omega) (by omega), show ((k : Int) + 1) = ((k + 1 : Nat) : Int) by omega, ← Int.ofNat_tmod]
theorem le64 {n : Nat} (h : n ≤ 9223372036854775807) : decide (((n : Nat) : Int) ≤ 9223372036854775807) = true := decide_eq_true (by omega)

/-! ### Great -/
def lgB (hs : List (List AV)) (i : Nat) : Bool := longB (cU (hs.getD i [])) || (longB (cV (hs.getD i [])) || (longB (c2 (hs.getD i [])) || longB (c3 (hs.getD i []))))
def greatB (os hs ms : List (List AV)) : Bool := decide (((os.length : Nat) : Int) > 30) || (decide (((hs.length : Nat) : Int) > 30) || (decide (((ms.length : Nat) : Int) > 60) || anyN (lgB hs) hs.length))
theorem con13 (os hs ms : List (List AV)) (sp tl th : Int) : Con Try.prog 13 [.agg [.rs 32 os, .rs 71 hs, .i .i64 sp, .i .i64 tl, .i .i64 th, .rs 46 ms]] (.b (greatB os hs ms)) := by
  refine con_of Si_ok mixed Try.func13 (c := c13) rfl (names 13 _ Try.func13) (lok_of L13_ok c13 [] false (locate_nil _) (by kernel_rfl)) ?_
  rw [eq13]
  unfold greatB
  cases h1 : decide (((os.length : Nat) : Int) > 30)
  · cases h2 : decide (((hs.length : Nat) : Int) > 30)
    · cases h3 : decide (((ms.length : Nat) : Int) > 60)
      · have hl := of_decide_eq_false h2
        have hN : N13a os hs sp tl th ms false = hs.length := rfl
        have hg : g13a os hs sp tl th ms false = true := by
          unfold g13a
          rw [Bool.and_eq_true]
          exact ⟨decide_eq_true (by omega), allN_of fun i hi => inb_nat hi⟩
        have he : anyN (e13a os hs sp tl th ms false) hs.length = anyN (lgB hs) hs.length := anyN_congr fun i hi => rfl
        rw [hg, hN, he]
        cases anyN (lgB hs) hs.length <;> rfl
      · rfl
    · rfl
  · rfl

/-! ### The reference's point, on, bounds -/
def pointB (os hs : List (List AV)) (pu pv : Int) : Bool := !anyN (negS os pu pv) os.length && !anyN (ex64b hs pu pv) hs.length
theorem con59 (os hs : List (List AV)) (pu pv : Int) (ho : os.length ≤ 9223372036854775807) (hh : hs.length ≤ 9223372036854775807) : Con Try.prog 59 [.agg [.rs 32 os, .rs 71 hs], .agg [.i .i64 pu, .i .i64 pv]] (.b (pointB os hs pu pv)) := by
  refine con_of Si_ok mixed Try.func59 (c := c59) rfl (names 59 _ Try.func59) (lok_of L59_ok c59 [] false (locate_nil _) (by kernel_rfl)) ?_
  have hN : N59a os hs pu pv false (os.length : Nat) = os.length := rfl
  have hN2 : N59b os hs pu pv false = hs.length := rfl
  have hg : g59a os hs pu pv false (os.length : Nat) = true := by
    unfold g59a
    rw [Bool.and_eq_true]
    refine ⟨le64 ho, allN_of fun i hi => ?_⟩
    have hi : i < os.length := hi
    have hm := Nat.mod_lt (i + 1) (show 0 < os.length by omega)
    unfold d59a df59a
    rw [mod_idx hi ho, inb_nat hi, inb_nat hm, show decide (((os.length : Nat) : Int) = 0) = false from decide_eq_false (by omega)]
    rfl
  have hg2 : g59b os hs pu pv false = true := by
    unfold g59b
    rw [Bool.and_eq_true]
    exact ⟨le64 hh, allN_of fun i hi => inb_nat hi⟩
  have he : anyN (e59a os hs pu pv false (os.length : Nat)) os.length = anyN (negS os pu pv) os.length := anyN_congr fun i hi => by
    unfold e59a ex59a
    rw [mod_idx hi ho]
    rfl
  have he2 : anyN (e59b os hs pu pv false) hs.length = anyN (ex64b hs pu pv) hs.length := anyN_congr fun i hi => by
    unfold e59b ex59b ex64b inBox
    rw [Bool.eq_iff_iff]
    simp only [Bool.and_eq_true, decide_eq_true_eq, Int.toNat_natCast, gt_iff_lt]
  rw [eq59, hg, hN, he, hg2, hN2, he2]
  unfold pointB
  cases anyN (negS os pu pv) os.length <;> cases anyN (ex64b hs pu pv) hs.length <;> rfl

theorem acc35 (os hs ms : List (List AV)) (st tl th pu pv : Int) (k : Nat) (hk : k ≤ ms.length) : a35a os hs st tl th ms pu pv 0 0 tl th k = (accL st pu pv tl ms k, accH st pu pv th ms k) := by
  induction k with
  | zero => rfl
  | succ k ih =>
    have h := ih (by omega)
    unfold a35a nx35a_0 nx35a_1
    rw [h]
    unfold accL accH
    rw [fold_succ (by omega), fold_succ (by omega)]
    rfl
theorem con35 (os hs ms : List (List AV)) (st tl th pu pv : Int) (hlen : ms.length ≤ 9223372036854775807) : Con Try.prog 35 [.agg [.rs 32 os, .rs 71 hs, .i .i64 st, .i .i64 tl, .i .i64 th, .rs 46 ms], .agg [.i .i64 pu, .i .i64 pv]]
    (.agg [.i .i64 (ms.foldl (loI st pu pv) tl), .i .i64 (ms.foldl (hiI st pu pv) th)]) := by
  refine con_of Si_ok mixed Try.func35 (c := c35) rfl (names 35 _ Try.func35) (lok_of L35_ok c35 [] false (locate_nil _) (by kernel_rfl)) ?_
  have hN : N35a os hs st tl th ms pu pv 0 0 tl th = ms.length := rfl
  have hg : g35a os hs st tl th ms pu pv 0 0 tl th = true := by
    unfold g35a
    rw [Bool.and_eq_true]
    refine ⟨le64 hlen, allN_of fun i hi => ?_⟩
    have hi : i < ms.length := hi
    unfold d35a df35a
    rw [inb_nat hi]
    rfl
  rw [eq35, hg, hN, acc35 _ _ _ _ _ _ _ _ _ (Nat.le_refl _)]
  simp only [accL, accH, List.take_length, cond_true]

/-! ### The reference's agree -/
def clashE (st : Int) (ms : List (List AV)) (i k : Nat) : Bool :=
  decide (c2 (ms.getD i []) > Wr (c3 (ms.getD k []) + distI st (cU (ms.getD i [])) (cV (ms.getD i [])) (ms.getD k [])))
def clashB (st tl th : Int) (ms : List (List AV)) (i : Nat) : Bool :=
  decide (c2 (ms.getD i []) > th) || (decide (c3 (ms.getD i []) < tl) || anyN (clashE st ms i) ms.length)
theorem con46 (os hs ms : List (List AV)) (st tl th : Int) (hlen : ms.length ≤ 9223372036854775807) : Con Try.prog 46 [.agg [.rs 32 os, .rs 71 hs, .i .i64 st, .i .i64 tl, .i .i64 th, .rs 46 ms]] (.b (!anyN (clashB st tl th ms) ms.length)) := by
  refine con_of Si_ok mixed Try.func46 (c := c46) rfl (names 46 _ Try.func46) (lok_of L46_ok c46 [] false (locate_nil _) (by kernel_rfl)) ?_
  have hN : N46a os hs st tl th ms false = ms.length := rfl
  have hg2 : ∀ n a b c d, g46aa os hs st tl th ms false n a b c d = true := by
    intro n a b c d
    unfold g46aa
    rw [Bool.and_eq_true]
    exact ⟨le64 hlen, allN_of fun i hi => inb_nat hi⟩
  have hg : g46a os hs st tl th ms false = true := by
    unfold g46a
    rw [Bool.and_eq_true]
    refine ⟨le64 hlen, allN_of fun i hi => ?_⟩
    have hi : i < ms.length := hi
    unfold d46a df46a
    rw [hg2, inb_nat hi]
    simp
  have he : anyN (e46a os hs st tl th ms false) ms.length = anyN (clashB st tl th ms) ms.length := anyN_congr fun i hi => by
    unfold e46a ex46a
    rw [hg2]
    rfl
  rw [eq46, hg, hN, he]
  cases anyN (clashB st tl th ms) ms.length <;> rfl
end Go.Proofs.Yteclfchlejocmaa

set_option maxRecDepth 100000
set_option linter.unusedVariables false
namespace Go.Proofs.Yteclfchlejocmaa
open Go Go.Ev

def pU (es : List (List AV)) (i : Nat) : Int := cU (es.getD i [])
def pV (es : List (List AV)) (i : Nat) : Int := cV (es.getD i [])
/-- Does a corner lie to the right of a side, or to the left? -/
def negP (es : List (List AV)) (i k : Nat) : Bool := decide (leftS es i (pU es k) (pV es k) < 0)
def posP (es : List (List AV)) (i k : Nat) : Bool := decide (leftS es i (pU es k) (pV es k) > 0)
/-- Does the way from a corner to another one go back behind that? -/
def backI (es : List (List AV)) (a b c : Nat) : Bool := (leftI (pU es a) (pV es a) (pU es b) (pV es b) (pU es c) (pV es c) == 0) &&
  decide (Wr (Wr (Wr (pU es b - pU es a) * Wr (pU es c - pU es b)) + Wr (Wr (pV es b - pV es a) * Wr (pV es c - pV es b))) < 0)
def nxt (es : List (List AV)) (i : Nat) : Nat := (i + 1) % es.length
def nxt2 (es : List (List AV)) (i : Nat) : Nat := (i + 2) % es.length
def prv (es : List (List AV)) (i : Nat) : Nat := (i + es.length - 1) % es.length
def twiceW (es : List (List AV)) (i : Nat) : Bool := anyN (ex75 (es.take i) (pU es i) (pV es i)) i
def twiceE (es : List (List AV)) (i k : Nat) : Bool := (pU es i == pU es k) && (pV es i == pV es k)
def twiceR (es : List (List AV)) (i : Nat) : Bool := anyN (twiceE es i) i
def badW (es : List (List AV)) (i : Nat) : Bool := anyN (negP es i) es.length || backI es (prv es i) i (nxt es i)
def badR (es : List (List AV)) (i : Nat) : Bool := anyN (negP es i) es.length || backI es i (nxt es i) (nxt2 es i)
def areaR (es : List (List AV)) : Nat → Int
  | 0 => 0
  | k + 1 => Wr (areaR es k + leftI (pU es 0) (pV es 0) (pU es k) (pV es k) (pU es (nxt es k)) (pV es (nxt es k)))
def someW (es : List (List AV)) : Bool := anyN (fun i => anyN (posP es i) es.length) es.length
def outW (es : List (List AV)) : Int :=
  cond (!inB (es.length : Nat) 3 12) 1 (cond (anyN (ex74 es) es.length) 1 (cond (anyN (twiceW es) es.length) 6 (cond (anyN (badW es) es.length) 9 (cond (!someW es) 9 0))))
def outR (es : List (List AV)) : Int :=
  cond (!inB (es.length : Nat) 3 12) 1 (cond (anyN (ex74 es) es.length) 1 (cond (anyN (twiceR es) es.length) 6 (cond (anyN (badR es) es.length) 9 (cond (decide (areaR es es.length ≤ 0)) 9 0))))

theorem mod_idx2 {k n : Nat} (hk : k < n) (hn : n ≤ 9223372036854775806) : (IntKind.i64.wrap ((k : Int) + 2)).tmod (n : Int) = (((k + 2) % n : Nat) : Int) := by
  rw [wrap_id (by omega) (by omega), show ((k : Int) + 2) = ((k + 2 : Nat) : Int) by omega, ← Int.ofNat_tmod]
theorem inB_len {n : Nat} (h : (!inB (n : Int) 3 12) = false) : 3 ≤ n ∧ n ≤ 12 := by
  unfold inB at h
  simp only [Bool.not_eq_false', Bool.and_eq_true, decide_eq_true_eq] at h
  omega

theorem area_eq (es : List (List AV)) (h : es.length ≤ 9223372036854775807) (k : Nat) (hk : k ≤ es.length) : a42c es 0 (es.length : Nat) 0 k = areaR es k := by
  induction k with
  | zero => rfl
  | succ k ih =>
    unfold a42c nx42c_0 areaR
    rw [ih (by omega), mod_idx (by omega) h]
    rfl
theorem con42 (es : List (List AV)) : Con Try.prog 42 [.rs 32 es] (.i .i64 (outR es)) := by
  refine con_of Si_ok mixed Try.func42 (c := c42) rfl (names 42 _ Try.func42) (lok_of L42_ok c42 [] false (locate_nil _) (by kernel_rfl)) ?_
  rw [eq42]
  unfold outR
  cases h0 : !inB (es.length : Nat) 3 12
  · obtain ⟨h3, h12⟩ := inB_len h0
    have ga : g42a es 0 (es.length : Nat) = true := by
      unfold g42a
      rw [Bool.and_eq_true]
      refine ⟨le64 (by omega), allN_of fun i hi => ?_⟩
      have hi : i < es.length := hi
      unfold d42a df42a
      rw [inb_nat hi]
      simp
    have ea : anyN (e42a es 0 (es.length : Nat)) (N42a es 0 (es.length : Nat)) = anyN (ex74 es) es.length := anyN_congr fun i hi => by
      unfold e42a ex42a ex74 plB
      simp only [Bool.not_and, Int.toNat_natCast]
    have gba : ∀ n : Nat, n < es.length → g42ba es 0 (es.length : Nat) n = true := fun n hlt => by
      unfold g42ba
      rw [Bool.and_eq_true]
      refine ⟨le64 (by omega), allN_of fun i hi => ?_⟩
      have hi : i < n := hi
      unfold d42ba df42ba
      rw [inb_nat hlt, inb_nat (show i < es.length by omega)]
      rfl
    have gb : g42b es 0 (es.length : Nat) = true := by
      unfold g42b
      rw [Bool.and_eq_true]
      refine ⟨le64 (by omega), allN_of fun i hi => ?_⟩
      have hi : i < es.length := hi
      unfold d42b df42b
      rw [gba i hi]
      simp
    have eb : anyN (e42b es 0 (es.length : Nat)) (N42b es 0 (es.length : Nat)) = anyN (twiceR es) es.length := anyN_congr fun i hi => by
      have hi : i < es.length := hi
      unfold e42b ex42b
      rw [gba i hi]
      rfl
    have gca : ∀ (x : Int) (k : Int) a b c d e f, g42ca es 0 (es.length : Nat) x k a b c d e f = true := by
      intro x k a b c d e f
      unfold g42ca
      rw [Bool.and_eq_true]
      refine ⟨le64 (by omega), allN_of fun i hi => inb_nat hi⟩
    have gc : g42c es 0 (es.length : Nat) 0 = true := by
      unfold g42c
      rw [Bool.and_eq_true]
      refine ⟨le64 (by omega), allN_of fun i hi => ?_⟩
      have hi : i < es.length := hi
      have m1 := Nat.mod_lt (i + 1) (show 0 < es.length by omega)
      have m2 := Nat.mod_lt (i + 2) (show 0 < es.length by omega)
      unfold d42c df42c
      rw [mod_idx hi (by omega), mod_idx2 hi (by omega), gca, inb_nat hi, inb_nat m1, inb_nat m2, show decide (((es.length : Nat) : Int) = 0) = false from decide_eq_false (by omega),
        show inb 0 es.length = true from inb_nat (i := 0) (by omega)]
      simp
    have ec : anyN (e42c es 0 (es.length : Nat) 0) (N42c es 0 (es.length : Nat) 0) = anyN (badR es) es.length := anyN_congr fun i hi => by
      have hi : i < es.length := hi
      unfold e42c ex42c
      rw [mod_idx hi (by omega), mod_idx2 hi (by omega), gca]
      rfl
    have en : a42c es 0 (es.length : Nat) 0 (N42c es 0 (es.length : Nat) 0) = areaR es es.length := area_eq es (by omega) _ (Nat.le_refl _)
    rw [ga, ea, gb, eb, gc, ec, en]
    cases anyN (ex74 es) es.length <;> cases anyN (twiceR es) es.length <;> cases anyN (badR es) es.length <;> cases decide (areaR es es.length ≤ 0) <;> rfl
  · rfl
end Go.Proofs.Yteclfchlejocmaa

set_option maxRecDepth 100000
set_option linter.unusedVariables false
namespace Go.Proofs.Yteclfchlejocmaa
open Go Go.Ev

theorem a36ba_eq (es e1 : List (List AV)) (n x a b c d e0 e1' e2 e3 : Int) (z : Bool) (k : Nat) :
    a36ba es e1 es n x a b c d e0 e1' e2 e3 z k = (z || anyN (fun j => decide (leftI e0 e1' e2 e3 (pU es j) (pV es j) > 0)) k) := by
  induction k with
  | zero => simp [a36ba, anyN]
  | succ k ih =>
    unfold a36ba nx36ba_0
    rw [ih, anyN_snoc]
    show (decide (leftI e0 e1' e2 e3 (pU es k) (pV es k) > 0) || _) = _
    cases z <;> cases anyN (fun j => decide (leftI e0 e1' e2 e3 (pU es j) (pV es j) > 0)) k <;> cases decide (leftI e0 e1' e2 e3 (pU es k) (pV es k) > 0) <;> rfl
theorem g36ba_ok (es e1 : List (List AV)) (hl : es.length ≤ 9223372036854775807) (x a b c d e0 e1' e2 e3 : Int) (z : Bool) : g36ba es e1 es (es.length : Nat) x a b c d e0 e1' e2 e3 z = true := by
  unfold g36ba
  rw [Bool.and_eq_true]
  exact ⟨le64 hl, allN_of fun i hi => inb_nat hi⟩
theorem prv_zero {es : List (List AV)} (h : 0 < es.length) : prv es 0 = es.length - 1 := by
  unfold prv
  rw [Nat.mod_eq_of_lt (by omega)]
  omega
theorem prv_succ {es : List (List AV)} {k : Nat} (h : k < es.length) : prv es (k + 1) = k := by
  unfold prv
  rw [show k + 1 + es.length - 1 = k + es.length by omega, Nat.add_mod_right, Nat.mod_eq_of_lt h]
theorem a36b_eq (es : List (List AV)) (h : 0 < es.length) (k : Nat) (hk : k ≤ es.length) :
    (a36b es es 0 false (pU es (prv es 0)) (pV es (prv es 0)) (pU es 0) (pV es 0) es k).1 = anyN (fun i => anyN (posP es i) es.length) k ∧
    (k < es.length → (a36b es es 0 false (pU es (prv es 0)) (pV es (prv es 0)) (pU es 0) (pV es 0) es k).2 = (pU es (prv es k), pV es (prv es k), pU es k, pV es k)) := by
  induction k with
  | zero => exact ⟨rfl, fun _ => rfl⟩
  | succ k ih =>
    obtain ⟨ih1, ih2⟩ := ih (by omega)
    refine ⟨?_, fun hlt => ?_⟩
    · unfold a36b
      simp only
      unfold nx36b_0
      rw [a36ba_eq, ih1, anyN_snoc]
      rfl
    · unfold a36b
      rw [prv_succ (by omega)]
      show (pU es k, pV es k, pU es ((k + 1) % es.length), pV es ((k + 1) % es.length)) = _
      rw [Nat.mod_eq_of_lt hlt]
theorem con36 (es : List (List AV)) (hok : okS es = true) : Con Try.prog 36 [.rs 32 es] (.i .i64 (outW es)) := by
  refine con_of Si_ok mixed Try.func36 (c := c36) rfl (names 36 _ Try.func36) (lok_of2 L36_ok L36_okR c36 [] 0 false (locate_nil _) (by kernel_rfl)) ?_
  rw [eq36]
  unfold outW
  have hl : es.length ≤ 9223372036854775807 := Nat.le_of_ble_eq_true (Bool.and_eq_true_iff.1 hok).1
  cases h0 : !inB (es.length : Nat) 3 12
  · obtain ⟨h3, h12⟩ := inB_len h0
    have hb : Nat.ble es.length 9223372036854775807 = true := by simpa [Nat.ble_eq] using hl
    have hw : IntKind.i64.wrap (((es.length : Nat) : Int) - 1) = ((es.length - 1 : Nat) : Int) := (wrap_id (by omega) (by omega)).trans (by omega)
    have hc : Nat.blt 0 (Try.prog.cellsOf 32) = true := by kernel_rfl
    have ga : g36a es es (es.length : Nat) 0 = true := by
      unfold g36a
      rw [Bool.and_eq_true]
      refine ⟨le64 hl, allN_of fun i hi => ?_⟩
      have hi : i < es.length := hi
      have hlen : (List.drop (Int.toNat 0) (List.take ((i : Nat) : Int).toNat es)).length = i := by simp; omega
      unfold d36a df36a
      rw [inb_nat hi, hlen, show Nat.ble i 9223372036854775807 = true by simp [Nat.ble_eq]; omega, show decide ((0 : Int) ≤ (i : Nat)) = true from decide_eq_true (by omega), show decide (((i : Nat) : Int) ≤ (es.length : Nat)) = true from decide_eq_true (by omega), hc]
      rfl
    have ea : anyN (e36a es es (es.length : Nat) 0) (N36a es es (es.length : Nat) 0) = anyN (twiceW es) es.length := anyN_congr fun i hi => by
      have hi : i < es.length := hi
      unfold e36a ex36a twiceW
      have hlen : (List.drop (Int.toNat 0) (List.take ((i : Nat) : Int).toNat es)).length = i := by simp; omega
      rw [hlen]
      rfl
    have hp : cU (es.getD (IntKind.i64.wrap (((es.length : Nat) : Int) - 1)).toNat []) = pU es (prv es 0) ∧ cV (es.getD (IntKind.i64.wrap (((es.length : Nat) : Int) - 1)).toNat []) = pV es (prv es 0) := by
      rw [hw, prv_zero (by omega)]
      exact ⟨rfl, rfl⟩
    have gb : g36b es es 0 false (pU es (prv es 0)) (pV es (prv es 0)) (pU es 0) (pV es 0) es = true := by
      unfold g36b
      rw [Bool.and_eq_true]
      refine ⟨hok, allN_of fun i hi => ?_⟩
      unfold d36b df36b
      rw [g36ba_ok es es hl]
      simp
    have eb : anyN (e36b es es 0 false (pU es (prv es 0)) (pV es (prv es 0)) (pU es 0) (pV es 0) es) es.length = anyN (badW es) es.length := anyN_congr fun i hi => by
      obtain ⟨_, h2⟩ := a36b_eq es (by omega) i (by omega)
      have h2 := h2 hi
      unfold e36b ex36b
      rw [h2, g36ba_ok es es hl]
      rfl
    have en := (a36b_eq es (by omega) es.length (Nat.le_refl _)).1
    rw [hb, ga, ea, hp.1, hp.2, show cU (es.getD (Int.toNat 0) []) = pU es 0 from rfl, show cV (es.getD (Int.toNat 0) []) = pV es 0 from rfl, gb, eb, en, hw, inb_nat (show es.length - 1 < es.length by omega), show inb 0 es.length = true from inb_nat (i := 0) (by omega)]
    show _ = some (AV.i .i64 (cond _ _ (cond _ _ (cond _ _ (cond _ _ (cond (!(someW es)) _ _))))))
    unfold someW
    cases anyN (ex74 es) es.length <;> cases anyN (twiceW es) es.length <;> cases anyN (badW es) es.length <;> cases anyN (fun i => anyN (posP es i) es.length) es.length <;> rfl
  · rfl
end Go.Proofs.Yteclfchlejocmaa

set_option maxRecDepth 100000
set_option linter.unusedVariables false
namespace Go.Proofs.Yteclfchlejocmaa
open Go Go.Ev

noncomputable def Sj : Ev.Spec := fun f args => match f, args with
  | 32, [.agg [.rs 32 os, .rs 71 hs], .agg [.i .i64 pu, .i .i64 pv]] => some (okS os && Nat.ble hs.length 9223372036854775807, .b (hasB os hs pu pv))
  | 59, [.agg [.rs 32 os, .rs 71 hs], .agg [.i .i64 pu, .i .i64 pv]] => some (Nat.ble os.length 9223372036854775807 && Nat.ble hs.length 9223372036854775807, .b (pointB os hs pu pv))
  | 36, [.rs 32 es] => some (okS es, .i .i64 (outW es))
  | 42, [.rs 32 es] => some (true, .i .i64 (outR es))
  | 13, [.agg [.rs 32 os, .rs 71 hs, .i .i64 _, .i .i64 _, .i .i64 _, .rs 46 ms]] => some (true, .b (greatB os hs ms))
  | 46, [.agg [.rs 32 _, .rs 71 _, .i .i64 sp, .i .i64 tl, .i .i64 th, .rs 46 ms]] => some (Nat.ble ms.length 9223372036854775807, .b (!anyN (clashB sp tl th ms) ms.length))
  | 35, [.agg [.rs 32 _, .rs 71 _, .i .i64 sp, .i .i64 tl, .i .i64 th, .rs 46 ms], .agg [.i .i64 pu, .i .i64 pv]] =>
    some (Nat.ble ms.length 9223372036854775807, .agg [.i .i64 (ms.foldl (loI sp pu pv) tl), .i .i64 (ms.foldl (hiI sp pu pv) th)])
  | f, args => Si f args
theorem Sj_ok : SpecOK Try.prog Sj := by
  intro f args pre v h hp
  unfold Sj at h
  split at h
  · cases h
    obtain ⟨h1, h2⟩ := Bool.and_eq_true_iff.1 hp
    exact con32 _ _ _ _ h1 (Nat.le_of_ble_eq_true h2)
  · cases h
    obtain ⟨h1, h2⟩ := Bool.and_eq_true_iff.1 hp
    exact con59 _ _ _ _ (Nat.le_of_ble_eq_true h1) (Nat.le_of_ble_eq_true h2)
  · cases h; exact con36 _ hp
  · cases h; exact con42 _
  · cases h; exact con13 _ _ _ _ _ _
  · cases h; exact con46 _ _ _ _ _ _ (Nat.le_of_ble_eq_true hp)
  · cases h; exact con35 _ _ _ _ _ _ _ _ (Nat.le_of_ble_eq_true hp)
  · exact Si_ok _ _ _ _ h hp
def onB (os hs : List (List AV)) (pu pv : Int) : Bool := inB pu 0 400 && (inB pv 0 400 && pointB os hs pu pv)
theorem eq34 (os hs : List (List AV)) (pu pv : Int) (h : (Nat.ble os.length 9223372036854775807 && Nat.ble hs.length 9223372036854775807) = true) : evF Try.prog Sj (ro 34) (fun _ _ => none) Try.f34 [.agg [.rs 32 os, .rs 71 hs], .agg [.i .i64 pu, .i .i64 pv]] = some (.b (onB os hs pu pv)) := by
  have e : evF Try.prog Sj (ro 34) (fun _ _ => none) Try.f34 [.agg [.rs 32 os, .rs 71 hs], .agg [.i .i64 pu, .i .i64 pv]] =
    cond (inB pu 0 400) (cond (inB pv 0 400) (cond (Nat.ble os.length 9223372036854775807 && Nat.ble hs.length 9223372036854775807) (some (.b (pointB os hs pu pv))) none) (some (.b false))) (some (.b false)) := by kernel_rfl
  rw [e, h]
  unfold onB
  cases inB pu 0 400 <;> cases inB pv 0 400 <;> rfl
theorem con34 (os hs : List (List AV)) (pu pv : Int) (h : (Nat.ble os.length 9223372036854775807 && Nat.ble hs.length 9223372036854775807) = true) : Con Try.prog 34 [.agg [.rs 32 os, .rs 71 hs], .agg [.i .i64 pu, .i .i64 pv]] (.b (onB os hs pu pv)) :=
  con_plain Sj_ok Try.func34 rfl (by kernel_rfl) (eq34 _ _ _ _ h)
noncomputable def Sk : Ev.Spec := fun f args => match f, args with
  | 34, [.agg [.rs 32 os, .rs 71 hs], .agg [.i .i64 pu, .i .i64 pv]] => some (Nat.ble os.length 9223372036854775807 && Nat.ble hs.length 9223372036854775807, .b (onB os hs pu pv))
  | f, args => Sj f args
theorem Sk_ok : SpecOK Try.prog Sk := by
  intro f args pre v h hp
  unfold Sk at h
  split at h
  · cases h; exact con34 _ _ _ _ hp
  · exact Sj_ok _ _ _ _ h hp
end Go.Proofs.Yteclfchlejocmaa
