/-
  The evaluator, its soundness, and the functions that several laws reach: what they compute, for all arguments; no conditions.
-/
import Derived.Test.YtkdiaipaajgcbaaPd
import Derived.Test.YtkdiaipaajgcbaaPc
set_option linter.unusedVariables false
set_option maxRecDepth 100000
set_option maxHeartbeats 1000000
set_option linter.unusedVariables false
namespace Go.Proofs.Ytkdiaipaajgcbaa
open Go Go.Ev
variable [LP]

noncomputable def c76 : Code := match Try.f22.body with | some c => c | _ => .skip
theorem lok76 : LOK Try.prog SLP (ro 22) (fun _ _ => none) 3 false c76 [] :=
  lok_lo (fun _ _ _ _ _ _ _ h _ => by cases h) c76 [] false (locate_nil _) (by kernel_rfl)
noncomputable def t76 (da db : Int) (cs : List (List AV)) (da' db' : Int) (cs' : List (List AV)) (q0 q1 q2 q3 q4 q5 q6 q7 : Int) (m : List (AV × AV)) : Tr ((Int) × (Int) × (Int) × (Int) × (Int) × (Int) × (Int) × (Int) × (Int) × (Int) × (Int) × (List (List AV)) × (List (AV × AV))) :=
  .cn (!mhas (AV.agg [AV.i IntKind.i64 q0, AV.i IntKind.i64 q1, AV.i IntKind.i64 q2, AV.i IntKind.i64 q3, AV.i IntKind.i64 q4, AV.i IntKind.i64 q5, AV.i IntKind.i64 q6, AV.i IntKind.i64 q7]) m) (.cn (LP.G da db cs da' db' cs' q0 q1 q2 q3 q4 q5 q6 q7 m && true) (.lf ((LP.F da db cs da' db' cs' q0 q1 q2 q3 q4 q5 q6 q7 m).fst 0, (LP.F da db cs da' db' cs' q0 q1 q2 q3 q4 q5 q6 q7 m).fst 1, (LP.F da db cs da' db' cs' q0 q1 q2 q3 q4 q5 q6 q7 m).fst 2, (LP.F da db cs da' db' cs' q0 q1 q2 q3 q4 q5 q6 q7 m).fst 3, (LP.F da db cs da' db' cs' q0 q1 q2 q3 q4 q5 q6 q7 m).fst 4, (LP.F da db cs da' db' cs' q0 q1 q2 q3 q4 q5 q6 q7 m).fst 5, (LP.F da db cs da' db' cs' q0 q1 q2 q3 q4 q5 q6 q7 m).fst 6, (LP.F da db cs da' db' cs' q0 q1 q2 q3 q4 q5 q6 q7 m).fst 7, (LP.F da db cs da' db' cs' q0 q1 q2 q3 q4 q5 q6 q7 m).fst 8, da', db', cs', mset (AV.agg [AV.i IntKind.i64 q0, AV.i IntKind.i64 q1, AV.i IntKind.i64 q2, AV.i IntKind.i64 q3, AV.i IntKind.i64 q4, AV.i IntKind.i64 q5, AV.i IntKind.i64 q6, AV.i IntKind.i64 q7]) (AV.agg [AV.i IntKind.i64 ((LP.F da db cs da' db' cs' q0 q1 q2 q3 q4 q5 q6 q7 m).fst 0), AV.i IntKind.i64 ((LP.F da db cs da' db' cs' q0 q1 q2 q3 q4 q5 q6 q7 m).fst 1), AV.i IntKind.i64 ((LP.F da db cs da' db' cs' q0 q1 q2 q3 q4 q5 q6 q7 m).fst 2), AV.i IntKind.i64 ((LP.F da db cs da' db' cs' q0 q1 q2 q3 q4 q5 q6 q7 m).fst 3), AV.i IntKind.i64 ((LP.F da db cs da' db' cs' q0 q1 q2 q3 q4 q5 q6 q7 m).fst 4), AV.i IntKind.i64 ((LP.F da db cs da' db' cs' q0 q1 q2 q3 q4 q5 q6 q7 m).fst 5), AV.i IntKind.i64 ((LP.F da db cs da' db' cs' q0 q1 q2 q3 q4 q5 q6 q7 m).fst 6), AV.i IntKind.i64 ((LP.F da db cs da' db' cs' q0 q1 q2 q3 q4 q5 q6 q7 m).fst 7), AV.i IntKind.i64 ((LP.F da db cs da' db' cs' q0 q1 q2 q3 q4 q5 q6 q7 m).fst 8)]) (LP.F da db cs da' db' cs' q0 q1 q2 q3 q4 q5 q6 q7 m).snd)) (.nn)) (.lf (fI (cellsOf ((mget (AV.agg [AV.i IntKind.i64 q0, AV.i IntKind.i64 q1, AV.i IntKind.i64 q2, AV.i IntKind.i64 q3, AV.i IntKind.i64 q4, AV.i IntKind.i64 q5, AV.i IntKind.i64 q6, AV.i IntKind.i64 q7]) m).getD (AV.agg [AV.i IntKind.i64 0, AV.i IntKind.i64 0, AV.i IntKind.i64 0, AV.i IntKind.i64 0, AV.i IntKind.i64 0, AV.i IntKind.i64 0, AV.i IntKind.i64 0, AV.i IntKind.i64 0, AV.i IntKind.i64 0]))) 0, fI (cellsOf ((mget (AV.agg [AV.i IntKind.i64 q0, AV.i IntKind.i64 q1, AV.i IntKind.i64 q2, AV.i IntKind.i64 q3, AV.i IntKind.i64 q4, AV.i IntKind.i64 q5, AV.i IntKind.i64 q6, AV.i IntKind.i64 q7]) m).getD (AV.agg [AV.i IntKind.i64 0, AV.i IntKind.i64 0, AV.i IntKind.i64 0, AV.i IntKind.i64 0, AV.i IntKind.i64 0, AV.i IntKind.i64 0, AV.i IntKind.i64 0, AV.i IntKind.i64 0, AV.i IntKind.i64 0]))) 1, fI (cellsOf ((mget (AV.agg [AV.i IntKind.i64 q0, AV.i IntKind.i64 q1, AV.i IntKind.i64 q2, AV.i IntKind.i64 q3, AV.i IntKind.i64 q4, AV.i IntKind.i64 q5, AV.i IntKind.i64 q6, AV.i IntKind.i64 q7]) m).getD (AV.agg [AV.i IntKind.i64 0, AV.i IntKind.i64 0, AV.i IntKind.i64 0, AV.i IntKind.i64 0, AV.i IntKind.i64 0, AV.i IntKind.i64 0, AV.i IntKind.i64 0, AV.i IntKind.i64 0, AV.i IntKind.i64 0]))) 2, fI (cellsOf ((mget (AV.agg [AV.i IntKind.i64 q0, AV.i IntKind.i64 q1, AV.i IntKind.i64 q2, AV.i IntKind.i64 q3, AV.i IntKind.i64 q4, AV.i IntKind.i64 q5, AV.i IntKind.i64 q6, AV.i IntKind.i64 q7]) m).getD (AV.agg [AV.i IntKind.i64 0, AV.i IntKind.i64 0, AV.i IntKind.i64 0, AV.i IntKind.i64 0, AV.i IntKind.i64 0, AV.i IntKind.i64 0, AV.i IntKind.i64 0, AV.i IntKind.i64 0, AV.i IntKind.i64 0]))) 3, fI (cellsOf ((mget (AV.agg [AV.i IntKind.i64 q0, AV.i IntKind.i64 q1, AV.i IntKind.i64 q2, AV.i IntKind.i64 q3, AV.i IntKind.i64 q4, AV.i IntKind.i64 q5, AV.i IntKind.i64 q6, AV.i IntKind.i64 q7]) m).getD (AV.agg [AV.i IntKind.i64 0, AV.i IntKind.i64 0, AV.i IntKind.i64 0, AV.i IntKind.i64 0, AV.i IntKind.i64 0, AV.i IntKind.i64 0, AV.i IntKind.i64 0, AV.i IntKind.i64 0, AV.i IntKind.i64 0]))) 4, fI (cellsOf ((mget (AV.agg [AV.i IntKind.i64 q0, AV.i IntKind.i64 q1, AV.i IntKind.i64 q2, AV.i IntKind.i64 q3, AV.i IntKind.i64 q4, AV.i IntKind.i64 q5, AV.i IntKind.i64 q6, AV.i IntKind.i64 q7]) m).getD (AV.agg [AV.i IntKind.i64 0, AV.i IntKind.i64 0, AV.i IntKind.i64 0, AV.i IntKind.i64 0, AV.i IntKind.i64 0, AV.i IntKind.i64 0, AV.i IntKind.i64 0, AV.i IntKind.i64 0, AV.i IntKind.i64 0]))) 5, fI (cellsOf ((mget (AV.agg [AV.i IntKind.i64 q0, AV.i IntKind.i64 q1, AV.i IntKind.i64 q2, AV.i IntKind.i64 q3, AV.i IntKind.i64 q4, AV.i IntKind.i64 q5, AV.i IntKind.i64 q6, AV.i IntKind.i64 q7]) m).getD (AV.agg [AV.i IntKind.i64 0, AV.i IntKind.i64 0, AV.i IntKind.i64 0, AV.i IntKind.i64 0, AV.i IntKind.i64 0, AV.i IntKind.i64 0, AV.i IntKind.i64 0, AV.i IntKind.i64 0, AV.i IntKind.i64 0]))) 6, fI (cellsOf ((mget (AV.agg [AV.i IntKind.i64 q0, AV.i IntKind.i64 q1, AV.i IntKind.i64 q2, AV.i IntKind.i64 q3, AV.i IntKind.i64 q4, AV.i IntKind.i64 q5, AV.i IntKind.i64 q6, AV.i IntKind.i64 q7]) m).getD (AV.agg [AV.i IntKind.i64 0, AV.i IntKind.i64 0, AV.i IntKind.i64 0, AV.i IntKind.i64 0, AV.i IntKind.i64 0, AV.i IntKind.i64 0, AV.i IntKind.i64 0, AV.i IntKind.i64 0, AV.i IntKind.i64 0]))) 7, fI (cellsOf ((mget (AV.agg [AV.i IntKind.i64 q0, AV.i IntKind.i64 q1, AV.i IntKind.i64 q2, AV.i IntKind.i64 q3, AV.i IntKind.i64 q4, AV.i IntKind.i64 q5, AV.i IntKind.i64 q6, AV.i IntKind.i64 q7]) m).getD (AV.agg [AV.i IntKind.i64 0, AV.i IntKind.i64 0, AV.i IntKind.i64 0, AV.i IntKind.i64 0, AV.i IntKind.i64 0, AV.i IntKind.i64 0, AV.i IntKind.i64 0, AV.i IntKind.i64 0, AV.i IntKind.i64 0]))) 8, da', db', cs', m))
noncomputable def g76 (da db : Int) (cs : List (List AV)) (da' db' : Int) (cs' : List (List AV)) (q0 q1 q2 q3 q4 q5 q6 q7 : Int) (m : List (AV × AV)) : Bool := (t76 da db cs da' db' cs' q0 q1 q2 q3 q4 q5 q6 q7 m).g
noncomputable def w76_0 (da db : Int) (cs : List (List AV)) (da' db' : Int) (cs' : List (List AV)) (q0 q1 q2 q3 q4 q5 q6 q7 : Int) (m : List (AV × AV)) : Int := (t76 da db cs da' db' cs' q0 q1 q2 q3 q4 q5 q6 q7 m).val.1
noncomputable def w76_1 (da db : Int) (cs : List (List AV)) (da' db' : Int) (cs' : List (List AV)) (q0 q1 q2 q3 q4 q5 q6 q7 : Int) (m : List (AV × AV)) : Int := (t76 da db cs da' db' cs' q0 q1 q2 q3 q4 q5 q6 q7 m).val.2.1
noncomputable def w76_2 (da db : Int) (cs : List (List AV)) (da' db' : Int) (cs' : List (List AV)) (q0 q1 q2 q3 q4 q5 q6 q7 : Int) (m : List (AV × AV)) : Int := (t76 da db cs da' db' cs' q0 q1 q2 q3 q4 q5 q6 q7 m).val.2.2.1
noncomputable def w76_3 (da db : Int) (cs : List (List AV)) (da' db' : Int) (cs' : List (List AV)) (q0 q1 q2 q3 q4 q5 q6 q7 : Int) (m : List (AV × AV)) : Int := (t76 da db cs da' db' cs' q0 q1 q2 q3 q4 q5 q6 q7 m).val.2.2.2.1
noncomputable def w76_4 (da db : Int) (cs : List (List AV)) (da' db' : Int) (cs' : List (List AV)) (q0 q1 q2 q3 q4 q5 q6 q7 : Int) (m : List (AV × AV)) : Int := (t76 da db cs da' db' cs' q0 q1 q2 q3 q4 q5 q6 q7 m).val.2.2.2.2.1
noncomputable def w76_5 (da db : Int) (cs : List (List AV)) (da' db' : Int) (cs' : List (List AV)) (q0 q1 q2 q3 q4 q5 q6 q7 : Int) (m : List (AV × AV)) : Int := (t76 da db cs da' db' cs' q0 q1 q2 q3 q4 q5 q6 q7 m).val.2.2.2.2.2.1
noncomputable def w76_6 (da db : Int) (cs : List (List AV)) (da' db' : Int) (cs' : List (List AV)) (q0 q1 q2 q3 q4 q5 q6 q7 : Int) (m : List (AV × AV)) : Int := (t76 da db cs da' db' cs' q0 q1 q2 q3 q4 q5 q6 q7 m).val.2.2.2.2.2.2.1
noncomputable def w76_7 (da db : Int) (cs : List (List AV)) (da' db' : Int) (cs' : List (List AV)) (q0 q1 q2 q3 q4 q5 q6 q7 : Int) (m : List (AV × AV)) : Int := (t76 da db cs da' db' cs' q0 q1 q2 q3 q4 q5 q6 q7 m).val.2.2.2.2.2.2.2.1
noncomputable def w76_8 (da db : Int) (cs : List (List AV)) (da' db' : Int) (cs' : List (List AV)) (q0 q1 q2 q3 q4 q5 q6 q7 : Int) (m : List (AV × AV)) : Int := (t76 da db cs da' db' cs' q0 q1 q2 q3 q4 q5 q6 q7 m).val.2.2.2.2.2.2.2.2.1
noncomputable def w76_9 (da db : Int) (cs : List (List AV)) (da' db' : Int) (cs' : List (List AV)) (q0 q1 q2 q3 q4 q5 q6 q7 : Int) (m : List (AV × AV)) : Int := (t76 da db cs da' db' cs' q0 q1 q2 q3 q4 q5 q6 q7 m).val.2.2.2.2.2.2.2.2.2.1
noncomputable def w76_10 (da db : Int) (cs : List (List AV)) (da' db' : Int) (cs' : List (List AV)) (q0 q1 q2 q3 q4 q5 q6 q7 : Int) (m : List (AV × AV)) : Int := (t76 da db cs da' db' cs' q0 q1 q2 q3 q4 q5 q6 q7 m).val.2.2.2.2.2.2.2.2.2.2.1
noncomputable def w76_11 (da db : Int) (cs : List (List AV)) (da' db' : Int) (cs' : List (List AV)) (q0 q1 q2 q3 q4 q5 q6 q7 : Int) (m : List (AV × AV)) : List (List AV) := (t76 da db cs da' db' cs' q0 q1 q2 q3 q4 q5 q6 q7 m).val.2.2.2.2.2.2.2.2.2.2.2.1
noncomputable def w76_12 (da db : Int) (cs : List (List AV)) (da' db' : Int) (cs' : List (List AV)) (q0 q1 q2 q3 q4 q5 q6 q7 : Int) (m : List (AV × AV)) : List (AV × AV) := (t76 da db cs da' db' cs' q0 q1 q2 q3 q4 q5 q6 q7 m).val.2.2.2.2.2.2.2.2.2.2.2.2
theorem eq76 (da db : Int) (cs : List (List AV)) (da' db' : Int) (cs' : List (List AV)) (q0 q1 q2 q3 q4 q5 q6 q7 : Int) (m : List (AV × AV)) : evM Try.prog SLP (ro 22) (fun _ _ => none) Try.f22 [.p 0 0 0, .agg [.i .i64 q0, .i .i64 q1, .i .i64 q2, .i .i64 q3, .i .i64 q4, .i .i64 q5, .i .i64 q6, .i .i64 q7], .fn 18 [.rp [.int .i64, .int .i64, .sl 44] [.i .i64 da, .i .i64 db, .rs 44 cs] 0, .p 0 0 0, .p 1 0 0]] [.row 75 [[.mp 2]], .row 76 [[.fn 18 [.rp [.int .i64, .int .i64, .sl 44] [.i .i64 da', .i .i64 db', .rs 44 cs'] 0, .p 0 0 0, .p 1 0 0]]], .mp 78 80 m] = (t76 da db cs da' db' cs' q0 q1 q2 q3 q4 q5 q6 q7 m).opt (fun (x : (Int) × (Int) × (Int) × (Int) × (Int) × (Int) × (Int) × (Int) × (Int) × (Int) × (Int) × (List (List AV)) × (List (AV × AV))) => ((.agg [.i .i64 x.1, .i .i64 x.2.1, .i .i64 x.2.2.1, .i .i64 x.2.2.2.1, .i .i64 x.2.2.2.2.1, .i .i64 x.2.2.2.2.2.1, .i .i64 x.2.2.2.2.2.2.1, .i .i64 x.2.2.2.2.2.2.2.1, .i .i64 x.2.2.2.2.2.2.2.2.1], [.row 75 [[.mp 2]], .row 76 [[.fn 18 [.rp [.int .i64, .int .i64, .sl 44] [.i .i64 x.2.2.2.2.2.2.2.2.2.1, .i .i64 x.2.2.2.2.2.2.2.2.2.2.1, .rs 44 x.2.2.2.2.2.2.2.2.2.2.2.1] 0, .p 0 0 0, .p 1 0 0]]], .mp 78 80 x.2.2.2.2.2.2.2.2.2.2.2.2]) : AV × List Blk)) := by kernel_rfl
theorem con76 (da db : Int) (cs : List (List AV)) (da' db' : Int) (cs' : List (List AV)) (q0 q1 q2 q3 q4 q5 q6 q7 : Int) (m : List (AV × AV)) (h : g76 da db cs da' db' cs' q0 q1 q2 q3 q4 q5 q6 q7 m = true) : Con Try.prog 22 [.p 0 0 0, .agg [.i .i64 q0, .i .i64 q1, .i .i64 q2, .i .i64 q3, .i .i64 q4, .i .i64 q5, .i .i64 q6, .i .i64 q7], .fn 18 [.rp [.int .i64, .int .i64, .sl 44] [.i .i64 da, .i .i64 db, .rs 44 cs] 0, .p 0 0 0, .p 1 0 0]] [.row 75 [[.mp 2]], .row 76 [[.fn 18 [.rp [.int .i64, .int .i64, .sl 44] [.i .i64 da', .i .i64 db', .rs 44 cs'] 0, .p 0 0 0, .p 1 0 0]]], .mp 78 80 m] (.agg [.i .i64 (w76_0 da db cs da' db' cs' q0 q1 q2 q3 q4 q5 q6 q7 m), .i .i64 (w76_1 da db cs da' db' cs' q0 q1 q2 q3 q4 q5 q6 q7 m), .i .i64 (w76_2 da db cs da' db' cs' q0 q1 q2 q3 q4 q5 q6 q7 m), .i .i64 (w76_3 da db cs da' db' cs' q0 q1 q2 q3 q4 q5 q6 q7 m), .i .i64 (w76_4 da db cs da' db' cs' q0 q1 q2 q3 q4 q5 q6 q7 m), .i .i64 (w76_5 da db cs da' db' cs' q0 q1 q2 q3 q4 q5 q6 q7 m), .i .i64 (w76_6 da db cs da' db' cs' q0 q1 q2 q3 q4 q5 q6 q7 m), .i .i64 (w76_7 da db cs da' db' cs' q0 q1 q2 q3 q4 q5 q6 q7 m), .i .i64 (w76_8 da db cs da' db' cs' q0 q1 q2 q3 q4 q5 q6 q7 m)]) [.row 75 [[.mp 2]], .row 76 [[.fn 18 [.rp [.int .i64, .int .i64, .sl 44] [.i .i64 (w76_9 da db cs da' db' cs' q0 q1 q2 q3 q4 q5 q6 q7 m), .i .i64 (w76_10 da db cs da' db' cs' q0 q1 q2 q3 q4 q5 q6 q7 m), .rs 44 (w76_11 da db cs da' db' cs' q0 q1 q2 q3 q4 q5 q6 q7 m)] 0, .p 0 0 0, .p 1 0 0]]], .mp 78 80 (w76_12 da db cs da' db' cs' q0 q1 q2 q3 q4 q5 q6 q7 m)] :=
  con_ofM SLP_ok mixed Try.func22 (c := c76) rfl (names 22 _ Try.func22) lok76 ((eq76 da db cs da' db' cs' q0 q1 q2 q3 q4 q5 q6 q7 m).trans (Tr.sound _ _ h))
-- SPEC 76
end Go.Proofs.Ytkdiaipaajgcbaa

set_option maxRecDepth 100000
set_option linter.unusedVariables false
namespace Go.Proofs.Ytkdiaipaajgcbaa
open Go Go.Ev
def TrAll {β : Type} (p : β → Prop) : Tr β → Prop
  | .nn => True
  | .lf v => p v
  | .cn _ x y => TrAll p x ∧ TrAll p y
theorem TrAll.val {β : Type} [Inhabited β] {p : β → Prop} : ∀ {t : Tr β}, TrAll p t → t.g = true → p t.val
  | .nn, _, h => by cases h
  | .lf _, hp, _ => hp
  | .cn true x y, hp, h => TrAll.val (t := x) hp.1 h
  | .cn false x y, hp, h => TrAll.val (t := y) hp.2 h
theorem w76_rows [LP] (da db : Int) (cs : PS) (da' db' : Int) (cs' : PS) (q0 q1 q2 q3 q4 q5 q6 q7 : Int) (m : Mp) (h : g76 da db cs da' db' cs' q0 q1 q2 q3 q4 q5 q6 q7 m = true) : w76_9 da db cs da' db' cs' q0 q1 q2 q3 q4 q5 q6 q7 m = da' ∧ w76_10 da db cs da' db' cs' q0 q1 q2 q3 q4 q5 q6 q7 m = db' ∧ w76_11 da db cs da' db' cs' q0 q1 q2 q3 q4 q5 q6 q7 m = cs' :=
  TrAll.val (p := fun x => x.2.2.2.2.2.2.2.2.2.1 = da' ∧ x.2.2.2.2.2.2.2.2.2.2.1 = db' ∧ x.2.2.2.2.2.2.2.2.2.2.2.1 = cs') (t := t76 da db cs da' db' cs' q0 q1 q2 q3 q4 q5 q6 q7 m) (by unfold t76; exact ⟨⟨⟨rfl, rfl, rfl⟩, trivial⟩, ⟨rfl, rfl, rfl⟩⟩) h
@[reducible] noncomputable def lqOf (K : LP) : LQ where
  F := fun da db cs da' db' cs' q0 q1 q2 q3 q4 q5 q6 q7 m => (fun i => match i with | 0 => w76_0 da db cs da' db' cs' q0 q1 q2 q3 q4 q5 q6 q7 m | 1 => w76_1 da db cs da' db' cs' q0 q1 q2 q3 q4 q5 q6 q7 m | 2 => w76_2 da db cs da' db' cs' q0 q1 q2 q3 q4 q5 q6 q7 m | 3 => w76_3 da db cs da' db' cs' q0 q1 q2 q3 q4 q5 q6 q7 m | 4 => w76_4 da db cs da' db' cs' q0 q1 q2 q3 q4 q5 q6 q7 m | 5 => w76_5 da db cs da' db' cs' q0 q1 q2 q3 q4 q5 q6 q7 m | 6 => w76_6 da db cs da' db' cs' q0 q1 q2 q3 q4 q5 q6 q7 m | 7 => w76_7 da db cs da' db' cs' q0 q1 q2 q3 q4 q5 q6 q7 m | _ => w76_8 da db cs da' db' cs' q0 q1 q2 q3 q4 q5 q6 q7 m, w76_12 da db cs da' db' cs' q0 q1 q2 q3 q4 q5 q6 q7 m)
  G := fun da db cs da' db' cs' q0 q1 q2 q3 q4 q5 q6 q7 m => g76 da db cs da' db' cs' q0 q1 q2 q3 q4 q5 q6 q7 m
  ok := fun da db cs da' db' cs' q0 q1 q2 q3 q4 q5 q6 q7 m h => by
    have := con76 da db cs da' db' cs' q0 q1 q2 q3 q4 q5 q6 q7 m h
    obtain ⟨e1, e2, e3⟩ := w76_rows da db cs da' db' cs' q0 q1 q2 q3 q4 q5 q6 q7 m h
    rw [e1, e2, e3] at this
    exact this
end Go.Proofs.Ytkdiaipaajgcbaa

set_option maxRecDepth 100000
set_option linter.unusedVariables false
namespace Go.Proofs.Ytkdiaipaajgcbaa
open Go Go.Ev
theorem w72_rows [LQ] (da db : Int) (cs : PS) (da' db' : Int) (cs' : PS) (q0 q1 q2 q3 q4 q5 q6 q7 : Int) (m : Mp) (h : g72 da db cs da' db' cs' q0 q1 q2 q3 q4 q5 q6 q7 m = true) : w72_9 da db cs da' db' cs' q0 q1 q2 q3 q4 q5 q6 q7 m = da' ∧ w72_10 da db cs da' db' cs' q0 q1 q2 q3 q4 q5 q6 q7 m = db' ∧ w72_11 da db cs da' db' cs' q0 q1 q2 q3 q4 q5 q6 q7 m = cs' :=
  TrAll.val (p := fun x => x.2.2.2.2.2.2.2.2.2.1 = da' ∧ x.2.2.2.2.2.2.2.2.2.2.1 = db' ∧ x.2.2.2.2.2.2.2.2.2.2.2.1 = cs') (t := t72 da db cs da' db' cs' q0 q1 q2 q3 q4 q5 q6 q7 m) (by unfold t72; exact ⟨⟨⟨rfl, rfl, rfl⟩, ⟨⟨rfl, rfl, rfl⟩, trivial⟩⟩, trivial⟩) h
@[reducible] noncomputable def lpOf (K : LQ) : LP where
  F := fun da db cs da' db' cs' q0 q1 q2 q3 q4 q5 q6 q7 m => (fun i => match i with | 0 => w72_0 da db cs da' db' cs' q0 q1 q2 q3 q4 q5 q6 q7 m | 1 => w72_1 da db cs da' db' cs' q0 q1 q2 q3 q4 q5 q6 q7 m | 2 => w72_2 da db cs da' db' cs' q0 q1 q2 q3 q4 q5 q6 q7 m | 3 => w72_3 da db cs da' db' cs' q0 q1 q2 q3 q4 q5 q6 q7 m | 4 => w72_4 da db cs da' db' cs' q0 q1 q2 q3 q4 q5 q6 q7 m | 5 => w72_5 da db cs da' db' cs' q0 q1 q2 q3 q4 q5 q6 q7 m | 6 => w72_6 da db cs da' db' cs' q0 q1 q2 q3 q4 q5 q6 q7 m | 7 => w72_7 da db cs da' db' cs' q0 q1 q2 q3 q4 q5 q6 q7 m | _ => w72_8 da db cs da' db' cs' q0 q1 q2 q3 q4 q5 q6 q7 m, w72_12 da db cs da' db' cs' q0 q1 q2 q3 q4 q5 q6 q7 m)
  G := fun da db cs da' db' cs' q0 q1 q2 q3 q4 q5 q6 q7 m => g72 da db cs da' db' cs' q0 q1 q2 q3 q4 q5 q6 q7 m
  ok := fun da db cs da' db' cs' q0 q1 q2 q3 q4 q5 q6 q7 m h => by
    have := con72 da db cs da' db' cs' q0 q1 q2 q3 q4 q5 q6 q7 m h
    obtain ⟨e1, e2, e3⟩ := w72_rows da db cs da' db' cs' q0 q1 q2 q3 q4 q5 q6 q7 m h
    rw [e1, e2, e3] at this
    exact this
@[reducible] noncomputable def lpN : Nat → LP
  | 0 => { F := fun _ _ _ _ _ _ _ _ _ _ _ _ _ _ m => (fun _ => 0, m), G := fun _ _ _ _ _ _ _ _ _ _ _ _ _ _ _ => false, ok := fun _ _ _ _ _ _ _ _ _ _ _ _ _ _ _ h => by cases h }
  | n + 1 => lpOf (lqOf (lpN n))
end Go.Proofs.Ytkdiaipaajgcbaa

set_option maxRecDepth 100000
set_option linter.unusedVariables false
namespace Go.Proofs.Ytkdiaipaajgcbaa
open Go Go.Ev
theorem iterR_ind {σ τ α : Type} {step : σ → α → Lp σ τ} (P : List α → σ → Prop) : ∀ (l pre : List α) (x : σ), P pre x → (∀ pre x a, a ∈ l → P pre x → ∃ y, step x a = .go y ∧ P (pre ++ [a]) y) → ∃ y, iterR step l x = some (.inl y) ∧ P (pre ++ l) y
  | [], pre, x, h, _ => ⟨x, rfl, by rw [List.append_nil]; exact h⟩
  | a :: l, pre, x, h, hs => by
    obtain ⟨y, h1, h2⟩ := hs pre x a (by simp) h
    obtain ⟨z, h3, h4⟩ := iterR_ind P l (pre ++ [a]) y h2 fun pre x b hb => hs pre x b (by simp [hb])
    refine ⟨z, ?_, by rw [List.append_assoc] at h4; exact h4⟩
    show (match step x a with | .go y => iterR step l y | .out y => some (.inr y) | .bad => none) = _
    rw [h1]
    exact h3
section
variable {da db : Int} {cs : List (List AV)}
theorem pat_vec (hF : RFine da db cs) {q : Nat → Int} (hq : ∀ i, i < cs.length → 0 ≤ q i ∧ q i ≤ 12) :
    okP da db cs (q 0) (q 1) (q 2) (q 3) (q 4) (q 5) (q 6) (q 7) = true ∧ (∀ it, it ∈ patX da db cs (q 0) (q 1) (q 2) (q 3) (q 4) (q 5) (q 6) (q 7) → (∀ i, i < cs.length → 0 ≤ fI it i ∧ fI it i ≤ q i) ∧ (∀ i, cs.length ≤ i → i < 8 → fI it i = 0) ∧ DD db cs (fX it) cs.length ≤ da + db) ∧
    ∀ p : Nat → Int, (∀ i, i < cs.length → 0 ≤ p i ∧ p i ≤ q i) → DD db cs p cs.length ≤ da + db → ∃ it, it ∈ patX da db cs (q 0) (q 1) (q 2) (q 3) (q 4) (q 5) (q 6) (q 7) ∧ ∀ i, i < cs.length → fI it i = p i := by
  have hN := hF.l
  have ha := hF.a
  have hb := hF.b
  have hms : ∀ j, j < cs.length → 0 ≤ fI [AV.i .i64 (q 0), .i .i64 (q 1), .i .i64 (q 2), .i .i64 (q 3), .i .i64 (q 4), .i .i64 (q 5), .i .i64 (q 6), .i .i64 (q 7)] j ∧ fI [AV.i .i64 (q 0), .i .i64 (q 1), .i .i64 (q 2), .i .i64 (q 3), .i .i64 (q 4), .i .i64 (q 5), .i .i64 (q 6), .i .i64 (q 7)] j ≤ 12 := fun j hj => by
    have e : fI [AV.i .i64 (q 0), .i .i64 (q 1), .i .i64 (q 2), .i .i64 (q 3), .i .i64 (q 4), .i .i64 (q 5), .i .i64 (q 6), .i .i64 (q 7)] j = q j := row8_get (f := q) (by omega)
    rw [e]
    exact hq j hj
  have hmj : ∀ j, j < cs.length → fI [AV.i .i64 (q 0), .i .i64 (q 1), .i .i64 (q 2), .i .i64 (q 3), .i .i64 (q 4), .i .i64 (q 5), .i .i64 (q 6), .i .i64 (q 7)] j = q j := fun j hj => row8_get (f := q) (by omega)
  have hwr : IntKind.i64.wrap (da + db) = da + db := wrap64 (by omega) (by omega)
  have hex : ∃ Xs, Pats da db cs [AV.i .i64 (q 0), .i .i64 (q 1), .i .i64 (q 2), .i .i64 (q 3), .i .i64 (q 4), .i .i64 (q 5), .i .i64 (q 6), .i .i64 (q 7)] Xs := by
    obtain ⟨l0, X0, p0⟩ := PT_ex2 hF hms cs.length 0 rfl (Nat.zero_le _) (da + db) zero8 rfl
    obtain ⟨v1, _, _⟩ := PT_vec hF hms p0 rfl (Nat.zero_le _) (by omega) (by omega)
    obtain ⟨v2, _⟩ := v1 rfl (by omega)
    have mo : ∀ {l : List (List AV)}, (∀ e, e ∈ l → ∃ Y, e = enc8 Y) → ∃ Xs : List (List AV), l = Xs.map enc8 := by
      intro l
      induction l with
      | nil => exact fun _ => ⟨[], rfl⟩
      | cons e l ih =>
        intro h
        obtain ⟨Y, rfl⟩ := h e (by simp)
        obtain ⟨Xs, rfl⟩ := ih fun e he => h e (by simp [he])
        exact ⟨Y :: Xs, rfl⟩
    obtain ⟨Xs, hXs⟩ := mo fun e he => by
      obtain ⟨Y, e1, _⟩ := v2 e he
      exact ⟨Y, e1⟩
    exact ⟨Xs, X0, by rw [hwr, ← hXs]; exact p0⟩
  have hok : okP da db cs (q 0) (q 1) (q 2) (q 3) (q 4) (q 5) (q 6) (q 7) = true := by
    unfold okP
    simp only [decide_eq_true_eq]
    exact hex
  obtain ⟨p', hp⟩ := patX_ok hok
  rw [hwr] at hp
  obtain ⟨v1, _, _⟩ := PT_vec hF hms hp rfl (Nat.zero_le _) (by omega) (by omega)
  obtain ⟨v2, v3⟩ := v1 rfl (by omega)
  refine ⟨hok, fun it hit => ?_, fun p hp1 hp2 => ?_⟩
  · obtain ⟨Y, e1, e2, e3, e4⟩ := v2 (enc8 it) (List.mem_map.2 ⟨it, hit, rfl⟩)
    have inj := enc8_inj e1
    refine ⟨fun i hi => ?_, fun i h1 h2 => ?_, ?_⟩
    · rw [inj i (by omega), ← hmj i hi]
      exact e3 i (Nat.zero_le _) hi
    · rw [inj i h2, e2 i (.inr h1)]
      rcases i with _ | _ | _ | _ | _ | _ | _ | _ | i
      all_goals first | (exfalso; omega) | rfl
    · have : DD db cs (fX it) cs.length = DD db cs (fX Y) cs.length := DD_congr fun i hi => inj i (by omega)
      rw [this]
      have e4 : DD db cs (fX Y) cs.length - 0 ≤ da + db := e4
      omega
  · obtain ⟨e, he, Y, e1, e2, e3⟩ := v3 p (fun i _ hi => by rw [hmj i hi]; exact hp1 i hi) (by show DD db cs p cs.length - 0 ≤ da + db; omega)
    obtain ⟨it, hit, rfl⟩ := List.mem_map.1 he
    have inj := enc8_inj e1
    exact ⟨it, hit, fun i hi => by rw [inj i (by omega)]; exact e3 i (Nat.zero_le _) hi⟩
end
theorem idx_run (q : Nat → Int) : ∃ y, r73qa 0 8 (q 0) (q 1) (q 2) (q 3) (q 4) (q 5) (q 6) (q 7) 0 = some y ∧ ((∃ k : Nat, k < 8 ∧ 0 < q k ∧ y = .x0 (k : Int) (k : Int)) ∨ ((∀ i, i < 8 → q i ≤ 0) ∧ ∃ a, y = .x1 a)) := by
  have run := run_for (S := Unit) (step := fun x : S73qa => stp73qa 0 8 (q 0) (q 1) (q 2) (q 3) (q 4) (q 5) (q 6) (q 7) x.t8) 8 (fun k _ => (⟨(k : Int)⟩ : S73qa)) (fun k _ => ∀ i, i < k → q i ≤ 0) (fun _ _ (y : T73qa) => (∃ k : Nat, k < 8 ∧ 0 < q k ∧ y = .x0 (k : Int) (k : Int)) ∨ ((∀ i, i < 8 → q i ≤ 0) ∧ ∃ a, y = .x1 a))
    (fun k _ hk hI => by
      have hw : w74_0 (q k) = decide (q k > 0) := rfl
      have hg : toI ((([[AV.i IntKind.i64 (q 0), AV.i IntKind.i64 (q 1), AV.i IntKind.i64 (q 2), AV.i IntKind.i64 (q 3), AV.i IntKind.i64 (q 4), AV.i IntKind.i64 (q 5), AV.i IntKind.i64 (q 6), AV.i IntKind.i64 (q 7)]] : List (List AV)).getD 0 []).getD (0 + ((k : Nat) : Int).toNat * 1) AV.u) = q k := q_get q hk
      have hd : decide ((k : Int) < 8) = true := decide_eq_true (by omega)
      by_cases h : q k > 0
      · right
        refine ⟨.x0 (k : Int) (k : Int), ?_, .inl ⟨k, hk, h, rfl⟩⟩
        unfold stp73qa
        dsimp only
        rw [hd, inb_true hk, cts104 hk, hg, hw, decide_eq_true h]
        rfl
      · left
        refine ⟨(), ?_, fun i hi => ?_, fun y hy => hy⟩
        · unfold stp73qa
          dsimp only
          rw [hd, inb_true hk, cts104 hk, hg, hw, decide_eq_false h, wrap_succ (by omega)]
          rfl
        · rcases Nat.lt_succ_iff_lt_or_eq.1 hi with h' | rfl
          · exact hI i h'
          · omega)
    (fun _ hI => ⟨.x1 8, rfl, .inr ⟨hI, 8, rfl⟩⟩) 0 () (by omega) (fun i hi => by omega)
  exact run
theorem idx_val (q : Nat → Int) : g73q (q 0) (q 1) (q 2) (q 3) (q 4) (q 5) (q 6) (q 7) = true ∧ (w73q_1 (q 0) (q 1) (q 2) (q 3) (q 4) (q 5) (q 6) (q 7) = q 0 ∧ w73q_2 (q 0) (q 1) (q 2) (q 3) (q 4) (q 5) (q 6) (q 7) = q 1 ∧ w73q_3 (q 0) (q 1) (q 2) (q 3) (q 4) (q 5) (q 6) (q 7) = q 2 ∧ w73q_4 (q 0) (q 1) (q 2) (q 3) (q 4) (q 5) (q 6) (q 7) = q 3 ∧ w73q_5 (q 0) (q 1) (q 2) (q 3) (q 4) (q 5) (q 6) (q 7) = q 4 ∧ w73q_6 (q 0) (q 1) (q 2) (q 3) (q 4) (q 5) (q 6) (q 7) = q 5 ∧ w73q_7 (q 0) (q 1) (q 2) (q 3) (q 4) (q 5) (q 6) (q 7) = q 6 ∧ w73q_8 (q 0) (q 1) (q 2) (q 3) (q 4) (q 5) (q 6) (q 7) = q 7) ∧
    ((∃ k : Nat, k < 8 ∧ 0 < q k ∧ w73q_0 (q 0) (q 1) (q 2) (q 3) (q 4) (q 5) (q 6) (q 7) = (k : Int)) ∨ ((∀ i, i < 8 → q i ≤ 0) ∧ w73q_0 (q 0) (q 1) (q 2) (q 3) (q 4) (q 5) (q 6) (q 7) = -1)) := by
  obtain ⟨y, h1, h2⟩ := idx_run q
  unfold g73q w73q_0 w73q_1 w73q_2 w73q_3 w73q_4 w73q_5 w73q_6 w73q_7 w73q_8 t73q i73qa_0 i73qa_1 v73qa_0_t4'
  rw [h1]
  rcases h2 with ⟨k, k1, k2, rfl⟩ | ⟨k1, a, rfl⟩
  · exact ⟨rfl, ⟨rfl, rfl, rfl, rfl, rfl, rfl, rfl, rfl⟩, .inl ⟨k, k1, k2, rfl⟩⟩
  · exact ⟨rfl, ⟨rfl, rfl, rfl, rfl, rfl, rfl, rfl, rfl⟩, .inr ⟨k1, rfl⟩⟩
theorem row8_congr {f g : Nat → Int} (h : ∀ i, i < 8 → f i = g i) : row8 f = row8 g := List.map_congr_left fun i hi => by rw [h i (by simpa using hi)]
section
theorem rest_run (p q : Nat → Int) (hp : ∀ i, i < 8 → 0 ≤ p i ∧ p i ≤ 12) (hq : ∀ i, i < 8 → 0 ≤ q i ∧ q i ≤ 12) (a1 a2 : Int) (a3 : List (List AV)) (m : List (AV × AV)) (bb0 bb1 bb2 bb3 bb4 bb5 bb6 bb7 cc0 cc1 cc2 cc3 cc4 cc5 cc6 cc7 cc8 k dd0 dd1 dd2 dd3 dd4 dd5 dd6 dd7 dd8 ee0 ee1 ee2 ee3 ee4 ee5 ee6 ee7 : Int) :
    ∃ a, r72aa (p 0) (p 1) (p 2) (p 3) (p 4) (p 5) (p 6) (p 7) a1 a2 a3 m bb0 bb1 bb2 bb3 bb4 bb5 bb6 bb7 cc0 cc1 cc2 cc3 cc4 cc5 cc6 cc7 cc8 k dd0 dd1 dd2 dd3 dd4 dd5 dd6 dd7 dd8 ee0 ee1 ee2 ee3 ee4 ee5 ee6 ee7 0 (row8 q) = some (.x0 a (row8 fun i => q i - p i)) := by
  have run := run_for (S := Unit) (step := fun x : S72aa => stp72aa (p 0) (p 1) (p 2) (p 3) (p 4) (p 5) (p 6) (p 7) a1 a2 a3 m bb0 bb1 bb2 bb3 bb4 bb5 bb6 bb7 cc0 cc1 cc2 cc3 cc4 cc5 cc6 cc7 cc8 k dd0 dd1 dd2 dd3 dd4 dd5 dd6 dd7 dd8 ee0 ee1 ee2 ee3 ee4 ee5 ee6 ee7 x.t29 x.m24) 8 (fun j _ => (⟨(j : Int), row8 fun i => if i < j then q i - p i else q i⟩ : S72aa)) (fun _ _ => True) (fun _ _ (y : T72aa) => ∃ a, y = .x0 a (row8 fun i => q i - p i))
    (fun j _ hj _ => by
      left
      refine ⟨(), ?_, trivial, fun y hy => hy⟩
      have hd : decide ((j : Int) < 8) = true := decide_eq_true (by omega)
      have hi : intsOf IntKind.i64 [AV.i IntKind.i64 (p 0), AV.i IntKind.i64 (p 1), AV.i IntKind.i64 (p 2), AV.i IntKind.i64 (p 3), AV.i IntKind.i64 (p 4), AV.i IntKind.i64 (p 5), AV.i IntKind.i64 (p 6), AV.i IntKind.i64 (p 7)] = true := rfl
      have hg : toI ([AV.i IntKind.i64 (p 0), AV.i IntKind.i64 (p 1), AV.i IntKind.i64 (p 2), AV.i IntKind.i64 (p 3), AV.i IntKind.i64 (p 4), AV.i IntKind.i64 (p 5), AV.i IntKind.i64 (p 6), AV.i IntKind.i64 (p 7)].getD ((j : Nat) : Int).toNat AV.u) = p j := by
        have := q_get p hj
        rw [Nat.zero_add, Nat.mul_one] at this
        exact this
      have hx : toI ((([row8 fun i => if i < j then q i - p i else q i] : List (List AV)).getD 0 []).getD (0 + ((j : Nat) : Int).toNat * 1) AV.u) = q j := by
        rw [Nat.zero_add, Nat.mul_one, Int.toNat_natCast]
        show fI (row8 fun i => if i < j then q i - p i else q i) j = q j
        rw [row8_get hj, if_neg (by omega)]
      have hs : setCs (([row8 fun i => if i < j then q i - p i else q i] : List (List AV)).getD 0 []) (0 + ((j : Nat) : Int).toNat * 1) [AV.i IntKind.i64 (IntKind.i64.wrap (q j - p j))] = row8 fun i => if i < j + 1 then q i - p i else q i := by
        have h1 := hp j hj
        have h2 := hq j hj
        rw [Nat.zero_add, Nat.mul_one, Int.toNat_natCast, wrap64 (by omega) (by omega)]
        show (row8 fun i => if i < j then q i - p i else q i).set j (.i .i64 (q j - p j)) = _
        rw [row8_set hj]
        refine row8_congr fun i _ => ?_
        unfold upd
        show (if i = j then q j - p j else if i < j then q i - p i else q i) = if i < j + 1 then q i - p i else q i
        by_cases h : i = j
        · subst h
          rw [if_pos rfl, if_pos (show i < i + 1 by omega)]
        · rw [if_neg h]
          by_cases h' : i < j
          · rw [if_pos h', if_pos (show i < j + 1 by omega)]
          · rw [if_neg h', if_neg (show ¬ i < j + 1 by omega)]
      unfold stp72aa
      dsimp only
      rw [hd, hi, inb_true hj, show [AV.i IntKind.i64 (p 0), AV.i IntKind.i64 (p 1), AV.i IntKind.i64 (p 2), AV.i IntKind.i64 (p 3), AV.i IntKind.i64 (p 4), AV.i IntKind.i64 (p 5), AV.i IntKind.i64 (p 6), AV.i IntKind.i64 (p 7)].length = 8 from rfl, inb_true hj, cts104 hj, hg, hx, hs, wrap_succ (by omega)]
      rfl)
    (fun _ _ => by
      refine ⟨.x0 8 (row8 fun i => q i - p i), ?_, _, rfl⟩
      have e : (row8 fun i => if i < 8 then q i - p i else q i) = row8 fun i => q i - p i := row8_congr fun i hi => if_pos hi
      unfold stp72aa
      dsimp only
      rw [e]
      rfl)
    0 () (by omega) trivial
  obtain ⟨y, h1, a, h2⟩ := run
  refine ⟨a, ?_⟩
  rw [← h2, ← h1]
  unfold r72aa
  congr 2
variable [LQ]
theorem step72 (p q s : Nat → Int) (hp : ∀ i, i < 8 → 0 ≤ p i ∧ p i ≤ 12) (hq : ∀ i, i < 8 → 0 ≤ q i ∧ q i ≤ 12) (a1 a2 : Int) (a3 : List (List AV)) (m : List (AV × AV)) (f1 f2 : Int) (f3 : List (List AV)) (gg0 gg1 gg2 gg3 gg4 gg5 gg6 gg7 cc0 cc1 cc2 cc3 cc4 cc5 cc6 cc7 cc8 : Int) {k : Nat} (hk : k < 8) {it : List AV} (hit : ∀ i, i < 8 → fI it i = p i) :
    (p k = 0 → stp72a f1 f2 f3 gg0 gg1 gg2 gg3 gg4 gg5 gg6 gg7 a1 a2 a3 (q 0) (q 1) (q 2) (q 3) (q 4) (q 5) (q 6) (q 7) cc0 cc1 cc2 cc3 cc4 cc5 cc6 cc7 cc8 (k : Int) m (s 0) (s 1) (s 2) (s 3) (s 4) (s 5) (s 6) (s 7) (s 8) it = .go ⟨m, s 0, s 1, s 2, s 3, s 4, s 5, s 6, s 7, s 8⟩) ∧
    (p k ≠ 0 → LQ.G a1 a2 a3 a1 a2 a3 (q 0 - p 0) (q 1 - p 1) (q 2 - p 2) (q 3 - p 3) (q 4 - p 4) (q 5 - p 5) (q 6 - p 6) (q 7 - p 7) m = true → -1000 ≤ (LQ.F a1 a2 a3 a1 a2 a3 (q 0 - p 0) (q 1 - p 1) (q 2 - p 2) (q 3 - p 3) (q 4 - p 4) (q 5 - p 5) (q 6 - p 6) (q 7 - p 7) m).1 8 → (LQ.F a1 a2 a3 a1 a2 a3 (q 0 - p 0) (q 1 - p 1) (q 2 - p 2) (q 3 - p 3) (q 4 - p 4) (q 5 - p 5) (q 6 - p 6) (q 7 - p 7) m).1 8 ≤ 1000 →
      stp72a f1 f2 f3 gg0 gg1 gg2 gg3 gg4 gg5 gg6 gg7 a1 a2 a3 (q 0) (q 1) (q 2) (q 3) (q 4) (q 5) (q 6) (q 7) cc0 cc1 cc2 cc3 cc4 cc5 cc6 cc7 cc8 (k : Int) m (s 0) (s 1) (s 2) (s 3) (s 4) (s 5) (s 6) (s 7) (s 8) it = (if 1 + (LQ.F a1 a2 a3 a1 a2 a3 (q 0 - p 0) (q 1 - p 1) (q 2 - p 2) (q 3 - p 3) (q 4 - p 4) (q 5 - p 5) (q 6 - p 6) (q 7 - p 7) m).1 8 < s 8 then .go ⟨(LQ.F a1 a2 a3 a1 a2 a3 (q 0 - p 0) (q 1 - p 1) (q 2 - p 2) (q 3 - p 3) (q 4 - p 4) (q 5 - p 5) (q 6 - p 6) (q 7 - p 7) m).2, p 0, p 1, p 2, p 3, p 4, p 5, p 6, p 7, 1 + (LQ.F a1 a2 a3 a1 a2 a3 (q 0 - p 0) (q 1 - p 1) (q 2 - p 2) (q 3 - p 3) (q 4 - p 4) (q 5 - p 5) (q 6 - p 6) (q 7 - p 7) m).1 8⟩ else .go ⟨(LQ.F a1 a2 a3 a1 a2 a3 (q 0 - p 0) (q 1 - p 1) (q 2 - p 2) (q 3 - p 3) (q 4 - p 4) (q 5 - p 5) (q 6 - p 6) (q 7 - p 7) m).2, s 0, s 1, s 2, s 3, s 4, s 5, s 6, s 7, s 8⟩)) := by
  have h0 := hit 0 (by omega)
  have h1 := hit 1 (by omega)
  have h2 := hit 2 (by omega)
  have h3 := hit 3 (by omega)
  have h4 := hit 4 (by omega)
  have h5 := hit 5 (by omega)
  have h6 := hit 6 (by omega)
  have h7 := hit 7 (by omega)
  have hg : toI ((([[AV.i IntKind.i64 0, AV.i IntKind.i64 0, AV.i IntKind.i64 0, AV.i IntKind.i64 0, AV.i IntKind.i64 0, AV.i IntKind.i64 0, AV.i IntKind.i64 0, AV.i IntKind.i64 0]].set 0 (setCs ([[AV.i IntKind.i64 0, AV.i IntKind.i64 0, AV.i IntKind.i64 0, AV.i IntKind.i64 0, AV.i IntKind.i64 0, AV.i IntKind.i64 0, AV.i IntKind.i64 0, AV.i IntKind.i64 0]].getD 0 []) 0 [AV.i IntKind.i64 (p 0), AV.i IntKind.i64 (p 1), AV.i IntKind.i64 (p 2), AV.i IntKind.i64 (p 3), AV.i IntKind.i64 (p 4), AV.i IntKind.i64 (p 5), AV.i IntKind.i64 (p 6), AV.i IntKind.i64 (p 7)])).getD 0 []).getD (0 + ((k : Nat) : Int).toNat * 1) AV.u) = p k := q_get p hk
  obtain ⟨a, hr⟩ := rest_run p q hp hq a1 a2 a3 m (q 0) (q 1) (q 2) (q 3) (q 4) (q 5) (q 6) (q 7) cc0 cc1 cc2 cc3 cc4 cc5 cc6 cc7 cc8 (k : Int) (s 0) (s 1) (s 2) (s 3) (s 4) (s 5) (s 6) (s 7) (s 8) (p 0) (p 1) (p 2) (p 3) (p 4) (p 5) (p 6) (p 7)
  have hr : r72aa (p 0) (p 1) (p 2) (p 3) (p 4) (p 5) (p 6) (p 7) a1 a2 a3 m (q 0) (q 1) (q 2) (q 3) (q 4) (q 5) (q 6) (q 7) cc0 cc1 cc2 cc3 cc4 cc5 cc6 cc7 cc8 (k : Int) (s 0) (s 1) (s 2) (s 3) (s 4) (s 5) (s 6) (s 7) (s 8) (p 0) (p 1) (p 2) (p 3) (p 4) (p 5) (p 6) (p 7) 0 (setCs ([[AV.i IntKind.i64 0, AV.i IntKind.i64 0, AV.i IntKind.i64 0, AV.i IntKind.i64 0, AV.i IntKind.i64 0, AV.i IntKind.i64 0, AV.i IntKind.i64 0, AV.i IntKind.i64 0]].getD 0 []) 0 [AV.i IntKind.i64 (q 0), AV.i IntKind.i64 (q 1), AV.i IntKind.i64 (q 2), AV.i IntKind.i64 (q 3), AV.i IntKind.i64 (q 4), AV.i IntKind.i64 (q 5), AV.i IntKind.i64 (q 6), AV.i IntKind.i64 (q 7)]) = some (.x0 a (row8 fun i => q i - p i)) := hr
  unfold stp72a F72 G72 R72
  rw [h0, h1, h2, h3, h4, h5, h6, h7, hg, inb_true hk, cts104 hk]
  unfold i72aa_0 v72aa_0_m24
  rw [hr]
  constructor
  · intro hp0
    rw [hp0]
    rfl
  · intro hp0 hG b1 b2
    have e0 : (p k == 0) = false := by rw [beq_eq_false_iff_ne]; exact hp0
    rw [e0]
    have x0 : fI ([row8 fun i => q i - p i].getD 0 []) 0 = q 0 - p 0 := rfl
    have x1 : fI ([row8 fun i => q i - p i].getD 0 []) 1 = q 1 - p 1 := rfl
    have x2 : fI ([row8 fun i => q i - p i].getD 0 []) 2 = q 2 - p 2 := rfl
    have x3 : fI ([row8 fun i => q i - p i].getD 0 []) 3 = q 3 - p 3 := rfl
    have x4 : fI ([row8 fun i => q i - p i].getD 0 []) 4 = q 4 - p 4 := rfl
    have x5 : fI ([row8 fun i => q i - p i].getD 0 []) 5 = q 5 - p 5 := rfl
    have x6 : fI ([row8 fun i => q i - p i].getD 0 []) 6 = q 6 - p 6 := rfl
    have x7 : fI ([row8 fun i => q i - p i].getD 0 []) 7 = q 7 - p 7 := rfl
    rw [x0, x1, x2, x3, x4, x5, x6, x7, hG, wrap64 (by omega) (by omega)]
    by_cases hlt : 1 + (LQ.F a1 a2 a3 a1 a2 a3 (q 0 - p 0) (q 1 - p 1) (q 2 - p 2) (q 3 - p 3) (q 4 - p 4) (q 5 - p 5) (q 6 - p 6) (q 7 - p 7) m).1 8 < s 8
    · rw [decide_eq_true hlt, if_pos hlt]
      rfl
    · rw [decide_eq_false hlt, if_neg hlt]
      rfl
end
end Go.Proofs.Ytkdiaipaajgcbaa

set_option maxRecDepth 100000
set_option linter.unusedVariables false
namespace Go.Proofs.Ytkdiaipaajgcbaa
open Go Go.Ev
def key8 (q : Nat → Int) : AV := .agg [AV.i IntKind.i64 (q 0), AV.i IntKind.i64 (q 1), AV.i IntKind.i64 (q 2), AV.i IntKind.i64 (q 3), AV.i IntKind.i64 (q 4), AV.i IntKind.i64 (q 5), AV.i IntKind.i64 (q 6), AV.i IntKind.i64 (q 7)]
def val9 (s : Nat → Int) : AV := .agg [AV.i IntKind.i64 (s 0), AV.i IntKind.i64 (s 1), AV.i IntKind.i64 (s 2), AV.i IntKind.i64 (s 3), AV.i IntKind.i64 (s 4), AV.i IntKind.i64 (s 5), AV.i IntKind.i64 (s 6), AV.i IntKind.i64 (s 7), AV.i IntKind.i64 (s 8)]
theorem same_ints : ∀ (l : List Int) (y : List AV), sameL (l.map fun z => .i .i64 z) y = true ↔ y = l.map fun z => .i .i64 z
  | [], y => by
    cases y with
    | nil => exact ⟨fun _ => rfl, fun _ => rfl⟩
    | cons a y => exact ⟨fun h => (by cases h), fun h => (by cases h)⟩
  | z :: l, y => by
    cases y with
    | nil => exact ⟨fun h => (by cases h), fun h => (by cases h)⟩
    | cons a y =>
      have ih := same_ints l y
      have one : sameV (.i .i64 z) a = true ↔ a = .i .i64 z := by
        cases a with
        | i k x =>
          show cond (decide (IntKind.i64 = k)) (decide (z = x)) false = true ↔ _
          constructor
          · intro h
            cases hk : decide (IntKind.i64 = k) with
            | false => rw [hk] at h; cases h
            | true =>
              rw [hk] at h
              have e1 := of_decide_eq_true hk
              have e2 := of_decide_eq_true h
              rw [← e1, ← e2]
          · intro h
            cases h
            rw [decide_eq_true rfl, decide_eq_true rfl]; rfl
        | _ => exact ⟨fun h => (by cases h), fun h => (by cases h)⟩
      show (sameV (.i .i64 z) a && sameL (l.map fun z => .i .i64 z) y) = true ↔ a :: y = .i .i64 z :: l.map fun z => .i .i64 z
      rw [Bool.and_eq_true, one, ih, List.cons.injEq]
theorem same_key (q : Nat → Int) (x : AV) : sameV (key8 q) x = true ↔ x = key8 q := by
  have h := same_ints [q 0, q 1, q 2, q 3, q 4, q 5, q 6, q 7]
  constructor
  · intro hx
    cases x with
    | agg l =>
      have := (h l).1 hx
      rw [this]; rfl
    | _ => cases hx
  · rintro rfl
    exact (h _).2 rfl
theorem key_inj {q r : Nat → Int} : key8 q = key8 r ↔ ∀ i, i < 8 → q i = r i := by
  constructor
  · intro h
    simp only [key8, AV.agg.injEq, List.cons.injEq, AV.i.injEq, true_and, and_true] at h
    intro i hi
    rcases i with _ | _ | _ | _ | _ | _ | _ | _ | i
    all_goals first | (exfalso; omega) | (obtain ⟨a0, a1, a2, a3, a4, a5, a6, a7⟩ := h; assumption)
  · intro h
    unfold key8
    rw [h 0 (by omega), h 1 (by omega), h 2 (by omega), h 3 (by omega), h 4 (by omega), h 5 (by omega), h 6 (by omega), h 7 (by omega)]
theorem mget_set1 {q r : Nat → Int} (v : AV) (h : key8 q = key8 r) : ∀ m : Mp, mget (key8 q) (mset (key8 r) v m) = some v
  | [] => by
    show cond (sameV (key8 q) (key8 r)) (some v) none = _
    rw [(same_key q _).2 h.symm]; rfl
  | (k, x) :: m => by
    unfold mset
    cases h1 : sameV (key8 r) k with
    | true =>
      show cond (sameV (key8 q) (key8 r)) (some v) _ = _
      rw [(same_key q _).2 h.symm]; rfl
    | false =>
      show cond (sameV (key8 q) k) (some x) (mget (key8 q) (mset (key8 r) v m)) = _
      rw [mget_set1 v h m, h, h1]; rfl
theorem mget_set2 {q r : Nat → Int} (v : AV) (h : key8 q ≠ key8 r) : ∀ m : Mp, mget (key8 q) (mset (key8 r) v m) = mget (key8 q) m
  | [] => by
    have : sameV (key8 q) (key8 r) = false := by
      rw [← Bool.not_eq_true]
      exact fun h' => h ((same_key q _).1 h').symm
    show cond (sameV (key8 q) (key8 r)) (some v) none = _
    rw [this]; rfl
  | (k, x) :: m => by
    have : sameV (key8 q) (key8 r) = false := by
      rw [← Bool.not_eq_true]
      exact fun h' => h ((same_key q _).1 h').symm
    unfold mset
    cases h1 : sameV (key8 r) k with
    | true =>
      show cond (sameV (key8 q) (key8 r)) (some v) (mget (key8 q) m) = cond (sameV (key8 q) k) (some x) (mget (key8 q) m)
      rw [(same_key r k).1 h1, this]; rfl
    | false =>
      show cond (sameV (key8 q) k) (some x) (mget (key8 q) (mset (key8 r) v m)) = cond (sameV (key8 q) k) (some x) (mget (key8 q) m)
      rw [mget_set2 v h m]
structure Good (da db : Int) (cs : List (List AV)) (q s : Nat → Int) : Prop where
  r : s 8 = (mq da db cs q : Int)
  p : (∃ i, i < cs.length ∧ 0 < q i) → (∀ i, i < cs.length → 0 ≤ s i ∧ s i ≤ q i) ∧ (∀ i, cs.length ≤ i → i < 8 → s i = 0) ∧ DD db cs s cs.length ≤ da + db ∧ (∃ i, i < cs.length ∧ 0 < s i) ∧ mq da db cs q = mq da db cs (fun i => q i - s i) + 1
structure VOK (cs : List (List AV)) (q : Nat → Int) : Prop where
  b : ∀ i, i < 8 → 0 ≤ q i ∧ q i ≤ 12
  z : ∀ i, cs.length ≤ i → i < 8 → q i = 0
  t : TT q cs.length ≤ 12
section
variable {da db : Int} {cs : List (List AV)}
theorem VOK.nn (hF : RFine da db cs) {q : Nat → Int} (h : VOK cs q) : ∀ i, i < cs.length → 0 ≤ q i := fun i hi => by
  have := hF.l
  exact (h.b i (by omega)).1
theorem Good.congr (hF : RFine da db cs) {q r s : Nat → Int} (hq : ∀ i, i < cs.length → 0 ≤ q i) (h : ∀ i, i < 8 → q i = r i) (hg : Good da db cs q s) : Good da db cs r s := by
  have hl := hF.l
  have hqr : ∀ i, i < cs.length → q i = r i := fun i hi => h i (by omega)
  refine ⟨by rw [hg.r, mq_congr hF hq hqr], fun ⟨i, hi, h0⟩ => ?_⟩
  obtain ⟨a, b, c, d, e⟩ := hg.p ⟨i, hi, by rw [hqr i hi]; exact h0⟩
  refine ⟨fun i hi => by rw [← hqr i hi]; exact a i hi, b, c, d, ?_⟩
  rw [← mq_congr hF hq hqr, e]
  congr 1
  exact mq_congr hF (fun i hi => by have := a i hi; omega) fun i hi => by rw [hqr i hi]
theorem Good.congr2 (hF : RFine da db cs) {q s t : Nat → Int} (h : ∀ i, i < 9 → s i = t i) (hg : Good da db cs q s) : Good da db cs q t := by
  have hl := hF.l
  refine ⟨by rw [← h 8 (by omega)]; exact hg.r, fun hx => ?_⟩
  obtain ⟨a, b, c, ⟨i, d1, d2⟩, e⟩ := hg.p hx
  refine ⟨fun i hi => by rw [← h i (by omega)]; exact a i hi, fun i h1 h2 => by rw [← h i (by omega)]; exact b i h1 h2, ?_, ⟨i, d1, by rw [← h i (by omega)]; exact d2⟩, ?_⟩
  · rw [← DD_congr (f := s) (g := t) fun i hi => h i (by omega)]
    exact c
  · rw [e]
    congr 1
    exact mq_congr hF (fun i hi => by have := a i hi; omega) fun i hi => by rw [h i (by omega)]
def MOK8 (da db : Int) (cs : List (List AV)) (m : Mp) : Prop := ∀ (q : Nat → Int) (v : AV), VOK cs q → mget (key8 q) m = some v → ∃ s, v = val9 s ∧ Good da db cs q s
theorem MOK8_set (hF : RFine da db cs) {q s : Nat → Int} {m : Mp} (hq : VOK cs q) (hg : Good da db cs q s) (hm : MOK8 da db cs m) : MOK8 da db cs (mset (key8 q) (val9 s) m) := by
  intro r v hr hv
  by_cases h : key8 r = key8 q
  · rw [mget_set1 _ h] at hv
    cases hv
    exact ⟨s, rfl, hg.congr hF (hq.nn hF) fun i hi => (key_inj.1 h i hi).symm⟩
  · rw [mget_set2 _ h] at hv
    exact hm r v hr hv
def FOK8 (K : LP) (da db : Int) (cs : List (List AV)) (N : Nat) : Prop := ∀ (q : Nat → Int) (m : Mp), VOK cs q → TT q cs.length < (N : Int) → MOK8 da db cs m → K.G da db cs da db cs (q 0) (q 1) (q 2) (q 3) (q 4) (q 5) (q 6) (q 7) m = true ∧ Good da db cs q (K.F da db cs da db cs (q 0) (q 1) (q 2) (q 3) (q 4) (q 5) (q 6) (q 7) m).1 ∧ MOK8 da db cs (K.F da db cs da db cs (q 0) (q 1) (q 2) (q 3) (q 4) (q 5) (q 6) (q 7) m).2
def GOK8 (K : LQ) (da db : Int) (cs : List (List AV)) (N : Nat) : Prop := ∀ (q : Nat → Int) (m : Mp), VOK cs q → TT q cs.length < (N : Int) → MOK8 da db cs m → K.G da db cs da db cs (q 0) (q 1) (q 2) (q 3) (q 4) (q 5) (q 6) (q 7) m = true ∧ Good da db cs q (K.F da db cs da db cs (q 0) (q 1) (q 2) (q 3) (q 4) (q 5) (q 6) (q 7) m).1 ∧ MOK8 da db cs (K.F da db cs da db cs (q 0) (q 1) (q 2) (q 3) (q 4) (q 5) (q 6) (q 7) m).2
theorem get8_ok (hF : RFine da db cs) {K : LP} {N : Nat} (hK : FOK8 K da db cs N) : GOK8 (lqOf K) da db cs N := by
  intro q m hq hn hm
  have hhas : mhas (AV.agg [AV.i IntKind.i64 (q 0), AV.i IntKind.i64 (q 1), AV.i IntKind.i64 (q 2), AV.i IntKind.i64 (q 3), AV.i IntKind.i64 (q 4), AV.i IntKind.i64 (q 5), AV.i IntKind.i64 (q 6), AV.i IntKind.i64 (q 7)]) m = (mget (key8 q) m).isSome := rfl
  have hget : mget (AV.agg [AV.i IntKind.i64 (q 0), AV.i IntKind.i64 (q 1), AV.i IntKind.i64 (q 2), AV.i IntKind.i64 (q 3), AV.i IntKind.i64 (q 4), AV.i IntKind.i64 (q 5), AV.i IntKind.i64 (q 6), AV.i IntKind.i64 (q 7)]) m = mget (key8 q) m := rfl
  cases he : mget (key8 q) m with
  | none =>
    obtain ⟨k1, k2, k3⟩ := hK q m hq hn hm
    have hG : LP.G da db cs da db cs (q 0) (q 1) (q 2) (q 3) (q 4) (q 5) (q 6) (q 7) m = true := k1
    refine ⟨?_, ?_, ?_⟩
    · show g76 da db cs da db cs (q 0) (q 1) (q 2) (q 3) (q 4) (q 5) (q 6) (q 7) m = true
      unfold g76 t76
      rw [hhas, he, hG]
      rfl
    · refine k2.congr2 hF fun i hi => ?_
      show _ = (match i with  | 0 => w76_0 da db cs da db cs (q 0) (q 1) (q 2) (q 3) (q 4) (q 5) (q 6) (q 7) m | 1 => w76_1 da db cs da db cs (q 0) (q 1) (q 2) (q 3) (q 4) (q 5) (q 6) (q 7) m | 2 => w76_2 da db cs da db cs (q 0) (q 1) (q 2) (q 3) (q 4) (q 5) (q 6) (q 7) m | 3 => w76_3 da db cs da db cs (q 0) (q 1) (q 2) (q 3) (q 4) (q 5) (q 6) (q 7) m | 4 => w76_4 da db cs da db cs (q 0) (q 1) (q 2) (q 3) (q 4) (q 5) (q 6) (q 7) m | 5 => w76_5 da db cs da db cs (q 0) (q 1) (q 2) (q 3) (q 4) (q 5) (q 6) (q 7) m | 6 => w76_6 da db cs da db cs (q 0) (q 1) (q 2) (q 3) (q 4) (q 5) (q 6) (q 7) m | 7 => w76_7 da db cs da db cs (q 0) (q 1) (q 2) (q 3) (q 4) (q 5) (q 6) (q 7) m | _ => w76_8 da db cs da db cs (q 0) (q 1) (q 2) (q 3) (q 4) (q 5) (q 6) (q 7) m)
      rcases i with _ | _ | _ | _ | _ | _ | _ | _ | _ | i
      · unfold w76_0 t76
        rw [hhas, he, hG]
        rfl
      · unfold w76_1 t76
        rw [hhas, he, hG]
        rfl
      · unfold w76_2 t76
        rw [hhas, he, hG]
        rfl
      · unfold w76_3 t76
        rw [hhas, he, hG]
        rfl
      · unfold w76_4 t76
        rw [hhas, he, hG]
        rfl
      · unfold w76_5 t76
        rw [hhas, he, hG]
        rfl
      · unfold w76_6 t76
        rw [hhas, he, hG]
        rfl
      · unfold w76_7 t76
        rw [hhas, he, hG]
        rfl
      · unfold w76_8 t76
        rw [hhas, he, hG]
        rfl
      · exfalso; omega
    · show MOK8 da db cs (w76_12 da db cs da db cs (q 0) (q 1) (q 2) (q 3) (q 4) (q 5) (q 6) (q 7) m)
      unfold w76_12 t76
      rw [hhas, he, hG]
      exact MOK8_set hF hq k2 k3
  | some v =>
    obtain ⟨s, rfl, hs⟩ := hm q v hq he
    refine ⟨?_, ?_, ?_⟩
    · show g76 da db cs da db cs (q 0) (q 1) (q 2) (q 3) (q 4) (q 5) (q 6) (q 7) m = true
      unfold g76 t76
      rw [hhas, he]
      rfl
    · refine hs.congr2 hF fun i hi => ?_
      show _ = (match i with  | 0 => w76_0 da db cs da db cs (q 0) (q 1) (q 2) (q 3) (q 4) (q 5) (q 6) (q 7) m | 1 => w76_1 da db cs da db cs (q 0) (q 1) (q 2) (q 3) (q 4) (q 5) (q 6) (q 7) m | 2 => w76_2 da db cs da db cs (q 0) (q 1) (q 2) (q 3) (q 4) (q 5) (q 6) (q 7) m | 3 => w76_3 da db cs da db cs (q 0) (q 1) (q 2) (q 3) (q 4) (q 5) (q 6) (q 7) m | 4 => w76_4 da db cs da db cs (q 0) (q 1) (q 2) (q 3) (q 4) (q 5) (q 6) (q 7) m | 5 => w76_5 da db cs da db cs (q 0) (q 1) (q 2) (q 3) (q 4) (q 5) (q 6) (q 7) m | 6 => w76_6 da db cs da db cs (q 0) (q 1) (q 2) (q 3) (q 4) (q 5) (q 6) (q 7) m | 7 => w76_7 da db cs da db cs (q 0) (q 1) (q 2) (q 3) (q 4) (q 5) (q 6) (q 7) m | _ => w76_8 da db cs da db cs (q 0) (q 1) (q 2) (q 3) (q 4) (q 5) (q 6) (q 7) m)
      rcases i with _ | _ | _ | _ | _ | _ | _ | _ | _ | i
      · unfold w76_0 t76
        rw [hhas, hget, he]
        rfl
      · unfold w76_1 t76
        rw [hhas, hget, he]
        rfl
      · unfold w76_2 t76
        rw [hhas, hget, he]
        rfl
      · unfold w76_3 t76
        rw [hhas, hget, he]
        rfl
      · unfold w76_4 t76
        rw [hhas, hget, he]
        rfl
      · unfold w76_5 t76
        rw [hhas, hget, he]
        rfl
      · unfold w76_6 t76
        rw [hhas, hget, he]
        rfl
      · unfold w76_7 t76
        rw [hhas, hget, he]
        rfl
      · unfold w76_8 t76
        rw [hhas, hget, he]
        rfl
      · exfalso; omega
    · show MOK8 da db cs (w76_12 da db cs da db cs (q 0) (q 1) (q 2) (q 3) (q 4) (q 5) (q 6) (q 7) m)
      unfold w76_12 t76
      rw [hhas, he]
      exact hm
theorem run72 [LQ] (hF : RFine da db cs) {N : Nat} (hK : ∀ (q : Nat → Int) (m : Mp), VOK cs q → TT q cs.length < (N : Int) → MOK8 da db cs m → LQ.G da db cs da db cs (q 0) (q 1) (q 2) (q 3) (q 4) (q 5) (q 6) (q 7) m = true ∧ Good da db cs q (LQ.F da db cs da db cs (q 0) (q 1) (q 2) (q 3) (q 4) (q 5) (q 6) (q 7) m).1 ∧ MOK8 da db cs (LQ.F da db cs da db cs (q 0) (q 1) (q 2) (q 3) (q 4) (q 5) (q 6) (q 7) m).2) {q : Nat → Int} {m : Mp} (hq : VOK cs q) (hn : TT q cs.length < ((N + 1 : Nat) : Int)) (hm : MOK8 da db cs m) {k : Nat} (hk : k < 8) (hqk : 0 < q k) :
    okP da db cs (q 0) (q 1) (q 2) (q 3) (q 4) (q 5) (q 6) (q 7) = true ∧ ∃ m' s, r72a da db cs (q 0) (q 1) (q 2) (q 3) (q 4) (q 5) (q 6) (q 7) da db cs (q 0) (q 1) (q 2) (q 3) (q 4) (q 5) (q 6) (q 7) 0 0 0 0 0 0 0 0 0 (k : Int) m 0 0 0 0 0 0 0 0 13 da db cs (q 0) (q 1) (q 2) (q 3) (q 4) (q 5) (q 6) (q 7) = some (.inl ⟨m', s 0, s 1, s 2, s 3, s 4, s 5, s 6, s 7, s 8⟩) ∧ MOK8 da db cs m' ∧ Good da db cs q s := by
  have hl := hF.l
  have hkn : k < cs.length := by
    rcases Nat.lt_or_ge k cs.length with h | h
    · exact h
    · have := hq.z k h hk
      omega
  have hnn := hq.nn hF
  obtain ⟨hok, hp1, hp2⟩ := pat_vec hF (q := q) fun i hi => hq.b i (by omega)
  refine ⟨hok, ?_⟩
  have ind := iterR_ind (step := fun (x : S72a) it => stp72a da db cs (q 0) (q 1) (q 2) (q 3) (q 4) (q 5) (q 6) (q 7) da db cs (q 0) (q 1) (q 2) (q 3) (q 4) (q 5) (q 6) (q 7) 0 0 0 0 0 0 0 0 0 (k : Int) x.m x.m12_0 x.m12_1 x.m12_2 x.m12_3 x.m12_4 x.m12_5 x.m12_6 x.m12_7 x.m12_8 it)
    (fun pre (x : S72a) => ∃ (m' : Mp) (s : Nat → Int), x = ⟨m', s 0, s 1, s 2, s 3, s 4, s 5, s 6, s 7, s 8⟩ ∧ MOK8 da db cs m' ∧ s 8 ≤ 13 ∧ (s 8 < 13 → (∀ i, i < cs.length → 0 ≤ s i ∧ s i ≤ q i) ∧ (∀ i, cs.length ≤ i → i < 8 → s i = 0) ∧ DD db cs s cs.length ≤ da + db ∧ 0 < s k ∧ s 8 = 1 + (mq da db cs (fun i => q i - s i) : Int)) ∧ ∀ it, it ∈ pre → fI it k ≠ 0 → s 8 ≤ 1 + (mq da db cs (fun i => q i - fI it i) : Int))
    (patX da db cs (q 0) (q 1) (q 2) (q 3) (q 4) (q 5) (q 6) (q 7)) [] ⟨m, 0, 0, 0, 0, 0, 0, 0, 0, 13⟩
    ⟨m, fun i => if i = 8 then 13 else 0, rfl, hm, by simp, fun h => by simp at h, fun it h => by cases h⟩
    (fun pre x it hit hI => by
      obtain ⟨m', s, rfl, i1, i2, i3, i4⟩ := hI
      obtain ⟨a1, a2, a3⟩ := hp1 it hit
      have hpb : ∀ i, i < 8 → 0 ≤ fI it i ∧ fI it i ≤ 12 := fun i hi => by
        rcases Nat.lt_or_ge i cs.length with h | h
        · have := a1 i h
          have := hq.b i hi
          omega
        · rw [a2 i h hi]; omega
      obtain ⟨st1, st2⟩ := step72 (fX it) q s hpb hq.b da db cs m' da db cs (q 0) (q 1) (q 2) (q 3) (q 4) (q 5) (q 6) (q 7) 0 0 0 0 0 0 0 0 0 hk (it := it) fun i _ => rfl
      by_cases hz : fI it k = 0
      · refine ⟨_, st1 hz, m', s, rfl, i1, i2, i3, fun it' hit' hne => ?_⟩
        rcases List.mem_append.1 hit' with h | h
        · exact i4 it' h hne
        · rw [List.mem_singleton] at h
          subst h
          exact absurd hz hne
      · have hpk : 0 < fI it k := by have := hpb k hk; omega
        have hsubT : TT (fun i => q i - fI it i) cs.length = TT q cs.length - TT (fX it) cs.length := TT_sub
        have htp := (TT_nn (q := fX it) (n := cs.length) fun i hi => (a1 i hi).1).2 k hkn
        have htp' : fI it k ≤ TT (fX it) cs.length := htp
        have hv : VOK cs (fun i => q i - fI it i) := by
          refine ⟨fun i hi => ?_, fun i h1 h2 => ?_, ?_⟩
          · have h1 := hq.b i hi
            have h2 := hpb i hi
            rcases Nat.lt_or_ge i cs.length with h | h
            · have := a1 i h
              show 0 ≤ q i - fI it i ∧ q i - fI it i ≤ 12
              omega
            · have e1 := a2 i h hi
              have e2 := hq.z i h hi
              show 0 ≤ q i - fI it i ∧ q i - fI it i ≤ 12
              omega
          · have e1 := a2 i h1 h2
            have e2 := hq.z i h1 h2
            show q i - fI it i = 0
            omega
          · have := hq.t
            omega
        obtain ⟨g1, g2, g3⟩ := hK (fun i => q i - fI it i) m' hv (by omega) i1
        have hmqb := (mq_ok hF (q := fun i => q i - fI it i) fun i hi => (hv.b i (by omega)).1).2.2
        have hvt := hv.t
        have g1 : LQ.G da db cs da db cs (q 0 - fI it 0) (q 1 - fI it 1) (q 2 - fI it 2) (q 3 - fI it 3) (q 4 - fI it 4) (q 5 - fI it 5) (q 6 - fI it 6) (q 7 - fI it 7) m' = true := g1
        have gr : (LQ.F da db cs da db cs (q 0 - fI it 0) (q 1 - fI it 1) (q 2 - fI it 2) (q 3 - fI it 3) (q 4 - fI it 4) (q 5 - fI it 5) (q 6 - fI it 6) (q 7 - fI it 7) m').1 8 = (mq da db cs (fun i => q i - fI it i) : Int) := g2.r
        have g3 : MOK8 da db cs (LQ.F da db cs da db cs (q 0 - fI it 0) (q 1 - fI it 1) (q 2 - fI it 2) (q 3 - fI it 3) (q 4 - fI it 4) (q 5 - fI it 5) (q 6 - fI it 6) (q 7 - fI it 7) m').2 := g3
        have st2 : stp72a da db cs (q 0) (q 1) (q 2) (q 3) (q 4) (q 5) (q 6) (q 7) da db cs (q 0) (q 1) (q 2) (q 3) (q 4) (q 5) (q 6) (q 7) 0 0 0 0 0 0 0 0 0 (k : Int) m' (s 0) (s 1) (s 2) (s 3) (s 4) (s 5) (s 6) (s 7) (s 8) it = (if 1 + (LQ.F da db cs da db cs (q 0 - fI it 0) (q 1 - fI it 1) (q 2 - fI it 2) (q 3 - fI it 3) (q 4 - fI it 4) (q 5 - fI it 5) (q 6 - fI it 6) (q 7 - fI it 7) m').1 8 < s 8 then .go ⟨(LQ.F da db cs da db cs (q 0 - fI it 0) (q 1 - fI it 1) (q 2 - fI it 2) (q 3 - fI it 3) (q 4 - fI it 4) (q 5 - fI it 5) (q 6 - fI it 6) (q 7 - fI it 7) m').2, fI it 0, fI it 1, fI it 2, fI it 3, fI it 4, fI it 5, fI it 6, fI it 7, 1 + (LQ.F da db cs da db cs (q 0 - fI it 0) (q 1 - fI it 1) (q 2 - fI it 2) (q 3 - fI it 3) (q 4 - fI it 4) (q 5 - fI it 5) (q 6 - fI it 6) (q 7 - fI it 7) m').1 8⟩ else .go ⟨(LQ.F da db cs da db cs (q 0 - fI it 0) (q 1 - fI it 1) (q 2 - fI it 2) (q 3 - fI it 3) (q 4 - fI it 4) (q 5 - fI it 5) (q 6 - fI it 6) (q 7 - fI it 7) m').2, s 0, s 1, s 2, s 3, s 4, s 5, s 6, s 7, s 8⟩) := st2 hz g1 (by have : (LQ.F da db cs da db cs (q 0 - fI it 0) (q 1 - fI it 1) (q 2 - fI it 2) (q 3 - fI it 3) (q 4 - fI it 4) (q 5 - fI it 5) (q 6 - fI it 6) (q 7 - fI it 7) m').1 8 = _ := gr; show -1000 ≤ (LQ.F da db cs da db cs (q 0 - fI it 0) (q 1 - fI it 1) (q 2 - fI it 2) (q 3 - fI it 3) (q 4 - fI it 4) (q 5 - fI it 5) (q 6 - fI it 6) (q 7 - fI it 7) m').1 8; omega) (by show (LQ.F da db cs da db cs (q 0 - fI it 0) (q 1 - fI it 1) (q 2 - fI it 2) (q 3 - fI it 3) (q 4 - fI it 4) (q 5 - fI it 5) (q 6 - fI it 6) (q 7 - fI it 7) m').1 8 ≤ 1000; omega)
        rw [gr] at st2
        by_cases hlt : 1 + (mq da db cs (fun i => q i - fI it i) : Int) < s 8
        · rw [if_pos hlt] at st2
          refine ⟨_, st2, _, fun i => if i = 8 then 1 + (mq da db cs (fun i => q i - fI it i) : Int) else fI it i, rfl, g3, ?_, fun _ => ⟨fun i hi => ?_, fun i h1 h2 => ?_, ?_, ?_, ?_⟩, fun it' hit' hne => ?_⟩
          · show 1 + (mq da db cs (fun i => q i - fI it i) : Int) ≤ 13
            omega
          · have := a1 i hi
            have h8 : ¬ i = 8 := by omega
            simp only [if_neg h8]
            exact this
          · have h8 : ¬ i = 8 := by omega
            simp only [if_neg h8]
            exact a2 i h1 h2
          · rw [DD_congr (g := fX it) fun i hi => if_neg (by omega)]
            exact a3
          · have h8 : ¬ k = 8 := by omega
            simp only [if_neg h8]
            exact hpk
          · show 1 + (mq da db cs (fun i => q i - fI it i) : Int) = _
            congr 2
            exact mq_congr hF (fun i hi => (hv.b i (by omega)).1) fun i hi => by
              have h8 : ¬ i = 8 := by omega
              simp only [if_neg h8]
          · show 1 + (mq da db cs (fun i => q i - fI it i) : Int) ≤ _
            rcases List.mem_append.1 hit' with h | h
            · have := i4 it' h hne
              omega
            · rw [List.mem_singleton] at h
              subst h
              exact Int.le_refl _
        · rw [if_neg hlt] at st2
          refine ⟨_, st2, _, s, rfl, g3, i2, i3, fun it' hit' hne => ?_⟩
          rcases List.mem_append.1 hit' with h | h
          · exact i4 it' h hne
          · rw [List.mem_singleton] at h
            subst h
            omega)
  obtain ⟨y, h1, m', s, rfl, j1, j2, j3, j4⟩ := ind
  refine ⟨m', s, h1, j1, ?_⟩
  obtain ⟨p, p1, p2, p3, p4⟩ := mq_ex hF hnn hkn hqk
  obtain ⟨it, hit, hpe⟩ := hp2 p p1 p2
  have h5 := j4 it (by simpa using hit) (by rw [hpe k hkn]; omega)
  have e5 : mq da db cs (fun i => q i - fI it i) = mq da db cs (fun i => q i - p i) := mq_congr hF (fun i hi => by rw [hpe i hi]; have := p1 i hi; omega) fun i hi => by rw [hpe i hi]
  have h6 := (mq_ok hF hnn).2.2
  have h7 := hq.t
  obtain ⟨c1, c2, c3, c4, c5⟩ := j3 (by omega)
  have h8 := mq_le hF c1 c3
  refine ⟨by omega, fun _ => ⟨c1, c2, c3, ⟨k, hkn, c4⟩, by omega⟩⟩
theorem t72_eq [LQ] (q : Nat → Int) (m : Mp) : t72 da db cs da db cs (q 0) (q 1) (q 2) (q 3) (q 4) (q 5) (q 6) (q 7) m = .cn (g73q (q 0) (q 1) (q 2) (q 3) (q 4) (q 5) (q 6) (q 7) && true) (.cn (decide (w73q_0 (q 0) (q 1) (q 2) (q 3) (q 4) (q 5) (q 6) (q 7) < 0)) (.lf (0, 0, 0, 0, 0, 0, 0, 0, 0, da, db, cs, m)) (.cn (okP da db cs (q 0) (q 1) (q 2) (q 3) (q 4) (q 5) (q 6) (q 7) && i72a_0 da db cs (q 0) (q 1) (q 2) (q 3) (q 4) (q 5) (q 6) (q 7) da db cs (q 0) (q 1) (q 2) (q 3) (q 4) (q 5) (q 6) (q 7) 0 0 0 0 0 0 0 0 0 (w73q_0 (q 0) (q 1) (q 2) (q 3) (q 4) (q 5) (q 6) (q 7)) m 0 0 0 0 0 0 0 0 13 da db cs (q 0) (q 1) (q 2) (q 3) (q 4) (q 5) (q 6) (q 7)) (.lf (v72a_0_m12_0 da db cs (q 0) (q 1) (q 2) (q 3) (q 4) (q 5) (q 6) (q 7) da db cs (q 0) (q 1) (q 2) (q 3) (q 4) (q 5) (q 6) (q 7) 0 0 0 0 0 0 0 0 0 (w73q_0 (q 0) (q 1) (q 2) (q 3) (q 4) (q 5) (q 6) (q 7)) m 0 0 0 0 0 0 0 0 13 da db cs (q 0) (q 1) (q 2) (q 3) (q 4) (q 5) (q 6) (q 7), v72a_0_m12_1 da db cs (q 0) (q 1) (q 2) (q 3) (q 4) (q 5) (q 6) (q 7) da db cs (q 0) (q 1) (q 2) (q 3) (q 4) (q 5) (q 6) (q 7) 0 0 0 0 0 0 0 0 0 (w73q_0 (q 0) (q 1) (q 2) (q 3) (q 4) (q 5) (q 6) (q 7)) m 0 0 0 0 0 0 0 0 13 da db cs (q 0) (q 1) (q 2) (q 3) (q 4) (q 5) (q 6) (q 7), v72a_0_m12_2 da db cs (q 0) (q 1) (q 2) (q 3) (q 4) (q 5) (q 6) (q 7) da db cs (q 0) (q 1) (q 2) (q 3) (q 4) (q 5) (q 6) (q 7) 0 0 0 0 0 0 0 0 0 (w73q_0 (q 0) (q 1) (q 2) (q 3) (q 4) (q 5) (q 6) (q 7)) m 0 0 0 0 0 0 0 0 13 da db cs (q 0) (q 1) (q 2) (q 3) (q 4) (q 5) (q 6) (q 7), v72a_0_m12_3 da db cs (q 0) (q 1) (q 2) (q 3) (q 4) (q 5) (q 6) (q 7) da db cs (q 0) (q 1) (q 2) (q 3) (q 4) (q 5) (q 6) (q 7) 0 0 0 0 0 0 0 0 0 (w73q_0 (q 0) (q 1) (q 2) (q 3) (q 4) (q 5) (q 6) (q 7)) m 0 0 0 0 0 0 0 0 13 da db cs (q 0) (q 1) (q 2) (q 3) (q 4) (q 5) (q 6) (q 7), v72a_0_m12_4 da db cs (q 0) (q 1) (q 2) (q 3) (q 4) (q 5) (q 6) (q 7) da db cs (q 0) (q 1) (q 2) (q 3) (q 4) (q 5) (q 6) (q 7) 0 0 0 0 0 0 0 0 0 (w73q_0 (q 0) (q 1) (q 2) (q 3) (q 4) (q 5) (q 6) (q 7)) m 0 0 0 0 0 0 0 0 13 da db cs (q 0) (q 1) (q 2) (q 3) (q 4) (q 5) (q 6) (q 7), v72a_0_m12_5 da db cs (q 0) (q 1) (q 2) (q 3) (q 4) (q 5) (q 6) (q 7) da db cs (q 0) (q 1) (q 2) (q 3) (q 4) (q 5) (q 6) (q 7) 0 0 0 0 0 0 0 0 0 (w73q_0 (q 0) (q 1) (q 2) (q 3) (q 4) (q 5) (q 6) (q 7)) m 0 0 0 0 0 0 0 0 13 da db cs (q 0) (q 1) (q 2) (q 3) (q 4) (q 5) (q 6) (q 7), v72a_0_m12_6 da db cs (q 0) (q 1) (q 2) (q 3) (q 4) (q 5) (q 6) (q 7) da db cs (q 0) (q 1) (q 2) (q 3) (q 4) (q 5) (q 6) (q 7) 0 0 0 0 0 0 0 0 0 (w73q_0 (q 0) (q 1) (q 2) (q 3) (q 4) (q 5) (q 6) (q 7)) m 0 0 0 0 0 0 0 0 13 da db cs (q 0) (q 1) (q 2) (q 3) (q 4) (q 5) (q 6) (q 7), v72a_0_m12_7 da db cs (q 0) (q 1) (q 2) (q 3) (q 4) (q 5) (q 6) (q 7) da db cs (q 0) (q 1) (q 2) (q 3) (q 4) (q 5) (q 6) (q 7) 0 0 0 0 0 0 0 0 0 (w73q_0 (q 0) (q 1) (q 2) (q 3) (q 4) (q 5) (q 6) (q 7)) m 0 0 0 0 0 0 0 0 13 da db cs (q 0) (q 1) (q 2) (q 3) (q 4) (q 5) (q 6) (q 7), v72a_0_m12_8 da db cs (q 0) (q 1) (q 2) (q 3) (q 4) (q 5) (q 6) (q 7) da db cs (q 0) (q 1) (q 2) (q 3) (q 4) (q 5) (q 6) (q 7) 0 0 0 0 0 0 0 0 0 (w73q_0 (q 0) (q 1) (q 2) (q 3) (q 4) (q 5) (q 6) (q 7)) m 0 0 0 0 0 0 0 0 13 da db cs (q 0) (q 1) (q 2) (q 3) (q 4) (q 5) (q 6) (q 7), da, db, cs, v72a_0_m da db cs (q 0) (q 1) (q 2) (q 3) (q 4) (q 5) (q 6) (q 7) da db cs (q 0) (q 1) (q 2) (q 3) (q 4) (q 5) (q 6) (q 7) 0 0 0 0 0 0 0 0 0 (w73q_0 (q 0) (q 1) (q 2) (q 3) (q 4) (q 5) (q 6) (q 7)) m 0 0 0 0 0 0 0 0 13 da db cs (q 0) (q 1) (q 2) (q 3) (q 4) (q 5) (q 6) (q 7))) .nn)) .nn := by
  obtain ⟨_, ⟨e1, e2, e3, e4, e5, e6, e7, e8⟩, _⟩ := idx_val q
  unfold t72
  rw [e1, e2, e3, e4, e5, e6, e7, e8]
theorem best_ok (hF : RFine da db cs) {K : LQ} {N : Nat} (hK : GOK8 K da db cs N) : FOK8 (lpOf K) da db cs (N + 1) := by
  intro q m hq hn hm
  have hl := hF.l
  obtain ⟨x1, _, x2⟩ := idx_val q
  rcases x2 with ⟨k, k1, k2, k3⟩ | ⟨k1, k2⟩
  · obtain ⟨r1, m', s, r2, r3, r4⟩ := run72 hF hK hq hn hm k1 k2
    have d0 : decide ((k : Int) < 0) = false := decide_eq_false (by omega)
    refine ⟨?_, ?_, ?_⟩
    · show g72 da db cs da db cs (q 0) (q 1) (q 2) (q 3) (q 4) (q 5) (q 6) (q 7) m = true
      unfold g72
      rw [t72_eq, x1, k3, d0, r1]
      unfold i72a_0
      rw [r2]
      rfl
    · refine r4.congr2 hF fun i hi => ?_
      show _ = (match i with  | 0 => w72_0 da db cs da db cs (q 0) (q 1) (q 2) (q 3) (q 4) (q 5) (q 6) (q 7) m | 1 => w72_1 da db cs da db cs (q 0) (q 1) (q 2) (q 3) (q 4) (q 5) (q 6) (q 7) m | 2 => w72_2 da db cs da db cs (q 0) (q 1) (q 2) (q 3) (q 4) (q 5) (q 6) (q 7) m | 3 => w72_3 da db cs da db cs (q 0) (q 1) (q 2) (q 3) (q 4) (q 5) (q 6) (q 7) m | 4 => w72_4 da db cs da db cs (q 0) (q 1) (q 2) (q 3) (q 4) (q 5) (q 6) (q 7) m | 5 => w72_5 da db cs da db cs (q 0) (q 1) (q 2) (q 3) (q 4) (q 5) (q 6) (q 7) m | 6 => w72_6 da db cs da db cs (q 0) (q 1) (q 2) (q 3) (q 4) (q 5) (q 6) (q 7) m | 7 => w72_7 da db cs da db cs (q 0) (q 1) (q 2) (q 3) (q 4) (q 5) (q 6) (q 7) m | _ => w72_8 da db cs da db cs (q 0) (q 1) (q 2) (q 3) (q 4) (q 5) (q 6) (q 7) m)
      rcases i with _ | _ | _ | _ | _ | _ | _ | _ | _ | i
      · unfold w72_0
        rw [t72_eq, x1, k3, d0, r1]
        unfold i72a_0 v72a_0_m12_0
        rw [r2]
        rfl
      · unfold w72_1
        rw [t72_eq, x1, k3, d0, r1]
        unfold i72a_0 v72a_0_m12_1
        rw [r2]
        rfl
      · unfold w72_2
        rw [t72_eq, x1, k3, d0, r1]
        unfold i72a_0 v72a_0_m12_2
        rw [r2]
        rfl
      · unfold w72_3
        rw [t72_eq, x1, k3, d0, r1]
        unfold i72a_0 v72a_0_m12_3
        rw [r2]
        rfl
      · unfold w72_4
        rw [t72_eq, x1, k3, d0, r1]
        unfold i72a_0 v72a_0_m12_4
        rw [r2]
        rfl
      · unfold w72_5
        rw [t72_eq, x1, k3, d0, r1]
        unfold i72a_0 v72a_0_m12_5
        rw [r2]
        rfl
      · unfold w72_6
        rw [t72_eq, x1, k3, d0, r1]
        unfold i72a_0 v72a_0_m12_6
        rw [r2]
        rfl
      · unfold w72_7
        rw [t72_eq, x1, k3, d0, r1]
        unfold i72a_0 v72a_0_m12_7
        rw [r2]
        rfl
      · unfold w72_8
        rw [t72_eq, x1, k3, d0, r1]
        unfold i72a_0 v72a_0_m12_8
        rw [r2]
        rfl
      · exfalso; omega
    · show MOK8 da db cs (w72_12 da db cs da db cs (q 0) (q 1) (q 2) (q 3) (q 4) (q 5) (q 6) (q 7) m)
      unfold w72_12
      rw [t72_eq, x1, k3, d0, r1]
      unfold i72a_0 v72a_0_m
      rw [r2]
      exact r3
  · have hz : ∀ i, i < cs.length → q i = 0 := fun i hi => by
      have := k1 i (by omega)
      have := hq.b i (by omega)
      omega
    refine ⟨?_, ?_, ?_⟩
    · show g72 da db cs da db cs (q 0) (q 1) (q 2) (q 3) (q 4) (q 5) (q 6) (q 7) m = true
      unfold g72
      rw [t72_eq, x1, k2]
      rfl
    · have hg : Good da db cs q (fun _ => 0) := ⟨by rw [mq_zero hF hz]; rfl, fun ⟨i, hi, h⟩ => by rw [hz i hi] at h; omega⟩
      refine hg.congr2 hF fun i hi => ?_
      show _ = (match i with  | 0 => w72_0 da db cs da db cs (q 0) (q 1) (q 2) (q 3) (q 4) (q 5) (q 6) (q 7) m | 1 => w72_1 da db cs da db cs (q 0) (q 1) (q 2) (q 3) (q 4) (q 5) (q 6) (q 7) m | 2 => w72_2 da db cs da db cs (q 0) (q 1) (q 2) (q 3) (q 4) (q 5) (q 6) (q 7) m | 3 => w72_3 da db cs da db cs (q 0) (q 1) (q 2) (q 3) (q 4) (q 5) (q 6) (q 7) m | 4 => w72_4 da db cs da db cs (q 0) (q 1) (q 2) (q 3) (q 4) (q 5) (q 6) (q 7) m | 5 => w72_5 da db cs da db cs (q 0) (q 1) (q 2) (q 3) (q 4) (q 5) (q 6) (q 7) m | 6 => w72_6 da db cs da db cs (q 0) (q 1) (q 2) (q 3) (q 4) (q 5) (q 6) (q 7) m | 7 => w72_7 da db cs da db cs (q 0) (q 1) (q 2) (q 3) (q 4) (q 5) (q 6) (q 7) m | _ => w72_8 da db cs da db cs (q 0) (q 1) (q 2) (q 3) (q 4) (q 5) (q 6) (q 7) m)
      rcases i with _ | _ | _ | _ | _ | _ | _ | _ | _ | i
      · unfold w72_0
        rw [t72_eq, x1, k2]
        rfl
      · unfold w72_1
        rw [t72_eq, x1, k2]
        rfl
      · unfold w72_2
        rw [t72_eq, x1, k2]
        rfl
      · unfold w72_3
        rw [t72_eq, x1, k2]
        rfl
      · unfold w72_4
        rw [t72_eq, x1, k2]
        rfl
      · unfold w72_5
        rw [t72_eq, x1, k2]
        rfl
      · unfold w72_6
        rw [t72_eq, x1, k2]
        rfl
      · unfold w72_7
        rw [t72_eq, x1, k2]
        rfl
      · unfold w72_8
        rw [t72_eq, x1, k2]
        rfl
      · exfalso; omega
    · show MOK8 da db cs (w72_12 da db cs da db cs (q 0) (q 1) (q 2) (q 3) (q 4) (q 5) (q 6) (q 7) m)
      unfold w72_12
      rw [t72_eq, x1, k2]
      exact hm
theorem lpN_ok (hF : RFine da db cs) : ∀ N, FOK8 (lpN N) da db cs N
  | 0 => fun q m hq hn => by
    have := (TT_nn (q := q) (n := cs.length) (hq.nn hF)).1
    omega
  | N + 1 => best_ok hF (get8_ok hF (lpN_ok hF N))
end
noncomputable instance lqE : LQ := lqOf (lpN 100)
theorem lqE_ok {da db : Int} {cs : List (List AV)} (hF : RFine da db cs) : GOK8 lqE da db cs 100 := get8_ok hF (lpN_ok hF 100)
end Go.Proofs.Ytkdiaipaajgcbaa

set_option maxRecDepth 100000
set_option linter.unusedVariables false
namespace Go.Proofs.Ytkdiaipaajgcbaa
open Go Go.Ev
theorem WT_int {a : AV} {k : IntKind} (h : WT Try.prog (.int k) a) : ∃ n, a = .i k n ∧ k.min ≤ n ∧ n ≤ k.max := by
  cases h with
  | int h1 h2 => exact ⟨_, rfl, h1, h2⟩
theorem WT_sl {a : AV} {e : TypeId} (h : WT Try.prog (.sl e) a) : ∃ es, a = .rs e es ∧ es.length ≤ 9223372036854775807 ∧ (∀ x, x ∈ es → x.length = (cts Try.prog e).length) ∧ (∀ x, x ∈ es → ∀ j, j < x.length → WT Try.prog ((cts Try.prog e).getD j .oth) (x.getD j .u)) := by
  cases h with
  | sl h1 h2 h3 => exact ⟨_, rfl, h1, h2, h3⟩
theorem ty_agg {a : AV} {t : TypeId} {c : List CT} (hA : Ev.isAgg Try.prog t = true) (hc : cts Try.prog t = c) (h : TyArg Try.prog t a) : ∃ bs, a = .agg bs ∧ WTs Try.prog c bs := by
  rcases h with ⟨_, as1, rfl, h⟩ | ⟨h, _⟩
  · exact ⟨as1, rfl, hc ▸ h⟩
  · rw [hA] at h; cases h
theorem ty_one {a : AV} {t : TypeId} {c : CT} (hA : Ev.isAgg Try.prog t = false) (hc : (cts Try.prog t).headD .oth = c) (h : TyArg Try.prog t a) : WT Try.prog c a := by
  rcases h with ⟨h, _⟩ | ⟨_, h⟩
  · rw [hA] at h; cases h
  · exact hc ▸ h
theorem WTs_cons {c : CT} {cs : List CT} {bs : List AV} (h : WTs Try.prog (c :: cs) bs) : ∃ a r, bs = a :: r ∧ WT Try.prog c a ∧ WTs Try.prog cs r := by
  obtain ⟨h1, h2⟩ := h
  cases bs with
  | nil => simp at h1
  | cons a r =>
    refine ⟨a, r, rfl, by simpa using h2 0 (by simp), by simpa using h1, fun j hj => ?_⟩
    simpa using h2 (j + 1) (by simpa using hj)
theorem WTs_nil {bs : List AV} (h : WTs Try.prog [] bs) : bs = [] := by simpa using h.1
theorem tyArgs_cons {t : TypeId} {ts : List TypeId} {bs : List AV} (h : TyArgs Try.prog (t :: ts) bs) : ∃ a r, bs = a :: r ∧ TyArg Try.prog t a ∧ TyArgs Try.prog ts r := by
  cases bs with
  | nil => cases h
  | cons a r => exact ⟨a, r, rfl, h.1, h.2⟩
theorem tyArgs_nil {bs : List AV} (h : TyArgs Try.prog [] bs) : bs = [] := by
  cases bs with
  | nil => rfl
  | cons a r => cases h
end Go.Proofs.Ytkdiaipaajgcbaa

set_option maxRecDepth 100000
set_option linter.unusedVariables false
namespace Go.Proofs.Ytkdiaipaajgcbaa
open Go Go.Ev
def rowAV (row : List Nat) : List (List AV) := row.map fun (i : Nat) => [.i .i64 (i : Int)]
theorem rowAV_app (a b : List Nat) : rowAV (a ++ b) = rowAV a ++ rowAV b := List.map_append
theorem rowAV_length (row : List Nat) : (rowAV row).length = row.length := by simp [rowAV]
end Go.Proofs.Ytkdiaipaajgcbaa

set_option maxRecDepth 100000
set_option linter.unusedVariables false
namespace Go.Proofs.Ytkdiaipaajgcbaa
open Go Go.Ev
section
variable {da db : Int} {cs : List (List AV)}
def szR (db : Int) (cs : List (List AV)) : List Nat → Int
  | [] => 0
  | c :: r => ln cs c + db + szR db cs r
theorem szR_app {db : Int} {cs : List (List AV)} : ∀ {a b : List Nat}, szR db cs (a ++ b) = szR db cs a + szR db cs b
  | [], b => by show szR db cs b = 0 + _; omega
  | c :: r, b => by
    show ln cs c + db + szR db cs (r ++ b) = ln cs c + db + szR db cs r + _
    rw [szR_app]; omega
structure RowP (da db : Int) (cs : List (List AV)) (r : List Nat) : Prop where
  lt : ∀ c, c ∈ r → c < cs.length
  up : ∀ k, 0 < k → k < r.length → r.getD (k - 1) 0 ≤ r.getD k 0
  ne : r ≠ []
  sz : szR db cs r ≤ da + db
def plAV (rs : List (List Nat)) : List (List AV) := rs.map fun r => [.rs 3 (rowAV r)]
theorem plAV_len (rs : List (List Nat)) : (plAV rs).length = rs.length := by simp [plAV]
def cntR (rs : List (List Nat)) (j : Nat) : Int := (rs.map fun r => (r.count j : Int)).sum
theorem cntR_snoc (rs : List (List Nat)) (r : List Nat) (j : Nat) : cntR (rs ++ [r]) j = cntR rs j + (r.count j : Int) := by
  unfold cntR
  rw [List.map_append, List.sum_append]
  simp
end
end Go.Proofs.Ytkdiaipaajgcbaa

set_option maxRecDepth 100000
set_option maxHeartbeats 0
set_option linter.unusedVariables false
namespace Go.Proofs.Ytkdiaipaajgcbaa
open Go Go.Ev

noncomputable def c93 : Code := match Try.f49.body with | some c => c | _ => .skip
theorem lok93 : LOK Try.prog S0 (ro 49) (fun _ _ => none) 0 false c93 [] :=
  lok_lo (fun _ _ _ _ _ _ _ h _ => by cases h) c93 [] false (locate_nil _) (by kernel_rfl)
noncomputable def t93 (x y : Int) : Tr ((Int) × (Int)) :=
  .lf (IntKind.u64.wrap (IntKind.u64.wrap (IntKind.u64.wrap (x.fdiv (2 ^ 32) * y.fdiv (2 ^ 32)) + (IntKind.u64.wrap (IntKind.u64.wrap (x.fdiv (2 ^ 32) * IntKind.u64.wrap (↑(BitVec.ofInt 64 y &&& BitVec.ofInt 64 4294967295).toNat : Int)) + (IntKind.u64.wrap (IntKind.u64.wrap (↑(BitVec.ofInt 64 x &&& BitVec.ofInt 64 4294967295).toNat : Int) * IntKind.u64.wrap (↑(BitVec.ofInt 64 y &&& BitVec.ofInt 64 4294967295).toNat : Int))).fdiv (2 ^ 32))).fdiv (2 ^ 32)) + (IntKind.u64.wrap (IntKind.u64.wrap (↑(BitVec.ofInt 64 (IntKind.u64.wrap (IntKind.u64.wrap (x.fdiv (2 ^ 32) * IntKind.u64.wrap (↑(BitVec.ofInt 64 y &&& BitVec.ofInt 64 4294967295).toNat : Int)) + (IntKind.u64.wrap (IntKind.u64.wrap (↑(BitVec.ofInt 64 x &&& BitVec.ofInt 64 4294967295).toNat : Int) * IntKind.u64.wrap (↑(BitVec.ofInt 64 y &&& BitVec.ofInt 64 4294967295).toNat : Int))).fdiv (2 ^ 32))) &&& BitVec.ofInt 64 4294967295).toNat : Int) + IntKind.u64.wrap (IntKind.u64.wrap (↑(BitVec.ofInt 64 x &&& BitVec.ofInt 64 4294967295).toNat : Int) * y.fdiv (2 ^ 32)))).fdiv (2 ^ 32)), IntKind.u64.wrap (x * y))
noncomputable def g93 (x y : Int) : Bool := (t93 x y).g
noncomputable def w93_0 (x y : Int) : Int := (t93 x y).val.1
noncomputable def w93_1 (x y : Int) : Int := (t93 x y).val.2
theorem eq93 (x y : Int) : evF Try.prog S0 (ro 49) (fun _ _ => none) Try.f49 [.i .u64 x, .i .u64 y] = (t93 x y).opt (fun (x : (Int) × (Int)) => (.tup [.i .u64 x.1, .i .u64 x.2] : AV)) := by kernel_rfl
theorem con93 (x y : Int) (h : g93 x y = true) : Con Try.prog 49 [.i .u64 x, .i .u64 y] [] (.tup [.i .u64 (w93_0 x y), .i .u64 (w93_1 x y)]) [] :=
  con_of S0_ok mixed Try.func49 (c := c93) rfl (names 49 _ Try.func49) lok93 ((eq93 x y).trans (Tr.sound _ _ h))
noncomputable def e93 (args : List AV) (rows : List Blk) : Option (Bool × AV × List Blk) := match args, rows with
  | [.i .u64 x, .i .u64 y], [] => some (g93 x y, .tup [.i .u64 (w93_0 x y), .i .u64 (w93_1 x y)], [])
  | _, _ => none
theorem e93_ok (args : List AV) (rows : List Blk) (pre : Bool) (v : AV) (rows' : List Blk) (h : e93 args rows = some (pre, v, rows')) (hp : pre = true) : Con Try.prog 49 args rows v rows' := by
  unfold e93 at h
  split at h
  · cases h; exact con93 _ _ hp
  · cases h
-- SPEC 93
end Go.Proofs.Ytkdiaipaajgcbaa

set_option maxRecDepth 100000
set_option linter.unusedVariables false
namespace Go.Proofs.Ytkdiaipaajgcbaa
open Go Go.Ev
noncomputable def SM1 : Ev.Spec := insS 49 e93 (S0)
theorem SM1_ok : SpecOK Try.prog SM1 := insS_ok e93_ok (S0_ok)
end Go.Proofs.Ytkdiaipaajgcbaa

set_option maxRecDepth 100000
set_option maxHeartbeats 0
set_option linter.unusedVariables false
namespace Go.Proofs.Ytkdiaipaajgcbaa
open Go Go.Ev

noncomputable def c90 : Code := match Try.f41.body with | some c => c | _ => .skip
theorem lok90 : LOK Try.prog SM1 (ro 41) (fun _ _ => none) 0 false c90 [] :=
  lok_lo (fun _ _ _ _ _ _ _ h _ => by cases h) c90 [] false (locate_nil _) (by kernel_rfl)
noncomputable def t90 (x y : Int) : Tr ((Int) × (Int)) :=
  .lf (w93_0 x y, w93_1 x y)
noncomputable def g90 (x y : Int) : Bool := (t90 x y).g
noncomputable def w90_0 (x y : Int) : Int := (t90 x y).val.1
noncomputable def w90_1 (x y : Int) : Int := (t90 x y).val.2
theorem eq90 (x y : Int) : evF Try.prog SM1 (ro 41) (fun _ _ => none) Try.f41 [.i .u64 x, .i .u64 y] = (t90 x y).opt (fun (x : (Int) × (Int)) => (.tup [.i .u64 x.1, .i .u64 x.2] : AV)) := by kernel_rfl
theorem con90 (x y : Int) (h : g90 x y = true) : Con Try.prog 41 [.i .u64 x, .i .u64 y] [] (.tup [.i .u64 (w90_0 x y), .i .u64 (w90_1 x y)]) [] :=
  con_of SM1_ok mixed Try.func41 (c := c90) rfl (names 41 _ Try.func41) lok90 ((eq90 x y).trans (Tr.sound _ _ h))
noncomputable def e90 (args : List AV) (rows : List Blk) : Option (Bool × AV × List Blk) := match args, rows with
  | [.i .u64 x, .i .u64 y], [] => some (g90 x y, .tup [.i .u64 (w90_0 x y), .i .u64 (w90_1 x y)], [])
  | _, _ => none
theorem e90_ok (args : List AV) (rows : List Blk) (pre : Bool) (v : AV) (rows' : List Blk) (h : e90 args rows = some (pre, v, rows')) (hp : pre = true) : Con Try.prog 41 args rows v rows' := by
  unfold e90 at h
  split at h
  · cases h; exact con90 _ _ hp
  · cases h
-- SPEC 90
end Go.Proofs.Ytkdiaipaajgcbaa

set_option maxRecDepth 100000
set_option linter.unusedVariables false
namespace Go.Proofs.Ytkdiaipaajgcbaa
open Go Go.Ev
noncomputable def SM2 : Ev.Spec := insS 41 e90 (SM1)
theorem SM2_ok : SpecOK Try.prog SM2 := insS_ok e90_ok (SM1_ok)
end Go.Proofs.Ytkdiaipaajgcbaa

set_option maxRecDepth 100000
set_option maxHeartbeats 0
set_option linter.unusedVariables false
namespace Go.Proofs.Ytkdiaipaajgcbaa
open Go Go.Ev

noncomputable def c78 : Code := match Try.f24.body with | some c => c | _ => .skip
noncomputable def lp78a : Code := loopAt c78 [true, true, true, true, true, true, false, false]
noncomputable def s78a (t7 : Nat) (t8 : Int) (m22 : List (List AV)) : St :=
  { t := [(4, .nl), (7, .sl 22 0 t7), (8, .i .i64 t8)], m := [(0, .dead), (1, .dead), (2, .dead), (3, .dead), (4, .dead), (5, .dead), (6, .dead), (7, .dead), (8, .dead), (9, .dead), (10, .dead), (11, .dead), (12, .dead), (13, .dead), (14, .dead), (15, .dead), (16, .dead), (17, .dead), (18, .dead), (19, .dead), (20, .dead), (21, .dead), (22, .row 3 m22)], nx := 23, nt := 48 }
structure S78a where
  t8 : Int
  m22 : List (List AV)
inductive T78a where
  | x0 (t8 : Int) (m22 : List (List AV))
noncomputable def stp78a (t7 : Nat) (t8 : Int) (m22 : List (List AV)) : Lp S78a T78a :=
  cond (decide (t8 < (↑t7 : Int))) (cond ((0 + t7).ble m22.length && (decide (0 ≤ t8) && (decide (t8 ≤ (↑t7 : Int)) && decide ((↑t7 : Int) ≤ (↑t7 : Int))))) (cond ((0 + t7).ble m22.length && (decide (0 ≤ t8) && decide (t8 ≤ (↑t7 : Int)))) (cond ((0 + (t8.toNat - 0)).ble m22.length) (cond ((0 + t8.toNat + ((↑t7 : Int).toNat - t8.toNat)).ble m22.length) (.go ⟨IntKind.i64.wrap (t8 + (↑(min ((↑t7 : Int).toNat - t8.toNat) (List.take (t8.toNat - 0) (List.drop 0 m22)).length) : Int)), over (0 + t8.toNat) ((↑t7 : Int).toNat - t8.toNat) (List.take (t8.toNat - 0) (List.drop 0 m22)) m22⟩) (.bad)) (.bad)) (.bad)) (.bad)) (.out (.x0 t8 m22))
noncomputable def o78a_0 (t7 : Nat) (t8 : Int) (m22 : List (List AV)) : St :=
  { t := [(4, .nl), (7, .sl 22 0 t7), (8, .i .i64 t8)], m := [(0, .dead), (1, .dead), (2, .dead), (3, .dead), (4, .dead), (5, .dead), (6, .dead), (7, .dead), (8, .dead), (9, .dead), (10, .dead), (11, .dead), (12, .dead), (13, .dead), (14, .dead), (15, .dead), (16, .dead), (17, .dead), (18, .dead), (19, .dead), (20, .dead), (21, .dead), (22, .row 3 m22)], nx := 23, nt := 48 }
noncomputable def ou78a (t7 : Nat) : T78a → Ex × St
  | .x0 t8 m22 => (.ext 0, o78a_0 t7 t8 m22)
noncomputable def r78a (t7 : Nat) (t8 : Int) (m22 : List (List AV)) : Option T78a := run (fun x => stp78a t7 x.t8 x.m22) (⟨t8, m22⟩ : S78a)
noncomputable def i78a_0 (t7 : Nat) (t8 : Int) (m22 : List (List AV)) : Bool := match r78a t7 t8 m22 with
  | some (.x0 _ _) => true
  | _ => false
noncomputable def v78a_0_t8 (t7 : Nat) (t8 : Int) (m22 : List (List AV)) : Int := match r78a t7 t8 m22 with
  | some (.x0 t8 _) => t8
  | _ => default
noncomputable def v78a_0_m22 (t7 : Nat) (t8 : Int) (m22 : List (List AV)) : List (List AV) := match r78a t7 t8 m22 with
  | some (.x0 _ m22) => m22
  | _ => default
noncomputable def l78a (st : St) : Option (List (Bool × Ex × St)) := match normW Try.prog [(4, none), (7, none), (8, none)] 23 st with
  | some ([.nl, .sl 22 0 t7, .i .i64 t8], [(0, .dead), (1, .dead), (2, .dead), (3, .dead), (4, .dead), (5, .dead), (6, .dead), (7, .dead), (8, .dead), (9, .dead), (10, .dead), (11, .dead), (12, .dead), (13, .dead), (14, .dead), (15, .dead), (16, .dead), (17, .dead), (18, .dead), (19, .dead), (20, .dead), (21, .dead), (22, .row 3 m22)], 23, 48) => some [(i78a_0 t7 t8 m22, .ext 0, o78a_0 t7 (v78a_0_t8 t7 t8 m22) (v78a_0_m22 t7 t8 m22))]
  | _ => none
noncomputable def L78 : LSpec := fun p st => match p with
  | [false, false, true, true, true, true, true, true] => l78a st
  | _ => none
theorem is78a_0 (t7 : Nat) (t8 : Int) (m22 : List (List AV)) (h : i78a_0 t7 t8 m22 = true) : r78a t7 t8 m22 = some (.x0 (v78a_0_t8 t7 t8 m22) (v78a_0_m22 t7 t8 m22)) := by
  unfold i78a_0 at h
  unfold v78a_0_t8 v78a_0_m22
  generalize r78a t7 t8 m22 = r at h ⊢
  rcases r with _ | y
  · cases h
  · cases y <;> first | rfl | cases h
theorem round78a (t7 : Nat) (t8 : Int) (m22 : List (List AV)) : round Try.prog SM2 (ro 24) L78 lp78a [false, false, true, true, true, true, true, true] [(4, none), (7, none), (8, none)] 23 (s78a t7 t8 m22) =
    cond (decide (t8 < (↑t7 : Int))) (cond ((0 + t7).ble m22.length && (decide (0 ≤ t8) && (decide (t8 ≤ (↑t7 : Int)) && decide ((↑t7 : Int) ≤ (↑t7 : Int))))) (cond ((0 + t7).ble m22.length && (decide (0 ≤ t8) && decide (t8 ≤ (↑t7 : Int)))) (cond ((0 + (t8.toNat - 0)).ble m22.length) (cond ((0 + t8.toNat + ((↑t7 : Int).toNat - t8.toNat)).ble m22.length) (some (.nrm, s78a t7 (IntKind.i64.wrap (t8 + (↑(min ((↑t7 : Int).toNat - t8.toNat) (List.take (t8.toNat - 0) (List.drop 0 m22)).length) : Int))) (over (0 + t8.toNat) ((↑t7 : Int).toNat - t8.toNat) (List.take (t8.toNat - 0) (List.drop 0 m22)) m22))) (none)) (none)) (none)) (none)) (some (.ext 0, o78a_0 t7 t8 m22)) := by kernel_rfl
theorem rnd78a (t7 : Nat) (x : S78a) : round Try.prog SM2 (ro 24) L78 lp78a [false, false, true, true, true, true, true, true] [(4, none), (7, none), (8, none)] 23 ((fun x => s78a t7 x.t8 x.m22) x) = toR (fun x => s78a t7 x.t8 x.m22) (ou78a t7) (stp78a t7 x.t8 x.m22) := by
  refine (round78a _ _ _ ).trans ?_
  unfold stp78a
  simp only [toR_cond]
  rfl
theorem lok78a {st : St} {outs : List (Bool × Ex × St)} {e : Ex} {s : St} (hl : l78a st = some outs) (hch : Chosen outs e s) :
    ∃ keep nb, 0 ≤ nb ∧ LB Try.prog SM2 (ro 24) L78 lp78a [false, false, true, true, true, true, true, true] keep nb st e s := by
  unfold l78a at hl
  split at hl
  · rename_i t7 t8 m22 hno
    cases hl
    have hno := normW_norm hno
    refine ⟨_, _, ?_, .enter hno ?_⟩
    · decide
    have main := fun y h => LB_run (x := (⟨t8, m22⟩ : S78a)) (y := y) (nb := 23) (fun y => by cases y <;> simp [ou78a]) (rnd78a t7) h
    obtain ⟨x, hx, hg, rfl, rfl⟩ := chosen_any hch
    simp only [List.mem_cons, List.not_mem_nil, or_false] at hx
    subst hx
    exact main _ (is78a_0 t7 t8 m22 hg)
  · cases hl
theorem L78_ok (q : Pl) (c : Code) (hq : locate c78 q.reverse = some (.loop c)) (st : St) (outs : List (Bool × Ex × St)) (e : Ex) (s : St) (hl : L78 q st = some outs) (hch : Chosen outs e s) :
    ∃ keep nb, 0 ≤ nb ∧ LB Try.prog SM2 (ro 24) L78 c q keep nb st e s := by
  unfold L78 at hl
  split at hl
  · have : locate c78 ([false, false, true, true, true, true, true, true] : Pl).reverse = some (.loop lp78a) := by kernel_rfl
    rw [this] at hq
    cases hq
    exact lok78a hl hch
  · cases hl
theorem lok78 : LOK Try.prog SM2 (ro 24) L78 0 false c78 [] :=
  lok_lo L78_ok c78 [] false (locate_nil _) (by kernel_rfl)
noncomputable def t78 (x n : Int) : Tr ((List (List AV))) :=
  .cn (decide (n < 0)) (.nn) (.cn (decide (w90_0 (IntKind.u64.wrap (↑[[AV.i IntKind.i64 x]].length : Int)) (IntKind.u64.wrap n) > 0)) (.nn) (.cn (decide (w90_1 (IntKind.u64.wrap (↑[[AV.i IntKind.i64 x]].length : Int)) (IntKind.u64.wrap n) > 9223372036854775807)) (.nn) (.cn (decide (IntKind.i64.wrap (w90_1 (IntKind.u64.wrap (↑[[AV.i IntKind.i64 x]].length : Int)) (IntKind.u64.wrap n)) = IntKind.i64.wrap (w90_1 (IntKind.u64.wrap (↑[[AV.i IntKind.i64 x]].length : Int)) (IntKind.u64.wrap n))) && (decide (0 ≤ IntKind.i64.wrap (w90_1 (IntKind.u64.wrap (↑[[AV.i IntKind.i64 x]].length : Int)) (IntKind.u64.wrap n))) && decide (IntKind.i64.wrap (w90_1 (IntKind.u64.wrap (↑[[AV.i IntKind.i64 x]].length : Int)) (IntKind.u64.wrap n)) * (↑8 : Int) ≤ 140737488355328) && decide (IntKind.i64.wrap (w90_1 (IntKind.u64.wrap (↑[[AV.i IntKind.i64 x]].length : Int)) (IntKind.u64.wrap n)) ≤ 9223372036854775807))) (.cn ((0 + (IntKind.i64.wrap (w90_1 (IntKind.u64.wrap (↑[[AV.i IntKind.i64 x]].length : Int)) (IntKind.u64.wrap n))).toNat).ble (List.replicate (IntKind.i64.wrap (w90_1 (IntKind.u64.wrap (↑[[AV.i IntKind.i64 x]].length : Int)) (IntKind.u64.wrap n))).toNat [AV.i IntKind.i64 0]).length) (.cn (i78a_0 (IntKind.i64.wrap (w90_1 (IntKind.u64.wrap (↑[[AV.i IntKind.i64 x]].length : Int)) (IntKind.u64.wrap n))).toNat (↑(min (IntKind.i64.wrap (w90_1 (IntKind.u64.wrap (↑[[AV.i IntKind.i64 x]].length : Int)) (IntKind.u64.wrap n))).toNat [[AV.i IntKind.i64 x]].length) : Int) (over 0 (IntKind.i64.wrap (w90_1 (IntKind.u64.wrap (↑[[AV.i IntKind.i64 x]].length : Int)) (IntKind.u64.wrap n))).toNat [[AV.i IntKind.i64 x]] (List.replicate (IntKind.i64.wrap (w90_1 (IntKind.u64.wrap (↑[[AV.i IntKind.i64 x]].length : Int)) (IntKind.u64.wrap n))).toNat [AV.i IntKind.i64 0]))) (.cn ((0 + (IntKind.i64.wrap (w90_1 (IntKind.u64.wrap (↑[[AV.i IntKind.i64 x]].length : Int)) (IntKind.u64.wrap n))).toNat).ble (v78a_0_m22 (IntKind.i64.wrap (w90_1 (IntKind.u64.wrap (↑[[AV.i IntKind.i64 x]].length : Int)) (IntKind.u64.wrap n))).toNat (↑(min (IntKind.i64.wrap (w90_1 (IntKind.u64.wrap (↑[[AV.i IntKind.i64 x]].length : Int)) (IntKind.u64.wrap n))).toNat [[AV.i IntKind.i64 x]].length) : Int) (over 0 (IntKind.i64.wrap (w90_1 (IntKind.u64.wrap (↑[[AV.i IntKind.i64 x]].length : Int)) (IntKind.u64.wrap n))).toNat [[AV.i IntKind.i64 x]] (List.replicate (IntKind.i64.wrap (w90_1 (IntKind.u64.wrap (↑[[AV.i IntKind.i64 x]].length : Int)) (IntKind.u64.wrap n))).toNat [AV.i IntKind.i64 0]))).length) (.lf (bif (IntKind.i64.wrap (w90_1 (IntKind.u64.wrap (↑[[AV.i IntKind.i64 x]].length : Int)) (IntKind.u64.wrap n))).toNat.beq (v78a_0_m22 (IntKind.i64.wrap (w90_1 (IntKind.u64.wrap (↑[[AV.i IntKind.i64 x]].length : Int)) (IntKind.u64.wrap n))).toNat (↑(min (IntKind.i64.wrap (w90_1 (IntKind.u64.wrap (↑[[AV.i IntKind.i64 x]].length : Int)) (IntKind.u64.wrap n))).toNat [[AV.i IntKind.i64 x]].length) : Int) (over 0 (IntKind.i64.wrap (w90_1 (IntKind.u64.wrap (↑[[AV.i IntKind.i64 x]].length : Int)) (IntKind.u64.wrap n))).toNat [[AV.i IntKind.i64 x]] (List.replicate (IntKind.i64.wrap (w90_1 (IntKind.u64.wrap (↑[[AV.i IntKind.i64 x]].length : Int)) (IntKind.u64.wrap n))).toNat [AV.i IntKind.i64 0]))).length then v78a_0_m22 (IntKind.i64.wrap (w90_1 (IntKind.u64.wrap (↑[[AV.i IntKind.i64 x]].length : Int)) (IntKind.u64.wrap n))).toNat (↑(min (IntKind.i64.wrap (w90_1 (IntKind.u64.wrap (↑[[AV.i IntKind.i64 x]].length : Int)) (IntKind.u64.wrap n))).toNat [[AV.i IntKind.i64 x]].length) : Int) (over 0 (IntKind.i64.wrap (w90_1 (IntKind.u64.wrap (↑[[AV.i IntKind.i64 x]].length : Int)) (IntKind.u64.wrap n))).toNat [[AV.i IntKind.i64 x]] (List.replicate (IntKind.i64.wrap (w90_1 (IntKind.u64.wrap (↑[[AV.i IntKind.i64 x]].length : Int)) (IntKind.u64.wrap n))).toNat [AV.i IntKind.i64 0])) else List.take (IntKind.i64.wrap (w90_1 (IntKind.u64.wrap (↑[[AV.i IntKind.i64 x]].length : Int)) (IntKind.u64.wrap n))).toNat (List.drop 0 (v78a_0_m22 (IntKind.i64.wrap (w90_1 (IntKind.u64.wrap (↑[[AV.i IntKind.i64 x]].length : Int)) (IntKind.u64.wrap n))).toNat (↑(min (IntKind.i64.wrap (w90_1 (IntKind.u64.wrap (↑[[AV.i IntKind.i64 x]].length : Int)) (IntKind.u64.wrap n))).toNat [[AV.i IntKind.i64 x]].length) : Int) (over 0 (IntKind.i64.wrap (w90_1 (IntKind.u64.wrap (↑[[AV.i IntKind.i64 x]].length : Int)) (IntKind.u64.wrap n))).toNat [[AV.i IntKind.i64 x]] (List.replicate (IntKind.i64.wrap (w90_1 (IntKind.u64.wrap (↑[[AV.i IntKind.i64 x]].length : Int)) (IntKind.u64.wrap n))).toNat [AV.i IntKind.i64 0])))))) (.nn)) (.nn)) (.nn)) (.nn))))
noncomputable def g78 (x n : Int) : Bool := (t78 x n).g
noncomputable def w78_0 (x n : Int) : List (List AV) := (t78 x n).val
theorem eq78 (x n : Int) : evF Try.prog SM2 (ro 24) L78 Try.f24 [.rs 3 [[.i .i64 x]], .i .i64 n] = (t78 x n).opt (fun (x : (List (List AV))) => (.rs 3 x : AV)) := by kernel_rfl
theorem con78 (x n : Int) (h : g78 x n = true) : Con Try.prog 24 [.rs 3 [[.i .i64 x]], .i .i64 n] [] (.rs 3 (w78_0 x n)) [] :=
  con_of SM2_ok mixed Try.func24 (c := c78) rfl (names 24 _ Try.func24) lok78 ((eq78 x n).trans (Tr.sound _ _ h))
noncomputable def e78 (args : List AV) (rows : List Blk) : Option (Bool × AV × List Blk) := match args, rows with
  | [.rs 3 [[.i .i64 x]], .i .i64 n], [] => some (g78 x n, .rs 3 (w78_0 x n), [])
  | _, _ => none
theorem e78_ok (args : List AV) (rows : List Blk) (pre : Bool) (v : AV) (rows' : List Blk) (h : e78 args rows = some (pre, v, rows')) (hp : pre = true) : Con Try.prog 24 args rows v rows' := by
  unfold e78 at h
  split at h
  · cases h; exact con78 _ _ hp
  · cases h
-- SPEC 78
end Go.Proofs.Ytkdiaipaajgcbaa

set_option maxRecDepth 100000
set_option linter.unusedVariables false
namespace Go.Proofs.Ytkdiaipaajgcbaa
open Go Go.Ev
theorem w90_c : ∀ n, n < 13 → w90_0 (IntKind.u64.wrap 1) (IntKind.u64.wrap (n : Nat)) = 0 ∧ w90_1 (IntKind.u64.wrap 1) (IntKind.u64.wrap (n : Nat)) = (n : Int) ∧ IntKind.i64.wrap (n : Int) = (n : Int) := by
  decide
theorem over_rep (a b : List AV) {n s : Nat} (h : s ≤ n) : over s (n - s) (List.replicate s a) (List.replicate s a ++ List.replicate (n - s) b) = List.replicate (s + min (n - s) s) a ++ List.replicate (n - (s + min (n - s) s)) b := by
  unfold over
  rw [List.length_replicate, List.take_replicate, List.take_left' (by simp), List.drop_append, List.drop_replicate, List.drop_replicate, List.length_replicate]
  have e1 : s - (s + min (n - s) s) = 0 := by omega
  have e2 : n - s - (s + min (n - s) s - s) = n - (s + min (n - s) s) := by omega
  rw [e1, e2, List.replicate_zero, List.nil_append, ← List.append_assoc, List.replicate_append_replicate]
theorem rep_run (x : Int) : ∀ n, n < 13 → r78a n (min n 1 : Nat) (over 0 n [[AV.i IntKind.i64 x]] (List.replicate n [AV.i IntKind.i64 0])) = some (.x0 (n : Int) (List.replicate n [.i .i64 x])) := by
  intro n hn
  have e0 : over 0 n [[AV.i IntKind.i64 x]] (List.replicate n [AV.i IntKind.i64 0]) = List.replicate (min n 1) [AV.i .i64 x] ++ List.replicate (n - min n 1) [AV.i .i64 0] := by
    unfold over
    cases n with
    | zero => rfl
    | succ n =>
      have : min (n + 1) 1 = 1 := by omega
      rw [this]
      simp [List.drop_replicate, List.replicate_succ]
  rw [e0]
  have run := run_while (S := Nat) (step := fun z : S78a => stp78a n z.t8 z.m22) (fun s => n - s) (fun s => (⟨(s : Int), List.replicate s [AV.i .i64 x] ++ List.replicate (n - s) [AV.i .i64 0]⟩ : S78a)) (fun s => s ≤ n ∧ (0 < s ∨ n = 0)) (fun _ y => y = .x0 (n : Int) (List.replicate n [.i .i64 x]))
    (fun s hs => by
      obtain ⟨h1, h2⟩ := hs
      rcases Nat.eq_or_lt_of_le h1 with rfl | h
      · right
        refine ⟨_, ?_, rfl⟩
        unfold stp78a
        dsimp only
        rw [lt_false, Nat.sub_self, List.replicate_zero, List.append_nil]
        rfl
      · left
        refine ⟨s + min (n - s) s, ?_, ⟨by omega, by omega⟩, by omega, fun y hy => hy⟩
        have hl : (List.replicate s [AV.i .i64 x] ++ List.replicate (n - s) [AV.i .i64 0]).length = n := by simp; omega
        have b1 : (0 + n).ble n = true := by rw [Nat.zero_add, Nat.ble_eq]; exact Nat.le_refl _
        have b2 : (0 + (s - 0)).ble n = true := by rw [Nat.ble_eq]; omega
        have b3 : (0 + s + (n - s)).ble n = true := by rw [Nat.ble_eq]; omega
        have c1 : decide (0 ≤ (s : Int)) = true := decide_eq_true (by omega)
        have c2 : decide ((s : Int) ≤ (n : Int)) = true := decide_eq_true (by omega)
        have c3 : decide ((n : Int) ≤ (n : Int)) = true := decide_eq_true (by omega)
        have t1 : List.take (s - 0) (List.drop 0 (List.replicate s [AV.i .i64 x] ++ List.replicate (n - s) [AV.i .i64 0])) = List.replicate s [AV.i .i64 x] := by
          rw [List.drop_zero, Nat.sub_zero, List.take_left' (by simp)]
        unfold stp78a
        dsimp only
        rw [hl, lt_true h, b1, c1, c2, c3, Int.toNat_natCast, Int.toNat_natCast, b2, b3, t1, Nat.zero_add, over_rep _ _ (by omega), List.length_replicate, wrap64 (by omega) (by omega), Int.natCast_add]
        rfl)
    (min n 1) ⟨by omega, by omega⟩
  obtain ⟨y, h1, h2⟩ := run
  rw [← h2]
  exact h1
theorem rep_val (x : Int) {n : Nat} (hn : n < 13) : g78 x (n : Int) = true ∧ w78_0 x (n : Int) = List.replicate n [.i .i64 x] := by
  obtain ⟨a, b, c⟩ := w90_c n hn
  have hr := rep_run x n hn
  unfold g78 w78_0 t78
  have e1 : ((([[AV.i IntKind.i64 x]] : List (List AV)).length : Nat) : Int) = 1 := rfl
  rw [e1, a, b, c, Int.toNat_natCast]
  have d0 : decide ((n : Int) < 0) = false := decide_eq_false (by omega)
  have d1 : decide ((n : Int) > 9223372036854775807) = false := decide_eq_false (by omega)
  have d2 : (decide ((n : Int) = (n : Int)) && (decide (0 ≤ (n : Int)) && decide ((n : Int) * (8 : Int) ≤ 140737488355328) && decide ((n : Int) ≤ 9223372036854775807))) = true := by
    simp only [Bool.and_eq_true, decide_eq_true_eq]
    exact ⟨trivial, ⟨by omega, by omega⟩, by omega⟩
  rw [d0, d1, d2]
  have hr : r78a n ((min n ([[AV.i IntKind.i64 x]] : List (List AV)).length : Nat) : Int) (over 0 n [[AV.i IntKind.i64 x]] (List.replicate n [AV.i IntKind.i64 0])) = _ := hr
  unfold i78a_0 v78a_0_m22
  rw [hr]
  have b1 : n.ble n = true := by simp [Nat.ble_eq]
  simp [b1, Tr.g, Tr.val]
end Go.Proofs.Ytkdiaipaajgcbaa

set_option maxRecDepth 100000
set_option linter.unusedVariables false
namespace Go.Proofs.Ytkdiaipaajgcbaa
open Go Go.Ev
noncomputable def SPm [LQ] : Ev.Spec := insS 22 eLQ (insS 24 e78 (insS 17 e24 (insS 23 e77 S0)))
theorem SPm_ok [LQ] : SpecOK Try.prog SPm := insS_ok eLQ_ok (insS_ok e78_ok (insS_ok e24_ok (insS_ok e77_ok S0_ok)))
end Go.Proofs.Ytkdiaipaajgcbaa

set_option maxRecDepth 100000
set_option maxHeartbeats 0
set_option linter.unusedVariables false
namespace Go.Proofs.Ytkdiaipaajgcbaa
open Go Go.Ev

noncomputable def c45 : Code := match Try.f7.body with | some c => c | _ => .skip
noncomputable def lp45a : Code := loopAt c45 [true, true, true, true, true, true, false, true, false]
noncomputable def s45a (t3 : Int) (t7 : List (List AV)) (m14_0 m14_1 m14_2 m14_3 m14_4 m14_5 m14_6 m14_7 : Int) (m8 : List (AV × AV)) (da db : Int) (cs : List (List AV)) : St :=
  { t := [(2, .nl), (3, .i .i64 t3), (5, .p 10 0 0), (6, .p 12 0 0), (7, .gv 13 53 t7), (8, .p 14 0 0)], m := [(13, .fr 53), (14, .row 78 [[.i .i64 m14_0, .i .i64 m14_1, .i .i64 m14_2, .i .i64 m14_3, .i .i64 m14_4, .i .i64 m14_5, .i .i64 m14_6, .i .i64 m14_7]]), (0, .dead), (1, .dead), (2, .dead), (3, .dead), (4, .dead), (5, .dead), (6, .dead), (7, .dead), (8, .mp 78 80 m8), (9, .dead), (10, .row 75 [[.mp 8]]), (11, .dead), (12, .row 76 [[.fn 18 [.rp [.int .i64, .int .i64, .sl 44] [.i .i64 da, .i .i64 db, .rs 44 cs] 0, .p 10 0 0, .p 12 0 0]]])], nx := 15, nt := 54 }
noncomputable def lp45aa : Code := loopAt c45 [true, true, true, true, true, true, false, true, false, false, true, false, false, true, true, false, true, false]
noncomputable def s45aa (t3 : Int) (t7 t10 : List (List AV)) (t30_0 t30_1 t30_2 t30_3 t30_4 t30_5 t30_6 t30_7 t31 : Int) (m8 : List (AV × AV)) (da db : Int) (cs : List (List AV)) (m14 : List AV) : St :=
  { t := [(2, .nl), (3, .i .i64 t3), (5, .p 10 0 0), (6, .p 12 0 0), (7, .gv 15 53 t7), (8, .p 14 0 0), (10, .gv 16 3 t10), (30, .agg [.i .i64 t30_0, .i .i64 t30_1, .i .i64 t30_2, .i .i64 t30_3, .i .i64 t30_4, .i .i64 t30_5, .i .i64 t30_6, .i .i64 t30_7]), (31, .i .i64 t31)], m := [(15, .fr 53), (16, .fr 3), (0, .dead), (1, .dead), (2, .dead), (3, .dead), (4, .dead), (5, .dead), (6, .dead), (7, .dead), (8, .mp 78 80 m8), (9, .dead), (10, .row 75 [[.mp 8]]), (11, .dead), (12, .row 76 [[.fn 18 [.rp [.int .i64, .int .i64, .sl 44] [.i .i64 da, .i .i64 db, .rs 44 cs] 0, .p 10 0 0, .p 12 0 0]]]), (13, .dead), (14, .row 78 [m14])], nx := 17, nt := 54 }
structure S45aa where
  t10 : List (List AV)
  t31 : Int
  m14 : List AV
inductive T45aa where
  | x0 (t10 : List (List AV)) (t31 : Int) (m14 : List AV)
noncomputable def stp45aa (t3 : Int) (t7 : List (List AV)) (t30_0 t30_1 t30_2 t30_3 t30_4 t30_5 t30_6 t30_7 : Int) (m8 : List (AV × AV)) (da db : Int) (cs t10 : List (List AV)) (t31 : Int) (m14 : List AV) : Lp S45aa T45aa :=
  cond (decide (t31 < 8)) (cond (intsOf IntKind.i64 [AV.i IntKind.i64 t30_0, AV.i IntKind.i64 t30_1, AV.i IntKind.i64 t30_2, AV.i IntKind.i64 t30_3, AV.i IntKind.i64 t30_4, AV.i IntKind.i64 t30_5, AV.i IntKind.i64 t30_6, AV.i IntKind.i64 t30_7] && (inb t31 8 && inb t31 [AV.i IntKind.i64 t30_0, AV.i IntKind.i64 t30_1, AV.i IntKind.i64 t30_2, AV.i IntKind.i64 t30_3, AV.i IntKind.i64 t30_4, AV.i IntKind.i64 t30_5, AV.i IntKind.i64 t30_6, AV.i IntKind.i64 t30_7].length)) (cond (g78 t31 (toI ([AV.i IntKind.i64 t30_0, AV.i IntKind.i64 t30_1, AV.i IntKind.i64 t30_2, AV.i IntKind.i64 t30_3, AV.i IntKind.i64 t30_4, AV.i IntKind.i64 t30_5, AV.i IntKind.i64 t30_6, AV.i IntKind.i64 t30_7].getD t31.toNat AV.u))) (cond ((t10.length + (w78_0 t31 (toI ([AV.i IntKind.i64 t30_0, AV.i IntKind.i64 t30_1, AV.i IntKind.i64 t30_2, AV.i IntKind.i64 t30_3, AV.i IntKind.i64 t30_4, AV.i IntKind.i64 t30_5, AV.i IntKind.i64 t30_6, AV.i IntKind.i64 t30_7].getD t31.toNat AV.u))).length).ble 9223372036854775807 && true) (cond (((t10.length + (w78_0 t31 (toI ([AV.i IntKind.i64 t30_0, AV.i IntKind.i64 t30_1, AV.i IntKind.i64 t30_2, AV.i IntKind.i64 t30_3, AV.i IntKind.i64 t30_4, AV.i IntKind.i64 t30_5, AV.i IntKind.i64 t30_6, AV.i IntKind.i64 t30_7].getD t31.toNat AV.u))).length) * 8).ble 140737488355328) (cond (inb t31 8) (cond (ctsAt (cts Try.prog 78) (0 + t31.toNat * 1) (cts Try.prog 3) && true) (cond (inb t31 8) (cond (ctsAt (cts Try.prog 78) (0 + t31.toNat * 1) (cts Try.prog 3) && true) (.go ⟨t10 ++ w78_0 t31 (toI ([AV.i IntKind.i64 t30_0, AV.i IntKind.i64 t30_1, AV.i IntKind.i64 t30_2, AV.i IntKind.i64 t30_3, AV.i IntKind.i64 t30_4, AV.i IntKind.i64 t30_5, AV.i IntKind.i64 t30_6, AV.i IntKind.i64 t30_7].getD t31.toNat AV.u)), IntKind.i64.wrap (t31 + 1), setCs ([m14].getD 0 []) (0 + t31.toNat * 1) [AV.i IntKind.i64 (IntKind.i64.wrap (toI (([m14].getD 0 []).getD (0 + t31.toNat * 1) AV.u) - toI ([AV.i IntKind.i64 t30_0, AV.i IntKind.i64 t30_1, AV.i IntKind.i64 t30_2, AV.i IntKind.i64 t30_3, AV.i IntKind.i64 t30_4, AV.i IntKind.i64 t30_5, AV.i IntKind.i64 t30_6, AV.i IntKind.i64 t30_7].getD t31.toNat AV.u)))]⟩) (.bad)) (.bad)) (.bad)) (.bad)) (.bad)) (.bad)) (.bad)) (.bad)) (.out (.x0 t10 t31 m14))
noncomputable def o45aa_0 (t3 : Int) (t7 : List (List AV)) (t30_0 t30_1 t30_2 t30_3 t30_4 t30_5 t30_6 t30_7 : Int) (m8 : List (AV × AV)) (da db : Int) (cs t10 : List (List AV)) (t31 : Int) (m14 : List AV) : St :=
  { t := [(2, .nl), (3, .i .i64 t3), (5, .p 10 0 0), (6, .p 12 0 0), (7, .gv 15 53 t7), (8, .p 14 0 0), (10, .gv 16 3 t10), (30, .agg [.i .i64 t30_0, .i .i64 t30_1, .i .i64 t30_2, .i .i64 t30_3, .i .i64 t30_4, .i .i64 t30_5, .i .i64 t30_6, .i .i64 t30_7]), (31, .i .i64 t31)], m := [(15, .fr 53), (16, .fr 3), (0, .dead), (1, .dead), (2, .dead), (3, .dead), (4, .dead), (5, .dead), (6, .dead), (7, .dead), (8, .mp 78 80 m8), (9, .dead), (10, .row 75 [[.mp 8]]), (11, .dead), (12, .row 76 [[.fn 18 [.rp [.int .i64, .int .i64, .sl 44] [.i .i64 da, .i .i64 db, .rs 44 cs] 0, .p 10 0 0, .p 12 0 0]]]), (13, .dead), (14, .row 78 [m14])], nx := 17, nt := 54 }
noncomputable def ou45aa (t3 : Int) (t7 : List (List AV)) (t30_0 t30_1 t30_2 t30_3 t30_4 t30_5 t30_6 t30_7 : Int) (m8 : List (AV × AV)) (da db : Int) (cs : List (List AV)) : T45aa → Ex × St
  | .x0 t10 t31 m14 => (.ext 2, o45aa_0 t3 t7 t30_0 t30_1 t30_2 t30_3 t30_4 t30_5 t30_6 t30_7 m8 da db cs t10 t31 m14)
noncomputable def r45aa (t3 : Int) (t7 : List (List AV)) (t30_0 t30_1 t30_2 t30_3 t30_4 t30_5 t30_6 t30_7 : Int) (m8 : List (AV × AV)) (da db : Int) (cs t10 : List (List AV)) (t31 : Int) (m14 : List AV) : Option T45aa := run (fun x => stp45aa t3 t7 t30_0 t30_1 t30_2 t30_3 t30_4 t30_5 t30_6 t30_7 m8 da db cs x.t10 x.t31 x.m14) (⟨t10, t31, m14⟩ : S45aa)
noncomputable def i45aa_0 (t3 : Int) (t7 : List (List AV)) (t30_0 t30_1 t30_2 t30_3 t30_4 t30_5 t30_6 t30_7 : Int) (m8 : List (AV × AV)) (da db : Int) (cs t10 : List (List AV)) (t31 : Int) (m14 : List AV) : Bool := match r45aa t3 t7 t30_0 t30_1 t30_2 t30_3 t30_4 t30_5 t30_6 t30_7 m8 da db cs t10 t31 m14 with
  | some (.x0 _ _ _) => true
  | _ => false
noncomputable def v45aa_0_t10 (t3 : Int) (t7 : List (List AV)) (t30_0 t30_1 t30_2 t30_3 t30_4 t30_5 t30_6 t30_7 : Int) (m8 : List (AV × AV)) (da db : Int) (cs t10 : List (List AV)) (t31 : Int) (m14 : List AV) : List (List AV) := match r45aa t3 t7 t30_0 t30_1 t30_2 t30_3 t30_4 t30_5 t30_6 t30_7 m8 da db cs t10 t31 m14 with
  | some (.x0 t10 _ _) => t10
  | _ => default
noncomputable def v45aa_0_t31 (t3 : Int) (t7 : List (List AV)) (t30_0 t30_1 t30_2 t30_3 t30_4 t30_5 t30_6 t30_7 : Int) (m8 : List (AV × AV)) (da db : Int) (cs t10 : List (List AV)) (t31 : Int) (m14 : List AV) : Int := match r45aa t3 t7 t30_0 t30_1 t30_2 t30_3 t30_4 t30_5 t30_6 t30_7 m8 da db cs t10 t31 m14 with
  | some (.x0 _ t31 _) => t31
  | _ => default
noncomputable def v45aa_0_m14 (t3 : Int) (t7 : List (List AV)) (t30_0 t30_1 t30_2 t30_3 t30_4 t30_5 t30_6 t30_7 : Int) (m8 : List (AV × AV)) (da db : Int) (cs t10 : List (List AV)) (t31 : Int) (m14 : List AV) : List AV := match r45aa t3 t7 t30_0 t30_1 t30_2 t30_3 t30_4 t30_5 t30_6 t30_7 m8 da db cs t10 t31 m14 with
  | some (.x0 _ _ m14) => m14
  | _ => default
theorem is45aa_0 (t3 : Int) (t7 : List (List AV)) (t30_0 t30_1 t30_2 t30_3 t30_4 t30_5 t30_6 t30_7 : Int) (m8 : List (AV × AV)) (da db : Int) (cs t10 : List (List AV)) (t31 : Int) (m14 : List AV) (h : i45aa_0 t3 t7 t30_0 t30_1 t30_2 t30_3 t30_4 t30_5 t30_6 t30_7 m8 da db cs t10 t31 m14 = true) : r45aa t3 t7 t30_0 t30_1 t30_2 t30_3 t30_4 t30_5 t30_6 t30_7 m8 da db cs t10 t31 m14 = some (.x0 (v45aa_0_t10 t3 t7 t30_0 t30_1 t30_2 t30_3 t30_4 t30_5 t30_6 t30_7 m8 da db cs t10 t31 m14) (v45aa_0_t31 t3 t7 t30_0 t30_1 t30_2 t30_3 t30_4 t30_5 t30_6 t30_7 m8 da db cs t10 t31 m14) (v45aa_0_m14 t3 t7 t30_0 t30_1 t30_2 t30_3 t30_4 t30_5 t30_6 t30_7 m8 da db cs t10 t31 m14)) := by
  unfold i45aa_0 at h
  unfold v45aa_0_t10 v45aa_0_t31 v45aa_0_m14
  generalize r45aa t3 t7 t30_0 t30_1 t30_2 t30_3 t30_4 t30_5 t30_6 t30_7 m8 da db cs t10 t31 m14 = r at h ⊢
  rcases r with _ | y
  · cases h
  · cases y <;> first | rfl | cases h
variable [LQ]
noncomputable def l45aa (st : St) : Option (List (Bool × Ex × St)) := match normW Try.prog [(2, none), (3, none), (5, none), (6, none), (7, some 53), (8, none), (10, some 3), (30, none), (31, none)] 15 st with
  | some ([.nl, .i .i64 t3, .p 10 0 0, .p 12 0 0, .gv 15 53 t7, .p 14 0 0, .gv 16 3 t10, .agg [.i .i64 t30_0, .i .i64 t30_1, .i .i64 t30_2, .i .i64 t30_3, .i .i64 t30_4, .i .i64 t30_5, .i .i64 t30_6, .i .i64 t30_7], .i .i64 t31], [(15, .fr 53), (16, .fr 3), (0, .dead), (1, .dead), (2, .dead), (3, .dead), (4, .dead), (5, .dead), (6, .dead), (7, .dead), (8, .mp 78 80 m8), (9, .dead), (10, .row 75 [[.mp 8]]), (11, .dead), (12, .row 76 [[.fn 18 [.rp [.int .i64, .int .i64, .sl 44] [.i .i64 da, .i .i64 db, .rs 44 cs] 0, .p 10 0 0, .p 12 0 0]]]), (13, .dead), (14, .row 78 [m14])], 17, 54) => some [(i45aa_0 t3 t7 t30_0 t30_1 t30_2 t30_3 t30_4 t30_5 t30_6 t30_7 m8 da db cs t10 t31 m14, .ext 2, o45aa_0 t3 t7 t30_0 t30_1 t30_2 t30_3 t30_4 t30_5 t30_6 t30_7 m8 da db cs (v45aa_0_t10 t3 t7 t30_0 t30_1 t30_2 t30_3 t30_4 t30_5 t30_6 t30_7 m8 da db cs t10 t31 m14) (v45aa_0_t31 t3 t7 t30_0 t30_1 t30_2 t30_3 t30_4 t30_5 t30_6 t30_7 m8 da db cs t10 t31 m14) (v45aa_0_m14 t3 t7 t30_0 t30_1 t30_2 t30_3 t30_4 t30_5 t30_6 t30_7 m8 da db cs t10 t31 m14))]
  | _ => none
structure S45a where
  t7 : List (List AV)
  m14_0 : Int
  m14_1 : Int
  m14_2 : Int
  m14_3 : Int
  m14_4 : Int
  m14_5 : Int
  m14_6 : Int
  m14_7 : Int
  m8 : List (AV × AV)
inductive T45a where
  | x0 (t7 : List (List AV)) (m14_0 : Int) (m14_1 : Int) (m14_2 : Int) (m14_3 : Int) (m14_4 : Int) (m14_5 : Int) (m14_6 : Int) (m14_7 : Int) (m8 : List (AV × AV))
noncomputable def stp45a (t3 da db : Int) (cs t7 : List (List AV)) (m14_0 m14_1 m14_2 m14_3 m14_4 m14_5 m14_6 m14_7 : Int) (m8 : List (AV × AV)) : Lp S45a T45a :=
  cond (!(m14_0 == 0 && (m14_1 == 0 && (m14_2 == 0 && (m14_3 == 0 && (m14_4 == 0 && (m14_5 == 0 && (m14_6 == 0 && m14_7 == 0)))))))) (cond (LQ.G da db cs da db cs m14_0 m14_1 m14_2 m14_3 m14_4 m14_5 m14_6 m14_7 m8 && true) (cond (i45aa_0 t3 t7 ((LQ.F da db cs da db cs m14_0 m14_1 m14_2 m14_3 m14_4 m14_5 m14_6 m14_7 m8).fst 0) ((LQ.F da db cs da db cs m14_0 m14_1 m14_2 m14_3 m14_4 m14_5 m14_6 m14_7 m8).fst 1) ((LQ.F da db cs da db cs m14_0 m14_1 m14_2 m14_3 m14_4 m14_5 m14_6 m14_7 m8).fst 2) ((LQ.F da db cs da db cs m14_0 m14_1 m14_2 m14_3 m14_4 m14_5 m14_6 m14_7 m8).fst 3) ((LQ.F da db cs da db cs m14_0 m14_1 m14_2 m14_3 m14_4 m14_5 m14_6 m14_7 m8).fst 4) ((LQ.F da db cs da db cs m14_0 m14_1 m14_2 m14_3 m14_4 m14_5 m14_6 m14_7 m8).fst 5) ((LQ.F da db cs da db cs m14_0 m14_1 m14_2 m14_3 m14_4 m14_5 m14_6 m14_7 m8).fst 6) ((LQ.F da db cs da db cs m14_0 m14_1 m14_2 m14_3 m14_4 m14_5 m14_6 m14_7 m8).fst 7) (LQ.F da db cs da db cs m14_0 m14_1 m14_2 m14_3 m14_4 m14_5 m14_6 m14_7 m8).snd da db cs [] 0 [AV.i IntKind.i64 m14_0, AV.i IntKind.i64 m14_1, AV.i IntKind.i64 m14_2, AV.i IntKind.i64 m14_3, AV.i IntKind.i64 m14_4, AV.i IntKind.i64 m14_5, AV.i IntKind.i64 m14_6, AV.i IntKind.i64 m14_7]) (cond ((t7.length + [[AV.rs 3 (v45aa_0_t10 t3 t7 ((LQ.F da db cs da db cs m14_0 m14_1 m14_2 m14_3 m14_4 m14_5 m14_6 m14_7 m8).fst 0) ((LQ.F da db cs da db cs m14_0 m14_1 m14_2 m14_3 m14_4 m14_5 m14_6 m14_7 m8).fst 1) ((LQ.F da db cs da db cs m14_0 m14_1 m14_2 m14_3 m14_4 m14_5 m14_6 m14_7 m8).fst 2) ((LQ.F da db cs da db cs m14_0 m14_1 m14_2 m14_3 m14_4 m14_5 m14_6 m14_7 m8).fst 3) ((LQ.F da db cs da db cs m14_0 m14_1 m14_2 m14_3 m14_4 m14_5 m14_6 m14_7 m8).fst 4) ((LQ.F da db cs da db cs m14_0 m14_1 m14_2 m14_3 m14_4 m14_5 m14_6 m14_7 m8).fst 5) ((LQ.F da db cs da db cs m14_0 m14_1 m14_2 m14_3 m14_4 m14_5 m14_6 m14_7 m8).fst 6) ((LQ.F da db cs da db cs m14_0 m14_1 m14_2 m14_3 m14_4 m14_5 m14_6 m14_7 m8).fst 7) (LQ.F da db cs da db cs m14_0 m14_1 m14_2 m14_3 m14_4 m14_5 m14_6 m14_7 m8).snd da db cs [] 0 [AV.i IntKind.i64 m14_0, AV.i IntKind.i64 m14_1, AV.i IntKind.i64 m14_2, AV.i IntKind.i64 m14_3, AV.i IntKind.i64 m14_4, AV.i IntKind.i64 m14_5, AV.i IntKind.i64 m14_6, AV.i IntKind.i64 m14_7])]].length).ble 9223372036854775807 && true) (cond (((t7.length + [[AV.rs 3 (v45aa_0_t10 t3 t7 ((LQ.F da db cs da db cs m14_0 m14_1 m14_2 m14_3 m14_4 m14_5 m14_6 m14_7 m8).fst 0) ((LQ.F da db cs da db cs m14_0 m14_1 m14_2 m14_3 m14_4 m14_5 m14_6 m14_7 m8).fst 1) ((LQ.F da db cs da db cs m14_0 m14_1 m14_2 m14_3 m14_4 m14_5 m14_6 m14_7 m8).fst 2) ((LQ.F da db cs da db cs m14_0 m14_1 m14_2 m14_3 m14_4 m14_5 m14_6 m14_7 m8).fst 3) ((LQ.F da db cs da db cs m14_0 m14_1 m14_2 m14_3 m14_4 m14_5 m14_6 m14_7 m8).fst 4) ((LQ.F da db cs da db cs m14_0 m14_1 m14_2 m14_3 m14_4 m14_5 m14_6 m14_7 m8).fst 5) ((LQ.F da db cs da db cs m14_0 m14_1 m14_2 m14_3 m14_4 m14_5 m14_6 m14_7 m8).fst 6) ((LQ.F da db cs da db cs m14_0 m14_1 m14_2 m14_3 m14_4 m14_5 m14_6 m14_7 m8).fst 7) (LQ.F da db cs da db cs m14_0 m14_1 m14_2 m14_3 m14_4 m14_5 m14_6 m14_7 m8).snd da db cs [] 0 [AV.i IntKind.i64 m14_0, AV.i IntKind.i64 m14_1, AV.i IntKind.i64 m14_2, AV.i IntKind.i64 m14_3, AV.i IntKind.i64 m14_4, AV.i IntKind.i64 m14_5, AV.i IntKind.i64 m14_6, AV.i IntKind.i64 m14_7])]].length) * 24).ble 140737488355328) (.go ⟨t7 ++ [[AV.rs 3 (v45aa_0_t10 t3 t7 ((LQ.F da db cs da db cs m14_0 m14_1 m14_2 m14_3 m14_4 m14_5 m14_6 m14_7 m8).fst 0) ((LQ.F da db cs da db cs m14_0 m14_1 m14_2 m14_3 m14_4 m14_5 m14_6 m14_7 m8).fst 1) ((LQ.F da db cs da db cs m14_0 m14_1 m14_2 m14_3 m14_4 m14_5 m14_6 m14_7 m8).fst 2) ((LQ.F da db cs da db cs m14_0 m14_1 m14_2 m14_3 m14_4 m14_5 m14_6 m14_7 m8).fst 3) ((LQ.F da db cs da db cs m14_0 m14_1 m14_2 m14_3 m14_4 m14_5 m14_6 m14_7 m8).fst 4) ((LQ.F da db cs da db cs m14_0 m14_1 m14_2 m14_3 m14_4 m14_5 m14_6 m14_7 m8).fst 5) ((LQ.F da db cs da db cs m14_0 m14_1 m14_2 m14_3 m14_4 m14_5 m14_6 m14_7 m8).fst 6) ((LQ.F da db cs da db cs m14_0 m14_1 m14_2 m14_3 m14_4 m14_5 m14_6 m14_7 m8).fst 7) (LQ.F da db cs da db cs m14_0 m14_1 m14_2 m14_3 m14_4 m14_5 m14_6 m14_7 m8).snd da db cs [] 0 [AV.i IntKind.i64 m14_0, AV.i IntKind.i64 m14_1, AV.i IntKind.i64 m14_2, AV.i IntKind.i64 m14_3, AV.i IntKind.i64 m14_4, AV.i IntKind.i64 m14_5, AV.i IntKind.i64 m14_6, AV.i IntKind.i64 m14_7])]], fI ([v45aa_0_m14 t3 t7 ((LQ.F da db cs da db cs m14_0 m14_1 m14_2 m14_3 m14_4 m14_5 m14_6 m14_7 m8).fst 0) ((LQ.F da db cs da db cs m14_0 m14_1 m14_2 m14_3 m14_4 m14_5 m14_6 m14_7 m8).fst 1) ((LQ.F da db cs da db cs m14_0 m14_1 m14_2 m14_3 m14_4 m14_5 m14_6 m14_7 m8).fst 2) ((LQ.F da db cs da db cs m14_0 m14_1 m14_2 m14_3 m14_4 m14_5 m14_6 m14_7 m8).fst 3) ((LQ.F da db cs da db cs m14_0 m14_1 m14_2 m14_3 m14_4 m14_5 m14_6 m14_7 m8).fst 4) ((LQ.F da db cs da db cs m14_0 m14_1 m14_2 m14_3 m14_4 m14_5 m14_6 m14_7 m8).fst 5) ((LQ.F da db cs da db cs m14_0 m14_1 m14_2 m14_3 m14_4 m14_5 m14_6 m14_7 m8).fst 6) ((LQ.F da db cs da db cs m14_0 m14_1 m14_2 m14_3 m14_4 m14_5 m14_6 m14_7 m8).fst 7) (LQ.F da db cs da db cs m14_0 m14_1 m14_2 m14_3 m14_4 m14_5 m14_6 m14_7 m8).snd da db cs [] 0 [AV.i IntKind.i64 m14_0, AV.i IntKind.i64 m14_1, AV.i IntKind.i64 m14_2, AV.i IntKind.i64 m14_3, AV.i IntKind.i64 m14_4, AV.i IntKind.i64 m14_5, AV.i IntKind.i64 m14_6, AV.i IntKind.i64 m14_7]].getD 0 []) 0, fI ([v45aa_0_m14 t3 t7 ((LQ.F da db cs da db cs m14_0 m14_1 m14_2 m14_3 m14_4 m14_5 m14_6 m14_7 m8).fst 0) ((LQ.F da db cs da db cs m14_0 m14_1 m14_2 m14_3 m14_4 m14_5 m14_6 m14_7 m8).fst 1) ((LQ.F da db cs da db cs m14_0 m14_1 m14_2 m14_3 m14_4 m14_5 m14_6 m14_7 m8).fst 2) ((LQ.F da db cs da db cs m14_0 m14_1 m14_2 m14_3 m14_4 m14_5 m14_6 m14_7 m8).fst 3) ((LQ.F da db cs da db cs m14_0 m14_1 m14_2 m14_3 m14_4 m14_5 m14_6 m14_7 m8).fst 4) ((LQ.F da db cs da db cs m14_0 m14_1 m14_2 m14_3 m14_4 m14_5 m14_6 m14_7 m8).fst 5) ((LQ.F da db cs da db cs m14_0 m14_1 m14_2 m14_3 m14_4 m14_5 m14_6 m14_7 m8).fst 6) ((LQ.F da db cs da db cs m14_0 m14_1 m14_2 m14_3 m14_4 m14_5 m14_6 m14_7 m8).fst 7) (LQ.F da db cs da db cs m14_0 m14_1 m14_2 m14_3 m14_4 m14_5 m14_6 m14_7 m8).snd da db cs [] 0 [AV.i IntKind.i64 m14_0, AV.i IntKind.i64 m14_1, AV.i IntKind.i64 m14_2, AV.i IntKind.i64 m14_3, AV.i IntKind.i64 m14_4, AV.i IntKind.i64 m14_5, AV.i IntKind.i64 m14_6, AV.i IntKind.i64 m14_7]].getD 0 []) 1, fI ([v45aa_0_m14 t3 t7 ((LQ.F da db cs da db cs m14_0 m14_1 m14_2 m14_3 m14_4 m14_5 m14_6 m14_7 m8).fst 0) ((LQ.F da db cs da db cs m14_0 m14_1 m14_2 m14_3 m14_4 m14_5 m14_6 m14_7 m8).fst 1) ((LQ.F da db cs da db cs m14_0 m14_1 m14_2 m14_3 m14_4 m14_5 m14_6 m14_7 m8).fst 2) ((LQ.F da db cs da db cs m14_0 m14_1 m14_2 m14_3 m14_4 m14_5 m14_6 m14_7 m8).fst 3) ((LQ.F da db cs da db cs m14_0 m14_1 m14_2 m14_3 m14_4 m14_5 m14_6 m14_7 m8).fst 4) ((LQ.F da db cs da db cs m14_0 m14_1 m14_2 m14_3 m14_4 m14_5 m14_6 m14_7 m8).fst 5) ((LQ.F da db cs da db cs m14_0 m14_1 m14_2 m14_3 m14_4 m14_5 m14_6 m14_7 m8).fst 6) ((LQ.F da db cs da db cs m14_0 m14_1 m14_2 m14_3 m14_4 m14_5 m14_6 m14_7 m8).fst 7) (LQ.F da db cs da db cs m14_0 m14_1 m14_2 m14_3 m14_4 m14_5 m14_6 m14_7 m8).snd da db cs [] 0 [AV.i IntKind.i64 m14_0, AV.i IntKind.i64 m14_1, AV.i IntKind.i64 m14_2, AV.i IntKind.i64 m14_3, AV.i IntKind.i64 m14_4, AV.i IntKind.i64 m14_5, AV.i IntKind.i64 m14_6, AV.i IntKind.i64 m14_7]].getD 0 []) 2, fI ([v45aa_0_m14 t3 t7 ((LQ.F da db cs da db cs m14_0 m14_1 m14_2 m14_3 m14_4 m14_5 m14_6 m14_7 m8).fst 0) ((LQ.F da db cs da db cs m14_0 m14_1 m14_2 m14_3 m14_4 m14_5 m14_6 m14_7 m8).fst 1) ((LQ.F da db cs da db cs m14_0 m14_1 m14_2 m14_3 m14_4 m14_5 m14_6 m14_7 m8).fst 2) ((LQ.F da db cs da db cs m14_0 m14_1 m14_2 m14_3 m14_4 m14_5 m14_6 m14_7 m8).fst 3) ((LQ.F da db cs da db cs m14_0 m14_1 m14_2 m14_3 m14_4 m14_5 m14_6 m14_7 m8).fst 4) ((LQ.F da db cs da db cs m14_0 m14_1 m14_2 m14_3 m14_4 m14_5 m14_6 m14_7 m8).fst 5) ((LQ.F da db cs da db cs m14_0 m14_1 m14_2 m14_3 m14_4 m14_5 m14_6 m14_7 m8).fst 6) ((LQ.F da db cs da db cs m14_0 m14_1 m14_2 m14_3 m14_4 m14_5 m14_6 m14_7 m8).fst 7) (LQ.F da db cs da db cs m14_0 m14_1 m14_2 m14_3 m14_4 m14_5 m14_6 m14_7 m8).snd da db cs [] 0 [AV.i IntKind.i64 m14_0, AV.i IntKind.i64 m14_1, AV.i IntKind.i64 m14_2, AV.i IntKind.i64 m14_3, AV.i IntKind.i64 m14_4, AV.i IntKind.i64 m14_5, AV.i IntKind.i64 m14_6, AV.i IntKind.i64 m14_7]].getD 0 []) 3, fI ([v45aa_0_m14 t3 t7 ((LQ.F da db cs da db cs m14_0 m14_1 m14_2 m14_3 m14_4 m14_5 m14_6 m14_7 m8).fst 0) ((LQ.F da db cs da db cs m14_0 m14_1 m14_2 m14_3 m14_4 m14_5 m14_6 m14_7 m8).fst 1) ((LQ.F da db cs da db cs m14_0 m14_1 m14_2 m14_3 m14_4 m14_5 m14_6 m14_7 m8).fst 2) ((LQ.F da db cs da db cs m14_0 m14_1 m14_2 m14_3 m14_4 m14_5 m14_6 m14_7 m8).fst 3) ((LQ.F da db cs da db cs m14_0 m14_1 m14_2 m14_3 m14_4 m14_5 m14_6 m14_7 m8).fst 4) ((LQ.F da db cs da db cs m14_0 m14_1 m14_2 m14_3 m14_4 m14_5 m14_6 m14_7 m8).fst 5) ((LQ.F da db cs da db cs m14_0 m14_1 m14_2 m14_3 m14_4 m14_5 m14_6 m14_7 m8).fst 6) ((LQ.F da db cs da db cs m14_0 m14_1 m14_2 m14_3 m14_4 m14_5 m14_6 m14_7 m8).fst 7) (LQ.F da db cs da db cs m14_0 m14_1 m14_2 m14_3 m14_4 m14_5 m14_6 m14_7 m8).snd da db cs [] 0 [AV.i IntKind.i64 m14_0, AV.i IntKind.i64 m14_1, AV.i IntKind.i64 m14_2, AV.i IntKind.i64 m14_3, AV.i IntKind.i64 m14_4, AV.i IntKind.i64 m14_5, AV.i IntKind.i64 m14_6, AV.i IntKind.i64 m14_7]].getD 0 []) 4, fI ([v45aa_0_m14 t3 t7 ((LQ.F da db cs da db cs m14_0 m14_1 m14_2 m14_3 m14_4 m14_5 m14_6 m14_7 m8).fst 0) ((LQ.F da db cs da db cs m14_0 m14_1 m14_2 m14_3 m14_4 m14_5 m14_6 m14_7 m8).fst 1) ((LQ.F da db cs da db cs m14_0 m14_1 m14_2 m14_3 m14_4 m14_5 m14_6 m14_7 m8).fst 2) ((LQ.F da db cs da db cs m14_0 m14_1 m14_2 m14_3 m14_4 m14_5 m14_6 m14_7 m8).fst 3) ((LQ.F da db cs da db cs m14_0 m14_1 m14_2 m14_3 m14_4 m14_5 m14_6 m14_7 m8).fst 4) ((LQ.F da db cs da db cs m14_0 m14_1 m14_2 m14_3 m14_4 m14_5 m14_6 m14_7 m8).fst 5) ((LQ.F da db cs da db cs m14_0 m14_1 m14_2 m14_3 m14_4 m14_5 m14_6 m14_7 m8).fst 6) ((LQ.F da db cs da db cs m14_0 m14_1 m14_2 m14_3 m14_4 m14_5 m14_6 m14_7 m8).fst 7) (LQ.F da db cs da db cs m14_0 m14_1 m14_2 m14_3 m14_4 m14_5 m14_6 m14_7 m8).snd da db cs [] 0 [AV.i IntKind.i64 m14_0, AV.i IntKind.i64 m14_1, AV.i IntKind.i64 m14_2, AV.i IntKind.i64 m14_3, AV.i IntKind.i64 m14_4, AV.i IntKind.i64 m14_5, AV.i IntKind.i64 m14_6, AV.i IntKind.i64 m14_7]].getD 0 []) 5, fI ([v45aa_0_m14 t3 t7 ((LQ.F da db cs da db cs m14_0 m14_1 m14_2 m14_3 m14_4 m14_5 m14_6 m14_7 m8).fst 0) ((LQ.F da db cs da db cs m14_0 m14_1 m14_2 m14_3 m14_4 m14_5 m14_6 m14_7 m8).fst 1) ((LQ.F da db cs da db cs m14_0 m14_1 m14_2 m14_3 m14_4 m14_5 m14_6 m14_7 m8).fst 2) ((LQ.F da db cs da db cs m14_0 m14_1 m14_2 m14_3 m14_4 m14_5 m14_6 m14_7 m8).fst 3) ((LQ.F da db cs da db cs m14_0 m14_1 m14_2 m14_3 m14_4 m14_5 m14_6 m14_7 m8).fst 4) ((LQ.F da db cs da db cs m14_0 m14_1 m14_2 m14_3 m14_4 m14_5 m14_6 m14_7 m8).fst 5) ((LQ.F da db cs da db cs m14_0 m14_1 m14_2 m14_3 m14_4 m14_5 m14_6 m14_7 m8).fst 6) ((LQ.F da db cs da db cs m14_0 m14_1 m14_2 m14_3 m14_4 m14_5 m14_6 m14_7 m8).fst 7) (LQ.F da db cs da db cs m14_0 m14_1 m14_2 m14_3 m14_4 m14_5 m14_6 m14_7 m8).snd da db cs [] 0 [AV.i IntKind.i64 m14_0, AV.i IntKind.i64 m14_1, AV.i IntKind.i64 m14_2, AV.i IntKind.i64 m14_3, AV.i IntKind.i64 m14_4, AV.i IntKind.i64 m14_5, AV.i IntKind.i64 m14_6, AV.i IntKind.i64 m14_7]].getD 0 []) 6, fI ([v45aa_0_m14 t3 t7 ((LQ.F da db cs da db cs m14_0 m14_1 m14_2 m14_3 m14_4 m14_5 m14_6 m14_7 m8).fst 0) ((LQ.F da db cs da db cs m14_0 m14_1 m14_2 m14_3 m14_4 m14_5 m14_6 m14_7 m8).fst 1) ((LQ.F da db cs da db cs m14_0 m14_1 m14_2 m14_3 m14_4 m14_5 m14_6 m14_7 m8).fst 2) ((LQ.F da db cs da db cs m14_0 m14_1 m14_2 m14_3 m14_4 m14_5 m14_6 m14_7 m8).fst 3) ((LQ.F da db cs da db cs m14_0 m14_1 m14_2 m14_3 m14_4 m14_5 m14_6 m14_7 m8).fst 4) ((LQ.F da db cs da db cs m14_0 m14_1 m14_2 m14_3 m14_4 m14_5 m14_6 m14_7 m8).fst 5) ((LQ.F da db cs da db cs m14_0 m14_1 m14_2 m14_3 m14_4 m14_5 m14_6 m14_7 m8).fst 6) ((LQ.F da db cs da db cs m14_0 m14_1 m14_2 m14_3 m14_4 m14_5 m14_6 m14_7 m8).fst 7) (LQ.F da db cs da db cs m14_0 m14_1 m14_2 m14_3 m14_4 m14_5 m14_6 m14_7 m8).snd da db cs [] 0 [AV.i IntKind.i64 m14_0, AV.i IntKind.i64 m14_1, AV.i IntKind.i64 m14_2, AV.i IntKind.i64 m14_3, AV.i IntKind.i64 m14_4, AV.i IntKind.i64 m14_5, AV.i IntKind.i64 m14_6, AV.i IntKind.i64 m14_7]].getD 0 []) 7, (LQ.F da db cs da db cs m14_0 m14_1 m14_2 m14_3 m14_4 m14_5 m14_6 m14_7 m8).snd⟩) (.bad)) (.bad)) (.bad)) (.bad)) (.out (.x0 t7 m14_0 m14_1 m14_2 m14_3 m14_4 m14_5 m14_6 m14_7 m8))
noncomputable def o45a_0 (t3 da db : Int) (cs t7 : List (List AV)) (m14_0 m14_1 m14_2 m14_3 m14_4 m14_5 m14_6 m14_7 : Int) (m8 : List (AV × AV)) : St :=
  { t := [(2, .nl), (3, .i .i64 t3), (5, .p 10 0 0), (6, .p 12 0 0), (7, .gv 13 53 t7), (8, .p 14 0 0)], m := [(13, .fr 53), (14, .row 78 [[.i .i64 m14_0, .i .i64 m14_1, .i .i64 m14_2, .i .i64 m14_3, .i .i64 m14_4, .i .i64 m14_5, .i .i64 m14_6, .i .i64 m14_7]]), (0, .dead), (1, .dead), (2, .dead), (3, .dead), (4, .dead), (5, .dead), (6, .dead), (7, .dead), (8, .mp 78 80 m8), (9, .dead), (10, .row 75 [[.mp 8]]), (11, .dead), (12, .row 76 [[.fn 18 [.rp [.int .i64, .int .i64, .sl 44] [.i .i64 da, .i .i64 db, .rs 44 cs] 0, .p 10 0 0, .p 12 0 0]]])], nx := 15, nt := 54 }
noncomputable def ou45a (t3 da db : Int) (cs : List (List AV)) : T45a → Ex × St
  | .x0 t7 m14_0 m14_1 m14_2 m14_3 m14_4 m14_5 m14_6 m14_7 m8 => (.ext 0, o45a_0 t3 da db cs t7 m14_0 m14_1 m14_2 m14_3 m14_4 m14_5 m14_6 m14_7 m8)
noncomputable def r45a (t3 da db : Int) (cs t7 : List (List AV)) (m14_0 m14_1 m14_2 m14_3 m14_4 m14_5 m14_6 m14_7 : Int) (m8 : List (AV × AV)) : Option T45a := run (fun x => stp45a t3 da db cs x.t7 x.m14_0 x.m14_1 x.m14_2 x.m14_3 x.m14_4 x.m14_5 x.m14_6 x.m14_7 x.m8) (⟨t7, m14_0, m14_1, m14_2, m14_3, m14_4, m14_5, m14_6, m14_7, m8⟩ : S45a)
noncomputable def i45a_0 (t3 da db : Int) (cs t7 : List (List AV)) (m14_0 m14_1 m14_2 m14_3 m14_4 m14_5 m14_6 m14_7 : Int) (m8 : List (AV × AV)) : Bool := match r45a t3 da db cs t7 m14_0 m14_1 m14_2 m14_3 m14_4 m14_5 m14_6 m14_7 m8 with
  | some (.x0 _ _ _ _ _ _ _ _ _ _) => true
  | _ => false
noncomputable def v45a_0_t7 (t3 da db : Int) (cs t7 : List (List AV)) (m14_0 m14_1 m14_2 m14_3 m14_4 m14_5 m14_6 m14_7 : Int) (m8 : List (AV × AV)) : List (List AV) := match r45a t3 da db cs t7 m14_0 m14_1 m14_2 m14_3 m14_4 m14_5 m14_6 m14_7 m8 with
  | some (.x0 t7 _ _ _ _ _ _ _ _ _) => t7
  | _ => default
noncomputable def v45a_0_m14_0 (t3 da db : Int) (cs t7 : List (List AV)) (m14_0 m14_1 m14_2 m14_3 m14_4 m14_5 m14_6 m14_7 : Int) (m8 : List (AV × AV)) : Int := match r45a t3 da db cs t7 m14_0 m14_1 m14_2 m14_3 m14_4 m14_5 m14_6 m14_7 m8 with
  | some (.x0 _ m14_0 _ _ _ _ _ _ _ _) => m14_0
  | _ => default
noncomputable def v45a_0_m14_1 (t3 da db : Int) (cs t7 : List (List AV)) (m14_0 m14_1 m14_2 m14_3 m14_4 m14_5 m14_6 m14_7 : Int) (m8 : List (AV × AV)) : Int := match r45a t3 da db cs t7 m14_0 m14_1 m14_2 m14_3 m14_4 m14_5 m14_6 m14_7 m8 with
  | some (.x0 _ _ m14_1 _ _ _ _ _ _ _) => m14_1
  | _ => default
noncomputable def v45a_0_m14_2 (t3 da db : Int) (cs t7 : List (List AV)) (m14_0 m14_1 m14_2 m14_3 m14_4 m14_5 m14_6 m14_7 : Int) (m8 : List (AV × AV)) : Int := match r45a t3 da db cs t7 m14_0 m14_1 m14_2 m14_3 m14_4 m14_5 m14_6 m14_7 m8 with
  | some (.x0 _ _ _ m14_2 _ _ _ _ _ _) => m14_2
  | _ => default
noncomputable def v45a_0_m14_3 (t3 da db : Int) (cs t7 : List (List AV)) (m14_0 m14_1 m14_2 m14_3 m14_4 m14_5 m14_6 m14_7 : Int) (m8 : List (AV × AV)) : Int := match r45a t3 da db cs t7 m14_0 m14_1 m14_2 m14_3 m14_4 m14_5 m14_6 m14_7 m8 with
  | some (.x0 _ _ _ _ m14_3 _ _ _ _ _) => m14_3
  | _ => default
noncomputable def v45a_0_m14_4 (t3 da db : Int) (cs t7 : List (List AV)) (m14_0 m14_1 m14_2 m14_3 m14_4 m14_5 m14_6 m14_7 : Int) (m8 : List (AV × AV)) : Int := match r45a t3 da db cs t7 m14_0 m14_1 m14_2 m14_3 m14_4 m14_5 m14_6 m14_7 m8 with
  | some (.x0 _ _ _ _ _ m14_4 _ _ _ _) => m14_4
  | _ => default
noncomputable def v45a_0_m14_5 (t3 da db : Int) (cs t7 : List (List AV)) (m14_0 m14_1 m14_2 m14_3 m14_4 m14_5 m14_6 m14_7 : Int) (m8 : List (AV × AV)) : Int := match r45a t3 da db cs t7 m14_0 m14_1 m14_2 m14_3 m14_4 m14_5 m14_6 m14_7 m8 with
  | some (.x0 _ _ _ _ _ _ m14_5 _ _ _) => m14_5
  | _ => default
noncomputable def v45a_0_m14_6 (t3 da db : Int) (cs t7 : List (List AV)) (m14_0 m14_1 m14_2 m14_3 m14_4 m14_5 m14_6 m14_7 : Int) (m8 : List (AV × AV)) : Int := match r45a t3 da db cs t7 m14_0 m14_1 m14_2 m14_3 m14_4 m14_5 m14_6 m14_7 m8 with
  | some (.x0 _ _ _ _ _ _ _ m14_6 _ _) => m14_6
  | _ => default
noncomputable def v45a_0_m14_7 (t3 da db : Int) (cs t7 : List (List AV)) (m14_0 m14_1 m14_2 m14_3 m14_4 m14_5 m14_6 m14_7 : Int) (m8 : List (AV × AV)) : Int := match r45a t3 da db cs t7 m14_0 m14_1 m14_2 m14_3 m14_4 m14_5 m14_6 m14_7 m8 with
  | some (.x0 _ _ _ _ _ _ _ _ m14_7 _) => m14_7
  | _ => default
noncomputable def v45a_0_m8 (t3 da db : Int) (cs t7 : List (List AV)) (m14_0 m14_1 m14_2 m14_3 m14_4 m14_5 m14_6 m14_7 : Int) (m8 : List (AV × AV)) : List (AV × AV) := match r45a t3 da db cs t7 m14_0 m14_1 m14_2 m14_3 m14_4 m14_5 m14_6 m14_7 m8 with
  | some (.x0 _ _ _ _ _ _ _ _ _ m8) => m8
  | _ => default
noncomputable def l45a (st : St) : Option (List (Bool × Ex × St)) := match normW Try.prog [(2, none), (3, none), (5, none), (6, none), (7, some 53), (8, some 78)] 13 st with
  | some ([.nl, .i .i64 t3, .p 10 0 0, .p 12 0 0, .gv 13 53 t7, .p 14 0 0], [(13, .fr 53), (14, .row 78 [[.i .i64 m14_0, .i .i64 m14_1, .i .i64 m14_2, .i .i64 m14_3, .i .i64 m14_4, .i .i64 m14_5, .i .i64 m14_6, .i .i64 m14_7]]), (0, .dead), (1, .dead), (2, .dead), (3, .dead), (4, .dead), (5, .dead), (6, .dead), (7, .dead), (8, .mp 78 80 m8), (9, .dead), (10, .row 75 [[.mp 8]]), (11, .dead), (12, .row 76 [[.fn 18 [.rp [.int .i64, .int .i64, .sl 44] [.i .i64 da, .i .i64 db, .rs 44 cs] 0, .p 10 0 0, .p 12 0 0]]])], 15, 54) => some [(i45a_0 t3 da db cs t7 m14_0 m14_1 m14_2 m14_3 m14_4 m14_5 m14_6 m14_7 m8, .ext 0, o45a_0 t3 da db cs (v45a_0_t7 t3 da db cs t7 m14_0 m14_1 m14_2 m14_3 m14_4 m14_5 m14_6 m14_7 m8) (v45a_0_m14_0 t3 da db cs t7 m14_0 m14_1 m14_2 m14_3 m14_4 m14_5 m14_6 m14_7 m8) (v45a_0_m14_1 t3 da db cs t7 m14_0 m14_1 m14_2 m14_3 m14_4 m14_5 m14_6 m14_7 m8) (v45a_0_m14_2 t3 da db cs t7 m14_0 m14_1 m14_2 m14_3 m14_4 m14_5 m14_6 m14_7 m8) (v45a_0_m14_3 t3 da db cs t7 m14_0 m14_1 m14_2 m14_3 m14_4 m14_5 m14_6 m14_7 m8) (v45a_0_m14_4 t3 da db cs t7 m14_0 m14_1 m14_2 m14_3 m14_4 m14_5 m14_6 m14_7 m8) (v45a_0_m14_5 t3 da db cs t7 m14_0 m14_1 m14_2 m14_3 m14_4 m14_5 m14_6 m14_7 m8) (v45a_0_m14_6 t3 da db cs t7 m14_0 m14_1 m14_2 m14_3 m14_4 m14_5 m14_6 m14_7 m8) (v45a_0_m14_7 t3 da db cs t7 m14_0 m14_1 m14_2 m14_3 m14_4 m14_5 m14_6 m14_7 m8) (v45a_0_m8 t3 da db cs t7 m14_0 m14_1 m14_2 m14_3 m14_4 m14_5 m14_6 m14_7 m8))]
  | _ => none
noncomputable def L45 : LSpec := fun p st => match p with
  | [false, true, false, true, true, false, false, true, false, false, true, false, true, true, true, true, true, true] => l45aa st
  | [false, true, false, true, true, true, true, true, true] => l45a st
  | _ => none
theorem round45aa (t3 : Int) (t7 t10 : List (List AV)) (t30_0 t30_1 t30_2 t30_3 t30_4 t30_5 t30_6 t30_7 t31 : Int) (m8 : List (AV × AV)) (da db : Int) (cs : List (List AV)) (m14 : List AV) : round Try.prog SPm (ro 7) L45 lp45aa [false, true, false, true, true, false, false, true, false, false, true, false, true, true, true, true, true, true] [(2, none), (3, none), (5, none), (6, none), (7, some 53), (8, none), (10, some 3), (30, none), (31, none)] 15 (s45aa t3 t7 t10 t30_0 t30_1 t30_2 t30_3 t30_4 t30_5 t30_6 t30_7 t31 m8 da db cs m14) =
    cond (decide (t31 < 8)) (cond (intsOf IntKind.i64 [AV.i IntKind.i64 t30_0, AV.i IntKind.i64 t30_1, AV.i IntKind.i64 t30_2, AV.i IntKind.i64 t30_3, AV.i IntKind.i64 t30_4, AV.i IntKind.i64 t30_5, AV.i IntKind.i64 t30_6, AV.i IntKind.i64 t30_7] && (inb t31 8 && inb t31 [AV.i IntKind.i64 t30_0, AV.i IntKind.i64 t30_1, AV.i IntKind.i64 t30_2, AV.i IntKind.i64 t30_3, AV.i IntKind.i64 t30_4, AV.i IntKind.i64 t30_5, AV.i IntKind.i64 t30_6, AV.i IntKind.i64 t30_7].length)) (cond (g78 t31 (toI ([AV.i IntKind.i64 t30_0, AV.i IntKind.i64 t30_1, AV.i IntKind.i64 t30_2, AV.i IntKind.i64 t30_3, AV.i IntKind.i64 t30_4, AV.i IntKind.i64 t30_5, AV.i IntKind.i64 t30_6, AV.i IntKind.i64 t30_7].getD t31.toNat AV.u))) (cond ((t10.length + (w78_0 t31 (toI ([AV.i IntKind.i64 t30_0, AV.i IntKind.i64 t30_1, AV.i IntKind.i64 t30_2, AV.i IntKind.i64 t30_3, AV.i IntKind.i64 t30_4, AV.i IntKind.i64 t30_5, AV.i IntKind.i64 t30_6, AV.i IntKind.i64 t30_7].getD t31.toNat AV.u))).length).ble 9223372036854775807 && true) (cond (((t10.length + (w78_0 t31 (toI ([AV.i IntKind.i64 t30_0, AV.i IntKind.i64 t30_1, AV.i IntKind.i64 t30_2, AV.i IntKind.i64 t30_3, AV.i IntKind.i64 t30_4, AV.i IntKind.i64 t30_5, AV.i IntKind.i64 t30_6, AV.i IntKind.i64 t30_7].getD t31.toNat AV.u))).length) * 8).ble 140737488355328) (cond (inb t31 8) (cond (ctsAt (cts Try.prog 78) (0 + t31.toNat * 1) (cts Try.prog 3) && true) (cond (inb t31 8) (cond (ctsAt (cts Try.prog 78) (0 + t31.toNat * 1) (cts Try.prog 3) && true) (some (.nrm, s45aa t3 t7 (t10 ++ w78_0 t31 (toI ([AV.i IntKind.i64 t30_0, AV.i IntKind.i64 t30_1, AV.i IntKind.i64 t30_2, AV.i IntKind.i64 t30_3, AV.i IntKind.i64 t30_4, AV.i IntKind.i64 t30_5, AV.i IntKind.i64 t30_6, AV.i IntKind.i64 t30_7].getD t31.toNat AV.u))) t30_0 t30_1 t30_2 t30_3 t30_4 t30_5 t30_6 t30_7 (IntKind.i64.wrap (t31 + 1)) m8 da db cs (setCs ([m14].getD 0 []) (0 + t31.toNat * 1) [AV.i IntKind.i64 (IntKind.i64.wrap (toI (([m14].getD 0 []).getD (0 + t31.toNat * 1) AV.u) - toI ([AV.i IntKind.i64 t30_0, AV.i IntKind.i64 t30_1, AV.i IntKind.i64 t30_2, AV.i IntKind.i64 t30_3, AV.i IntKind.i64 t30_4, AV.i IntKind.i64 t30_5, AV.i IntKind.i64 t30_6, AV.i IntKind.i64 t30_7].getD t31.toNat AV.u)))]))) (none)) (none)) (none)) (none)) (none)) (none)) (none)) (none)) (some (.ext 2, o45aa_0 t3 t7 t30_0 t30_1 t30_2 t30_3 t30_4 t30_5 t30_6 t30_7 m8 da db cs t10 t31 m14)) := by kernel_rfl
theorem rnd45aa (t3 : Int) (t7 : List (List AV)) (t30_0 t30_1 t30_2 t30_3 t30_4 t30_5 t30_6 t30_7 : Int) (m8 : List (AV × AV)) (da db : Int) (cs : List (List AV)) (x : S45aa) : round Try.prog SPm (ro 7) L45 lp45aa [false, true, false, true, true, false, false, true, false, false, true, false, true, true, true, true, true, true] [(2, none), (3, none), (5, none), (6, none), (7, some 53), (8, none), (10, some 3), (30, none), (31, none)] 15 ((fun x => s45aa t3 t7 x.t10 t30_0 t30_1 t30_2 t30_3 t30_4 t30_5 t30_6 t30_7 x.t31 m8 da db cs x.m14) x) = toR (fun x => s45aa t3 t7 x.t10 t30_0 t30_1 t30_2 t30_3 t30_4 t30_5 t30_6 t30_7 x.t31 m8 da db cs x.m14) (ou45aa t3 t7 t30_0 t30_1 t30_2 t30_3 t30_4 t30_5 t30_6 t30_7 m8 da db cs) (stp45aa t3 t7 t30_0 t30_1 t30_2 t30_3 t30_4 t30_5 t30_6 t30_7 m8 da db cs x.t10 x.t31 x.m14) := by
  refine (round45aa _ _ _ _ _ _ _ _ _ _ _ _ _ _ _ _ _ ).trans ?_
  unfold stp45aa
  simp only [toR_cond]
  rfl
theorem lok45aa {st : St} {outs : List (Bool × Ex × St)} {e : Ex} {s : St} (hl : l45aa st = some outs) (hch : Chosen outs e s) :
    ∃ keep nb, 0 ≤ nb ∧ LB Try.prog SPm (ro 7) L45 lp45aa [false, true, false, true, true, false, false, true, false, false, true, false, true, true, true, true, true, true] keep nb st e s := by
  unfold l45aa at hl
  split at hl
  · rename_i t3 t7 t10 t30_0 t30_1 t30_2 t30_3 t30_4 t30_5 t30_6 t30_7 t31 m8 da db cs m14 hno
    cases hl
    have hno := normW_norm hno
    refine ⟨_, _, ?_, .enter hno ?_⟩
    · decide
    have main := fun y h => LB_run (x := (⟨t10, t31, m14⟩ : S45aa)) (y := y) (nb := 15) (fun y => by cases y <;> simp [ou45aa]) (rnd45aa t3 t7 t30_0 t30_1 t30_2 t30_3 t30_4 t30_5 t30_6 t30_7 m8 da db cs) h
    obtain ⟨x, hx, hg, rfl, rfl⟩ := chosen_any hch
    simp only [List.mem_cons, List.not_mem_nil, or_false] at hx
    subst hx
    exact main _ (is45aa_0 t3 t7 t30_0 t30_1 t30_2 t30_3 t30_4 t30_5 t30_6 t30_7 m8 da db cs t10 t31 m14 hg)
  · cases hl
theorem is45a_0 (t3 da db : Int) (cs t7 : List (List AV)) (m14_0 m14_1 m14_2 m14_3 m14_4 m14_5 m14_6 m14_7 : Int) (m8 : List (AV × AV)) (h : i45a_0 t3 da db cs t7 m14_0 m14_1 m14_2 m14_3 m14_4 m14_5 m14_6 m14_7 m8 = true) : r45a t3 da db cs t7 m14_0 m14_1 m14_2 m14_3 m14_4 m14_5 m14_6 m14_7 m8 = some (.x0 (v45a_0_t7 t3 da db cs t7 m14_0 m14_1 m14_2 m14_3 m14_4 m14_5 m14_6 m14_7 m8) (v45a_0_m14_0 t3 da db cs t7 m14_0 m14_1 m14_2 m14_3 m14_4 m14_5 m14_6 m14_7 m8) (v45a_0_m14_1 t3 da db cs t7 m14_0 m14_1 m14_2 m14_3 m14_4 m14_5 m14_6 m14_7 m8) (v45a_0_m14_2 t3 da db cs t7 m14_0 m14_1 m14_2 m14_3 m14_4 m14_5 m14_6 m14_7 m8) (v45a_0_m14_3 t3 da db cs t7 m14_0 m14_1 m14_2 m14_3 m14_4 m14_5 m14_6 m14_7 m8) (v45a_0_m14_4 t3 da db cs t7 m14_0 m14_1 m14_2 m14_3 m14_4 m14_5 m14_6 m14_7 m8) (v45a_0_m14_5 t3 da db cs t7 m14_0 m14_1 m14_2 m14_3 m14_4 m14_5 m14_6 m14_7 m8) (v45a_0_m14_6 t3 da db cs t7 m14_0 m14_1 m14_2 m14_3 m14_4 m14_5 m14_6 m14_7 m8) (v45a_0_m14_7 t3 da db cs t7 m14_0 m14_1 m14_2 m14_3 m14_4 m14_5 m14_6 m14_7 m8) (v45a_0_m8 t3 da db cs t7 m14_0 m14_1 m14_2 m14_3 m14_4 m14_5 m14_6 m14_7 m8)) := by
  unfold i45a_0 at h
  unfold v45a_0_t7 v45a_0_m14_0 v45a_0_m14_1 v45a_0_m14_2 v45a_0_m14_3 v45a_0_m14_4 v45a_0_m14_5 v45a_0_m14_6 v45a_0_m14_7 v45a_0_m8
  generalize r45a t3 da db cs t7 m14_0 m14_1 m14_2 m14_3 m14_4 m14_5 m14_6 m14_7 m8 = r at h ⊢
  rcases r with _ | y
  · cases h
  · cases y <;> first | rfl | cases h
theorem round45a (t3 : Int) (t7 : List (List AV)) (m14_0 m14_1 m14_2 m14_3 m14_4 m14_5 m14_6 m14_7 : Int) (m8 : List (AV × AV)) (da db : Int) (cs : List (List AV)) : round Try.prog SPm (ro 7) L45 lp45a [false, true, false, true, true, true, true, true, true] [(2, none), (3, none), (5, none), (6, none), (7, some 53), (8, some 78)] 13 (s45a t3 t7 m14_0 m14_1 m14_2 m14_3 m14_4 m14_5 m14_6 m14_7 m8 da db cs) =
    cond (!(m14_0 == 0 && (m14_1 == 0 && (m14_2 == 0 && (m14_3 == 0 && (m14_4 == 0 && (m14_5 == 0 && (m14_6 == 0 && m14_7 == 0)))))))) (cond (LQ.G da db cs da db cs m14_0 m14_1 m14_2 m14_3 m14_4 m14_5 m14_6 m14_7 m8 && true) (cond (i45aa_0 t3 t7 ((LQ.F da db cs da db cs m14_0 m14_1 m14_2 m14_3 m14_4 m14_5 m14_6 m14_7 m8).fst 0) ((LQ.F da db cs da db cs m14_0 m14_1 m14_2 m14_3 m14_4 m14_5 m14_6 m14_7 m8).fst 1) ((LQ.F da db cs da db cs m14_0 m14_1 m14_2 m14_3 m14_4 m14_5 m14_6 m14_7 m8).fst 2) ((LQ.F da db cs da db cs m14_0 m14_1 m14_2 m14_3 m14_4 m14_5 m14_6 m14_7 m8).fst 3) ((LQ.F da db cs da db cs m14_0 m14_1 m14_2 m14_3 m14_4 m14_5 m14_6 m14_7 m8).fst 4) ((LQ.F da db cs da db cs m14_0 m14_1 m14_2 m14_3 m14_4 m14_5 m14_6 m14_7 m8).fst 5) ((LQ.F da db cs da db cs m14_0 m14_1 m14_2 m14_3 m14_4 m14_5 m14_6 m14_7 m8).fst 6) ((LQ.F da db cs da db cs m14_0 m14_1 m14_2 m14_3 m14_4 m14_5 m14_6 m14_7 m8).fst 7) (LQ.F da db cs da db cs m14_0 m14_1 m14_2 m14_3 m14_4 m14_5 m14_6 m14_7 m8).snd da db cs [] 0 [AV.i IntKind.i64 m14_0, AV.i IntKind.i64 m14_1, AV.i IntKind.i64 m14_2, AV.i IntKind.i64 m14_3, AV.i IntKind.i64 m14_4, AV.i IntKind.i64 m14_5, AV.i IntKind.i64 m14_6, AV.i IntKind.i64 m14_7]) (cond ((t7.length + [[AV.rs 3 (v45aa_0_t10 t3 t7 ((LQ.F da db cs da db cs m14_0 m14_1 m14_2 m14_3 m14_4 m14_5 m14_6 m14_7 m8).fst 0) ((LQ.F da db cs da db cs m14_0 m14_1 m14_2 m14_3 m14_4 m14_5 m14_6 m14_7 m8).fst 1) ((LQ.F da db cs da db cs m14_0 m14_1 m14_2 m14_3 m14_4 m14_5 m14_6 m14_7 m8).fst 2) ((LQ.F da db cs da db cs m14_0 m14_1 m14_2 m14_3 m14_4 m14_5 m14_6 m14_7 m8).fst 3) ((LQ.F da db cs da db cs m14_0 m14_1 m14_2 m14_3 m14_4 m14_5 m14_6 m14_7 m8).fst 4) ((LQ.F da db cs da db cs m14_0 m14_1 m14_2 m14_3 m14_4 m14_5 m14_6 m14_7 m8).fst 5) ((LQ.F da db cs da db cs m14_0 m14_1 m14_2 m14_3 m14_4 m14_5 m14_6 m14_7 m8).fst 6) ((LQ.F da db cs da db cs m14_0 m14_1 m14_2 m14_3 m14_4 m14_5 m14_6 m14_7 m8).fst 7) (LQ.F da db cs da db cs m14_0 m14_1 m14_2 m14_3 m14_4 m14_5 m14_6 m14_7 m8).snd da db cs [] 0 [AV.i IntKind.i64 m14_0, AV.i IntKind.i64 m14_1, AV.i IntKind.i64 m14_2, AV.i IntKind.i64 m14_3, AV.i IntKind.i64 m14_4, AV.i IntKind.i64 m14_5, AV.i IntKind.i64 m14_6, AV.i IntKind.i64 m14_7])]].length).ble 9223372036854775807 && true) (cond (((t7.length + [[AV.rs 3 (v45aa_0_t10 t3 t7 ((LQ.F da db cs da db cs m14_0 m14_1 m14_2 m14_3 m14_4 m14_5 m14_6 m14_7 m8).fst 0) ((LQ.F da db cs da db cs m14_0 m14_1 m14_2 m14_3 m14_4 m14_5 m14_6 m14_7 m8).fst 1) ((LQ.F da db cs da db cs m14_0 m14_1 m14_2 m14_3 m14_4 m14_5 m14_6 m14_7 m8).fst 2) ((LQ.F da db cs da db cs m14_0 m14_1 m14_2 m14_3 m14_4 m14_5 m14_6 m14_7 m8).fst 3) ((LQ.F da db cs da db cs m14_0 m14_1 m14_2 m14_3 m14_4 m14_5 m14_6 m14_7 m8).fst 4) ((LQ.F da db cs da db cs m14_0 m14_1 m14_2 m14_3 m14_4 m14_5 m14_6 m14_7 m8).fst 5) ((LQ.F da db cs da db cs m14_0 m14_1 m14_2 m14_3 m14_4 m14_5 m14_6 m14_7 m8).fst 6) ((LQ.F da db cs da db cs m14_0 m14_1 m14_2 m14_3 m14_4 m14_5 m14_6 m14_7 m8).fst 7) (LQ.F da db cs da db cs m14_0 m14_1 m14_2 m14_3 m14_4 m14_5 m14_6 m14_7 m8).snd da db cs [] 0 [AV.i IntKind.i64 m14_0, AV.i IntKind.i64 m14_1, AV.i IntKind.i64 m14_2, AV.i IntKind.i64 m14_3, AV.i IntKind.i64 m14_4, AV.i IntKind.i64 m14_5, AV.i IntKind.i64 m14_6, AV.i IntKind.i64 m14_7])]].length) * 24).ble 140737488355328) (some (.nrm, s45a t3 (t7 ++ [[AV.rs 3 (v45aa_0_t10 t3 t7 ((LQ.F da db cs da db cs m14_0 m14_1 m14_2 m14_3 m14_4 m14_5 m14_6 m14_7 m8).fst 0) ((LQ.F da db cs da db cs m14_0 m14_1 m14_2 m14_3 m14_4 m14_5 m14_6 m14_7 m8).fst 1) ((LQ.F da db cs da db cs m14_0 m14_1 m14_2 m14_3 m14_4 m14_5 m14_6 m14_7 m8).fst 2) ((LQ.F da db cs da db cs m14_0 m14_1 m14_2 m14_3 m14_4 m14_5 m14_6 m14_7 m8).fst 3) ((LQ.F da db cs da db cs m14_0 m14_1 m14_2 m14_3 m14_4 m14_5 m14_6 m14_7 m8).fst 4) ((LQ.F da db cs da db cs m14_0 m14_1 m14_2 m14_3 m14_4 m14_5 m14_6 m14_7 m8).fst 5) ((LQ.F da db cs da db cs m14_0 m14_1 m14_2 m14_3 m14_4 m14_5 m14_6 m14_7 m8).fst 6) ((LQ.F da db cs da db cs m14_0 m14_1 m14_2 m14_3 m14_4 m14_5 m14_6 m14_7 m8).fst 7) (LQ.F da db cs da db cs m14_0 m14_1 m14_2 m14_3 m14_4 m14_5 m14_6 m14_7 m8).snd da db cs [] 0 [AV.i IntKind.i64 m14_0, AV.i IntKind.i64 m14_1, AV.i IntKind.i64 m14_2, AV.i IntKind.i64 m14_3, AV.i IntKind.i64 m14_4, AV.i IntKind.i64 m14_5, AV.i IntKind.i64 m14_6, AV.i IntKind.i64 m14_7])]]) (fI ([v45aa_0_m14 t3 t7 ((LQ.F da db cs da db cs m14_0 m14_1 m14_2 m14_3 m14_4 m14_5 m14_6 m14_7 m8).fst 0) ((LQ.F da db cs da db cs m14_0 m14_1 m14_2 m14_3 m14_4 m14_5 m14_6 m14_7 m8).fst 1) ((LQ.F da db cs da db cs m14_0 m14_1 m14_2 m14_3 m14_4 m14_5 m14_6 m14_7 m8).fst 2) ((LQ.F da db cs da db cs m14_0 m14_1 m14_2 m14_3 m14_4 m14_5 m14_6 m14_7 m8).fst 3) ((LQ.F da db cs da db cs m14_0 m14_1 m14_2 m14_3 m14_4 m14_5 m14_6 m14_7 m8).fst 4) ((LQ.F da db cs da db cs m14_0 m14_1 m14_2 m14_3 m14_4 m14_5 m14_6 m14_7 m8).fst 5) ((LQ.F da db cs da db cs m14_0 m14_1 m14_2 m14_3 m14_4 m14_5 m14_6 m14_7 m8).fst 6) ((LQ.F da db cs da db cs m14_0 m14_1 m14_2 m14_3 m14_4 m14_5 m14_6 m14_7 m8).fst 7) (LQ.F da db cs da db cs m14_0 m14_1 m14_2 m14_3 m14_4 m14_5 m14_6 m14_7 m8).snd da db cs [] 0 [AV.i IntKind.i64 m14_0, AV.i IntKind.i64 m14_1, AV.i IntKind.i64 m14_2, AV.i IntKind.i64 m14_3, AV.i IntKind.i64 m14_4, AV.i IntKind.i64 m14_5, AV.i IntKind.i64 m14_6, AV.i IntKind.i64 m14_7]].getD 0 []) 0) (fI ([v45aa_0_m14 t3 t7 ((LQ.F da db cs da db cs m14_0 m14_1 m14_2 m14_3 m14_4 m14_5 m14_6 m14_7 m8).fst 0) ((LQ.F da db cs da db cs m14_0 m14_1 m14_2 m14_3 m14_4 m14_5 m14_6 m14_7 m8).fst 1) ((LQ.F da db cs da db cs m14_0 m14_1 m14_2 m14_3 m14_4 m14_5 m14_6 m14_7 m8).fst 2) ((LQ.F da db cs da db cs m14_0 m14_1 m14_2 m14_3 m14_4 m14_5 m14_6 m14_7 m8).fst 3) ((LQ.F da db cs da db cs m14_0 m14_1 m14_2 m14_3 m14_4 m14_5 m14_6 m14_7 m8).fst 4) ((LQ.F da db cs da db cs m14_0 m14_1 m14_2 m14_3 m14_4 m14_5 m14_6 m14_7 m8).fst 5) ((LQ.F da db cs da db cs m14_0 m14_1 m14_2 m14_3 m14_4 m14_5 m14_6 m14_7 m8).fst 6) ((LQ.F da db cs da db cs m14_0 m14_1 m14_2 m14_3 m14_4 m14_5 m14_6 m14_7 m8).fst 7) (LQ.F da db cs da db cs m14_0 m14_1 m14_2 m14_3 m14_4 m14_5 m14_6 m14_7 m8).snd da db cs [] 0 [AV.i IntKind.i64 m14_0, AV.i IntKind.i64 m14_1, AV.i IntKind.i64 m14_2, AV.i IntKind.i64 m14_3, AV.i IntKind.i64 m14_4, AV.i IntKind.i64 m14_5, AV.i IntKind.i64 m14_6, AV.i IntKind.i64 m14_7]].getD 0 []) 1) (fI ([v45aa_0_m14 t3 t7 ((LQ.F da db cs da db cs m14_0 m14_1 m14_2 m14_3 m14_4 m14_5 m14_6 m14_7 m8).fst 0) ((LQ.F da db cs da db cs m14_0 m14_1 m14_2 m14_3 m14_4 m14_5 m14_6 m14_7 m8).fst 1) ((LQ.F da db cs da db cs m14_0 m14_1 m14_2 m14_3 m14_4 m14_5 m14_6 m14_7 m8).fst 2) ((LQ.F da db cs da db cs m14_0 m14_1 m14_2 m14_3 m14_4 m14_5 m14_6 m14_7 m8).fst 3) ((LQ.F da db cs da db cs m14_0 m14_1 m14_2 m14_3 m14_4 m14_5 m14_6 m14_7 m8).fst 4) ((LQ.F da db cs da db cs m14_0 m14_1 m14_2 m14_3 m14_4 m14_5 m14_6 m14_7 m8).fst 5) ((LQ.F da db cs da db cs m14_0 m14_1 m14_2 m14_3 m14_4 m14_5 m14_6 m14_7 m8).fst 6) ((LQ.F da db cs da db cs m14_0 m14_1 m14_2 m14_3 m14_4 m14_5 m14_6 m14_7 m8).fst 7) (LQ.F da db cs da db cs m14_0 m14_1 m14_2 m14_3 m14_4 m14_5 m14_6 m14_7 m8).snd da db cs [] 0 [AV.i IntKind.i64 m14_0, AV.i IntKind.i64 m14_1, AV.i IntKind.i64 m14_2, AV.i IntKind.i64 m14_3, AV.i IntKind.i64 m14_4, AV.i IntKind.i64 m14_5, AV.i IntKind.i64 m14_6, AV.i IntKind.i64 m14_7]].getD 0 []) 2) (fI ([v45aa_0_m14 t3 t7 ((LQ.F da db cs da db cs m14_0 m14_1 m14_2 m14_3 m14_4 m14_5 m14_6 m14_7 m8).fst 0) ((LQ.F da db cs da db cs m14_0 m14_1 m14_2 m14_3 m14_4 m14_5 m14_6 m14_7 m8).fst 1) ((LQ.F da db cs da db cs m14_0 m14_1 m14_2 m14_3 m14_4 m14_5 m14_6 m14_7 m8).fst 2) ((LQ.F da db cs da db cs m14_0 m14_1 m14_2 m14_3 m14_4 m14_5 m14_6 m14_7 m8).fst 3) ((LQ.F da db cs da db cs m14_0 m14_1 m14_2 m14_3 m14_4 m14_5 m14_6 m14_7 m8).fst 4) ((LQ.F da db cs da db cs m14_0 m14_1 m14_2 m14_3 m14_4 m14_5 m14_6 m14_7 m8).fst 5) ((LQ.F da db cs da db cs m14_0 m14_1 m14_2 m14_3 m14_4 m14_5 m14_6 m14_7 m8).fst 6) ((LQ.F da db cs da db cs m14_0 m14_1 m14_2 m14_3 m14_4 m14_5 m14_6 m14_7 m8).fst 7) (LQ.F da db cs da db cs m14_0 m14_1 m14_2 m14_3 m14_4 m14_5 m14_6 m14_7 m8).snd da db cs [] 0 [AV.i IntKind.i64 m14_0, AV.i IntKind.i64 m14_1, AV.i IntKind.i64 m14_2, AV.i IntKind.i64 m14_3, AV.i IntKind.i64 m14_4, AV.i IntKind.i64 m14_5, AV.i IntKind.i64 m14_6, AV.i IntKind.i64 m14_7]].getD 0 []) 3) (fI ([v45aa_0_m14 t3 t7 ((LQ.F da db cs da db cs m14_0 m14_1 m14_2 m14_3 m14_4 m14_5 m14_6 m14_7 m8).fst 0) ((LQ.F da db cs da db cs m14_0 m14_1 m14_2 m14_3 m14_4 m14_5 m14_6 m14_7 m8).fst 1) ((LQ.F da db cs da db cs m14_0 m14_1 m14_2 m14_3 m14_4 m14_5 m14_6 m14_7 m8).fst 2) ((LQ.F da db cs da db cs m14_0 m14_1 m14_2 m14_3 m14_4 m14_5 m14_6 m14_7 m8).fst 3) ((LQ.F da db cs da db cs m14_0 m14_1 m14_2 m14_3 m14_4 m14_5 m14_6 m14_7 m8).fst 4) ((LQ.F da db cs da db cs m14_0 m14_1 m14_2 m14_3 m14_4 m14_5 m14_6 m14_7 m8).fst 5) ((LQ.F da db cs da db cs m14_0 m14_1 m14_2 m14_3 m14_4 m14_5 m14_6 m14_7 m8).fst 6) ((LQ.F da db cs da db cs m14_0 m14_1 m14_2 m14_3 m14_4 m14_5 m14_6 m14_7 m8).fst 7) (LQ.F da db cs da db cs m14_0 m14_1 m14_2 m14_3 m14_4 m14_5 m14_6 m14_7 m8).snd da db cs [] 0 [AV.i IntKind.i64 m14_0, AV.i IntKind.i64 m14_1, AV.i IntKind.i64 m14_2, AV.i IntKind.i64 m14_3, AV.i IntKind.i64 m14_4, AV.i IntKind.i64 m14_5, AV.i IntKind.i64 m14_6, AV.i IntKind.i64 m14_7]].getD 0 []) 4) (fI ([v45aa_0_m14 t3 t7 ((LQ.F da db cs da db cs m14_0 m14_1 m14_2 m14_3 m14_4 m14_5 m14_6 m14_7 m8).fst 0) ((LQ.F da db cs da db cs m14_0 m14_1 m14_2 m14_3 m14_4 m14_5 m14_6 m14_7 m8).fst 1) ((LQ.F da db cs da db cs m14_0 m14_1 m14_2 m14_3 m14_4 m14_5 m14_6 m14_7 m8).fst 2) ((LQ.F da db cs da db cs m14_0 m14_1 m14_2 m14_3 m14_4 m14_5 m14_6 m14_7 m8).fst 3) ((LQ.F da db cs da db cs m14_0 m14_1 m14_2 m14_3 m14_4 m14_5 m14_6 m14_7 m8).fst 4) ((LQ.F da db cs da db cs m14_0 m14_1 m14_2 m14_3 m14_4 m14_5 m14_6 m14_7 m8).fst 5) ((LQ.F da db cs da db cs m14_0 m14_1 m14_2 m14_3 m14_4 m14_5 m14_6 m14_7 m8).fst 6) ((LQ.F da db cs da db cs m14_0 m14_1 m14_2 m14_3 m14_4 m14_5 m14_6 m14_7 m8).fst 7) (LQ.F da db cs da db cs m14_0 m14_1 m14_2 m14_3 m14_4 m14_5 m14_6 m14_7 m8).snd da db cs [] 0 [AV.i IntKind.i64 m14_0, AV.i IntKind.i64 m14_1, AV.i IntKind.i64 m14_2, AV.i IntKind.i64 m14_3, AV.i IntKind.i64 m14_4, AV.i IntKind.i64 m14_5, AV.i IntKind.i64 m14_6, AV.i IntKind.i64 m14_7]].getD 0 []) 5) (fI ([v45aa_0_m14 t3 t7 ((LQ.F da db cs da db cs m14_0 m14_1 m14_2 m14_3 m14_4 m14_5 m14_6 m14_7 m8).fst 0) ((LQ.F da db cs da db cs m14_0 m14_1 m14_2 m14_3 m14_4 m14_5 m14_6 m14_7 m8).fst 1) ((LQ.F da db cs da db cs m14_0 m14_1 m14_2 m14_3 m14_4 m14_5 m14_6 m14_7 m8).fst 2) ((LQ.F da db cs da db cs m14_0 m14_1 m14_2 m14_3 m14_4 m14_5 m14_6 m14_7 m8).fst 3) ((LQ.F da db cs da db cs m14_0 m14_1 m14_2 m14_3 m14_4 m14_5 m14_6 m14_7 m8).fst 4) ((LQ.F da db cs da db cs m14_0 m14_1 m14_2 m14_3 m14_4 m14_5 m14_6 m14_7 m8).fst 5) ((LQ.F da db cs da db cs m14_0 m14_1 m14_2 m14_3 m14_4 m14_5 m14_6 m14_7 m8).fst 6) ((LQ.F da db cs da db cs m14_0 m14_1 m14_2 m14_3 m14_4 m14_5 m14_6 m14_7 m8).fst 7) (LQ.F da db cs da db cs m14_0 m14_1 m14_2 m14_3 m14_4 m14_5 m14_6 m14_7 m8).snd da db cs [] 0 [AV.i IntKind.i64 m14_0, AV.i IntKind.i64 m14_1, AV.i IntKind.i64 m14_2, AV.i IntKind.i64 m14_3, AV.i IntKind.i64 m14_4, AV.i IntKind.i64 m14_5, AV.i IntKind.i64 m14_6, AV.i IntKind.i64 m14_7]].getD 0 []) 6) (fI ([v45aa_0_m14 t3 t7 ((LQ.F da db cs da db cs m14_0 m14_1 m14_2 m14_3 m14_4 m14_5 m14_6 m14_7 m8).fst 0) ((LQ.F da db cs da db cs m14_0 m14_1 m14_2 m14_3 m14_4 m14_5 m14_6 m14_7 m8).fst 1) ((LQ.F da db cs da db cs m14_0 m14_1 m14_2 m14_3 m14_4 m14_5 m14_6 m14_7 m8).fst 2) ((LQ.F da db cs da db cs m14_0 m14_1 m14_2 m14_3 m14_4 m14_5 m14_6 m14_7 m8).fst 3) ((LQ.F da db cs da db cs m14_0 m14_1 m14_2 m14_3 m14_4 m14_5 m14_6 m14_7 m8).fst 4) ((LQ.F da db cs da db cs m14_0 m14_1 m14_2 m14_3 m14_4 m14_5 m14_6 m14_7 m8).fst 5) ((LQ.F da db cs da db cs m14_0 m14_1 m14_2 m14_3 m14_4 m14_5 m14_6 m14_7 m8).fst 6) ((LQ.F da db cs da db cs m14_0 m14_1 m14_2 m14_3 m14_4 m14_5 m14_6 m14_7 m8).fst 7) (LQ.F da db cs da db cs m14_0 m14_1 m14_2 m14_3 m14_4 m14_5 m14_6 m14_7 m8).snd da db cs [] 0 [AV.i IntKind.i64 m14_0, AV.i IntKind.i64 m14_1, AV.i IntKind.i64 m14_2, AV.i IntKind.i64 m14_3, AV.i IntKind.i64 m14_4, AV.i IntKind.i64 m14_5, AV.i IntKind.i64 m14_6, AV.i IntKind.i64 m14_7]].getD 0 []) 7) ((LQ.F da db cs da db cs m14_0 m14_1 m14_2 m14_3 m14_4 m14_5 m14_6 m14_7 m8).snd) da db cs)) (none)) (none)) (none)) (none)) (some (.ext 0, o45a_0 t3 da db cs t7 m14_0 m14_1 m14_2 m14_3 m14_4 m14_5 m14_6 m14_7 m8)) := by kernel_rfl
theorem rnd45a (t3 da db : Int) (cs : List (List AV)) (x : S45a) : round Try.prog SPm (ro 7) L45 lp45a [false, true, false, true, true, true, true, true, true] [(2, none), (3, none), (5, none), (6, none), (7, some 53), (8, some 78)] 13 ((fun x => s45a t3 x.t7 x.m14_0 x.m14_1 x.m14_2 x.m14_3 x.m14_4 x.m14_5 x.m14_6 x.m14_7 x.m8 da db cs) x) = toR (fun x => s45a t3 x.t7 x.m14_0 x.m14_1 x.m14_2 x.m14_3 x.m14_4 x.m14_5 x.m14_6 x.m14_7 x.m8 da db cs) (ou45a t3 da db cs) (stp45a t3 da db cs x.t7 x.m14_0 x.m14_1 x.m14_2 x.m14_3 x.m14_4 x.m14_5 x.m14_6 x.m14_7 x.m8) := by
  refine (round45a _ _ _ _ _ _ _ _ _ _ _ _ _ _ ).trans ?_
  unfold stp45a
  simp only [toR_cond]
  rfl
theorem lok45a {st : St} {outs : List (Bool × Ex × St)} {e : Ex} {s : St} (hl : l45a st = some outs) (hch : Chosen outs e s) :
    ∃ keep nb, 0 ≤ nb ∧ LB Try.prog SPm (ro 7) L45 lp45a [false, true, false, true, true, true, true, true, true] keep nb st e s := by
  unfold l45a at hl
  split at hl
  · rename_i t3 t7 m14_0 m14_1 m14_2 m14_3 m14_4 m14_5 m14_6 m14_7 m8 da db cs hno
    cases hl
    have hno := normW_norm hno
    refine ⟨_, _, ?_, .enter hno ?_⟩
    · decide
    have main := fun y h => LB_run (x := (⟨t7, m14_0, m14_1, m14_2, m14_3, m14_4, m14_5, m14_6, m14_7, m8⟩ : S45a)) (y := y) (nb := 13) (fun y => by cases y <;> simp [ou45a]) (rnd45a t3 da db cs) h
    obtain ⟨x, hx, hg, rfl, rfl⟩ := chosen_any hch
    simp only [List.mem_cons, List.not_mem_nil, or_false] at hx
    subst hx
    exact main _ (is45a_0 t3 da db cs t7 m14_0 m14_1 m14_2 m14_3 m14_4 m14_5 m14_6 m14_7 m8 hg)
  · cases hl
theorem L45_ok (q : Pl) (c : Code) (hq : locate c45 q.reverse = some (.loop c)) (st : St) (outs : List (Bool × Ex × St)) (e : Ex) (s : St) (hl : L45 q st = some outs) (hch : Chosen outs e s) :
    ∃ keep nb, 0 ≤ nb ∧ LB Try.prog SPm (ro 7) L45 c q keep nb st e s := by
  unfold L45 at hl
  split at hl
  · have : locate c45 ([false, true, false, true, true, false, false, true, false, false, true, false, true, true, true, true, true, true] : Pl).reverse = some (.loop lp45aa) := by kernel_rfl
    rw [this] at hq
    cases hq
    exact lok45aa hl hch
  · have : locate c45 ([false, true, false, true, true, true, true, true, true] : Pl).reverse = some (.loop lp45a) := by kernel_rfl
    rw [this] at hq
    cases hq
    exact lok45a hl hch
  · cases hl
theorem lok45 : LOK Try.prog SPm (ro 7) L45 0 false c45 [] :=
  lok_lo L45_ok c45 [] false (locate_nil _) (by kernel_rfl)
noncomputable def t45 (da db : Int) (cs : List (List AV)) : Tr ((List (List AV)) × (Int)) :=
  .cn (g24 da db cs) (.cn (w24_0 da db cs != 0) (.lf ([], w24_0 da db cs)) (.cn (g77 da db cs) (.cn (i45a_0 0 da db cs [] (w77_0 da db cs) (w77_1 da db cs) (w77_2 da db cs) (w77_3 da db cs) (w77_4 da db cs) (w77_5 da db cs) (w77_6 da db cs) (w77_7 da db cs) []) (.lf (v45a_0_t7 0 da db cs [] (w77_0 da db cs) (w77_1 da db cs) (w77_2 da db cs) (w77_3 da db cs) (w77_4 da db cs) (w77_5 da db cs) (w77_6 da db cs) (w77_7 da db cs) [], 0)) (.nn)) (.nn))) (.nn)
noncomputable def g45 (da db : Int) (cs : List (List AV)) : Bool := (t45 da db cs).g
noncomputable def w45_0 (da db : Int) (cs : List (List AV)) : List (List AV) := (t45 da db cs).val.1
noncomputable def w45_1 (da db : Int) (cs : List (List AV)) : Int := (t45 da db cs).val.2
noncomputable def a45 (da db : Int) (cs : List (List AV)) : Tr AV :=
  .cn (g24 da db cs) (.cn (w24_0 da db cs != 0) (.lf (.tup [.nl, .i .i64 (w24_0 da db cs)])) (.cn (g77 da db cs) (.cn (i45a_0 0 da db cs [] (w77_0 da db cs) (w77_1 da db cs) (w77_2 da db cs) (w77_3 da db cs) (w77_4 da db cs) (w77_5 da db cs) (w77_6 da db cs) (w77_7 da db cs) []) (.lf (.tup [.rs 53 (v45a_0_t7 0 da db cs [] (w77_0 da db cs) (w77_1 da db cs) (w77_2 da db cs) (w77_3 da db cs) (w77_4 da db cs) (w77_5 da db cs) (w77_6 da db cs) (w77_7 da db cs) []), .i .i64 0])) (.nn)) (.nn))) (.nn)
theorem eq45 (da db : Int) (cs : List (List AV)) : evF Try.prog SPm (ro 7) L45 Try.f7 [.agg [.i .i64 da, .i .i64 db, .rs 44 cs]] = (a45 da db cs).opt id := by kernel_rfl
theorem wk45 (da db : Int) (cs : List (List AV)) : (a45 da db cs).map (wkV [some 53, none]) = (t45 da db cs).map (fun (x : (List (List AV)) × (Int)) => (.tup [.rs 53 x.1, .i .i64 x.2] : AV)) := by kernel_rfl
theorem con45 (da db : Int) (cs : List (List AV)) (h : g45 da db cs = true) : Con Try.prog 7 [.agg [.i .i64 da, .i .i64 db, .rs 44 cs]] [] (.tup [.rs 53 (w45_0 da db cs), .i .i64 (w45_1 da db cs)]) [] := by
  obtain ⟨v, h1, h2⟩ := Tr.soundW (eq45 da db cs) (wk45 da db cs) h
  have := (con_of SPm_ok mixed Try.func7 (c := c45) rfl (names 7 _ Try.func7) lok45 h1).wk [some 53, none]
  rw [h2] at this
  exact this
noncomputable def e45 (args : List AV) (rows : List Blk) : Option (Bool × AV × List Blk) := match args, rows with
  | [.agg [.i .i64 da, .i .i64 db, .rs 44 cs]], [] => some (g45 da db cs, .tup [.rs 53 (w45_0 da db cs), .i .i64 (w45_1 da db cs)], [])
  | _, _ => none
theorem e45_ok (args : List AV) (rows : List Blk) (pre : Bool) (v : AV) (rows' : List Blk) (h : e45 args rows = some (pre, v, rows')) (hp : pre = true) : Con Try.prog 7 args rows v rows' := by
  unfold e45 at h
  split at h
  · cases h; exact con45 _ _ _ hp
  · cases h
-- SPEC 45
end Go.Proofs.Ytkdiaipaajgcbaa

set_option maxRecDepth 100000
set_option linter.unusedVariables false
namespace Go.Proofs.Ytkdiaipaajgcbaa
open Go Go.Ev
def repL (s : Nat → Int) : Nat → List Nat
  | 0 => []
  | k + 1 => repL s k ++ List.replicate (s k).toNat k
section
variable {da db : Int} {cs : List (List AV)}
theorem repL_mem {s : Nat → Int} : ∀ {k c : Nat}, c ∈ repL s k → c < k ∧ 0 < s c
  | 0, c, h => by cases h
  | k + 1, c, h => by
    rcases List.mem_append.1 h with h | h
    · have := repL_mem h; exact ⟨by omega, this.2⟩
    · obtain ⟨h1, h2⟩ := List.mem_replicate.1 h
      subst h2
      exact ⟨by omega, by omega⟩
theorem repL_count {s : Nat → Int} (j : Nat) : ∀ {k : Nat}, (repL s k).count j = if j < k then (s j).toNat else 0
  | 0 => rfl
  | k + 1 => by
    show (repL s k ++ List.replicate (s k).toNat k).count j = _
    rw [List.count_append, repL_count j (k := k), List.count_replicate]
    by_cases e : j = k
    · subst e
      rw [if_neg (show ¬ j < j by omega), if_pos (show j < j + 1 by omega)]
      simp
    · have : (k == j) = false := by simpa using fun e' => e e'.symm
      rw [this]
      by_cases h' : j < k
      · rw [if_pos h', if_pos (show j < k + 1 by omega)]; simp
      · rw [if_neg h', if_neg (show ¬ j < k + 1 by omega)]; simp
theorem szR_rep (n c : Nat) : szR db cs (List.replicate n c) = (n : Int) * (ln cs c + db) := by
  induction n with
  | zero => simp [szR]
  | succ n ih =>
    rw [List.replicate_succ]
    show ln cs c + db + szR db cs (List.replicate n c) = _
    rw [ih, Int.natCast_succ, Int.add_mul, Int.one_mul]
    omega
theorem repL_sz {s : Nat → Int} : ∀ {k : Nat}, (∀ i, i < k → 0 ≤ s i) → szR db cs (repL s k) = DD db cs s k
  | 0, _ => rfl
  | k + 1, h => by
    show szR db cs (repL s k ++ _) = DD db cs s k + s k * (ln cs k + db)
    have hk := h k (by omega)
    rw [szR_app, repL_sz fun i hi => h i (by omega), szR_rep, show (((s k).toNat : Nat) : Int) = s k by omega]
theorem repL_len {s : Nat → Int} : ∀ {k : Nat}, (∀ i, i < k → 0 ≤ s i) → ((repL s k).length : Int) = TT s k
  | 0, _ => rfl
  | k + 1, h => by
    show ((repL s k ++ List.replicate (s k).toNat k).length : Int) = TT s k + s k
    have hk := h k (by omega)
    rw [List.length_append, List.length_replicate, Int.natCast_add, repL_len fun i hi => h i (by omega)]
    omega
theorem repL_up {s : Nat → Int} : ∀ k, (repL s k).Pairwise (· ≤ ·)
  | 0 => List.Pairwise.nil
  | k + 1 => by
    refine List.pairwise_append.2 ⟨repL_up k, ?_, fun a ha b hb => ?_⟩
    · rw [List.pairwise_replicate]
      exact .inr (Nat.le_refl _)
    · have := (repL_mem ha).1
      have := List.eq_of_mem_replicate hb
      omega
theorem repL_RowP (hF : RFine da db cs) {s : Nat → Int} (h1 : ∀ i, i < cs.length → 0 ≤ s i) (h2 : ∀ i, cs.length ≤ i → i < 8 → s i = 0) (h3 : DD db cs s cs.length ≤ da + db) (h4 : ∃ i, i < cs.length ∧ 0 < s i) : RowP da db cs (repL s 8) := by
  have hl := hF.l
  have h8 : ∀ i, i < 8 → 0 ≤ s i := fun i hi => by
    rcases Nat.lt_or_ge i cs.length with h | h
    · exact h1 i h
    · rw [h2 i h hi]; exact Int.le_refl _
  have hDD : ∀ k, cs.length ≤ k → k ≤ 8 → DD db cs s k = DD db cs s cs.length := by
    intro k hk hk8
    induction k with
    | zero =>
      have : cs.length = 0 := by omega
      rw [this]
    | succ k ih =>
      rcases Nat.eq_or_lt_of_le hk with e | e
      · rw [e]
      · show DD db cs s k + s k * _ = _
        rw [ih (by omega) (by omega), h2 k (by omega) (by omega), Int.zero_mul, Int.add_zero]
  refine ⟨fun c hc => ?_, fun k hk0 hk => ?_, ?_, ?_⟩
  · obtain ⟨a, b⟩ := repL_mem hc
    rcases Nat.lt_or_ge c cs.length with h | h
    · exact h
    · rw [h2 c h a] at b; omega
  · have := List.pairwise_iff_getElem.1 (repL_up (s := s) 8) (k - 1) k (by omega) hk (by omega)
    rw [List.getD_eq_getElem?_getD, List.getD_eq_getElem?_getD, List.getElem?_eq_getElem (show k - 1 < _ by omega), List.getElem?_eq_getElem hk]
    exact this
  · obtain ⟨i, hi, h⟩ := h4
    intro e
    have := repL_count (s := s) i (k := 8)
    rw [e, if_pos (by omega)] at this
    simp at this
    omega
  · rw [repL_sz h8, hDD 8 hl (Nat.le_refl _)]
    exact h3
theorem rowAV_rep (n c : Nat) : rowAV (List.replicate n c) = List.replicate n [.i .i64 (c : Int)] := by simp [rowAV]
theorem take_run (p q : Nat → Int) (hp : ∀ i, i < 8 → 0 ≤ p i ∧ p i ≤ 12) (hq : ∀ i, i < 8 → 0 ≤ q i ∧ q i ≤ 12) (t3 : Int) (t7 : List (List AV)) (m8 : List (AV × AV)) (da db : Int) (cs : List (List AV)) :
    ∃ a, r45aa t3 t7 (p 0) (p 1) (p 2) (p 3) (p 4) (p 5) (p 6) (p 7) m8 da db cs [] 0 (row8 q) = some (.x0 (rowAV (repL p 8)) a (row8 fun i => q i - p i)) := by
  have run := run_for (S := Unit) (step := fun x : S45aa => stp45aa t3 t7 (p 0) (p 1) (p 2) (p 3) (p 4) (p 5) (p 6) (p 7) m8 da db cs x.t10 x.t31 x.m14) 8 (fun j _ => (⟨rowAV (repL p j), (j : Int), row8 fun i => if i < j then q i - p i else q i⟩ : S45aa)) (fun _ _ => True) (fun _ _ (y : T45aa) => ∃ a, y = .x0 (rowAV (repL p 8)) a (row8 fun i => q i - p i))
    (fun j _ hj _ => by
      left
      refine ⟨(), ?_, trivial, fun y hy => hy⟩
      have hd : decide ((j : Int) < 8) = true := decide_eq_true (by omega)
      have hi : intsOf IntKind.i64 [AV.i IntKind.i64 (p 0), AV.i IntKind.i64 (p 1), AV.i IntKind.i64 (p 2), AV.i IntKind.i64 (p 3), AV.i IntKind.i64 (p 4), AV.i IntKind.i64 (p 5), AV.i IntKind.i64 (p 6), AV.i IntKind.i64 (p 7)] = true := rfl
      have hg : toI ([AV.i IntKind.i64 (p 0), AV.i IntKind.i64 (p 1), AV.i IntKind.i64 (p 2), AV.i IntKind.i64 (p 3), AV.i IntKind.i64 (p 4), AV.i IntKind.i64 (p 5), AV.i IntKind.i64 (p 6), AV.i IntKind.i64 (p 7)].getD ((j : Nat) : Int).toNat AV.u) = p j := by
        have := q_get p hj
        rw [Nat.zero_add, Nat.mul_one] at this
        exact this
      have h1 := hp j hj
      have h2 := hq j hj
      have hlen : ((rowAV (repL p j)).length : Int) ≤ 96 := by
        rw [rowAV_length, repL_len fun i hi => (hp i (by omega)).1]
        have key : ∀ k, k ≤ 8 → TT p k ≤ 12 * (k : Int) := by
          intro k
          induction k with
          | zero => intro _; show (0 : Int) ≤ _; omega
          | succ k ih =>
            intro hk
            have := ih (by omega)
            have := hp k (by omega)
            show TT p k + p k ≤ _
            omega
        have := key j (by omega)
        omega
      obtain ⟨v1, v2⟩ := rep_val (j : Int) (n := (p j).toNat) (by omega)
      rw [show (((p j).toNat : Nat) : Int) = p j by omega] at v1 v2
      have l1 : ((rowAV (repL p j)).length + (List.replicate (p j).toNat [AV.i IntKind.i64 (j : Int)]).length).ble 9223372036854775807 = true := by
        rw [List.length_replicate, Nat.ble_eq]; omega
      have l2 : (((rowAV (repL p j)).length + (List.replicate (p j).toNat [AV.i IntKind.i64 (j : Int)]).length) * 8).ble 140737488355328 = true := by
        rw [List.length_replicate, Nat.ble_eq]; omega
      have l3 : rowAV (repL p j) ++ List.replicate (p j).toNat [AV.i IntKind.i64 (j : Int)] = rowAV (repL p (j + 1)) := by
        show _ = rowAV (repL p j ++ List.replicate (p j).toNat j)
        rw [rowAV_app, rowAV_rep]
      have hx : toI ((([row8 fun i => if i < j then q i - p i else q i] : List (List AV)).getD 0 []).getD (0 + ((j : Nat) : Int).toNat * 1) AV.u) = q j := by
        rw [Nat.zero_add, Nat.mul_one, Int.toNat_natCast]
        show fI (row8 fun i => if i < j then q i - p i else q i) j = q j
        rw [row8_get hj, if_neg (by omega)]
      have hs : setCs (([row8 fun i => if i < j then q i - p i else q i] : List (List AV)).getD 0 []) (0 + ((j : Nat) : Int).toNat * 1) [AV.i IntKind.i64 (IntKind.i64.wrap (q j - p j))] = row8 fun i => if i < j + 1 then q i - p i else q i := by
        rw [Nat.zero_add, Nat.mul_one, Int.toNat_natCast, wrap64 (by omega) (by omega)]
        show (row8 fun i => if i < j then q i - p i else q i).set j (.i .i64 (q j - p j)) = _
        rw [row8_set hj]
        refine row8_congr fun i _ => ?_
        unfold upd
        show (if i = j then q j - p j else if i < j then q i - p i else q i) = if i < j + 1 then q i - p i else q i
        by_cases h : i = j
        · subst h
          rw [if_pos rfl, if_pos (show i < i + 1 by omega)]
        · rw [if_neg h]
          by_cases h' : i < j
          · rw [if_pos h', if_pos (show i < j + 1 by omega)]
          · rw [if_neg h', if_neg (show ¬ i < j + 1 by omega)]
      unfold stp45aa
      dsimp only
      rw [hd, hi, inb_true hj, show [AV.i IntKind.i64 (p 0), AV.i IntKind.i64 (p 1), AV.i IntKind.i64 (p 2), AV.i IntKind.i64 (p 3), AV.i IntKind.i64 (p 4), AV.i IntKind.i64 (p 5), AV.i IntKind.i64 (p 6), AV.i IntKind.i64 (p 7)].length = 8 from rfl, inb_true hj, cts104 hj, hg, v1, v2, l1, l2, l3, hx, hs, wrap_succ (by omega)]
      rfl)
    (fun _ _ => by
      refine ⟨.x0 (rowAV (repL p 8)) 8 (row8 fun i => q i - p i), ?_, _, rfl⟩
      have e : (row8 fun i => if i < 8 then q i - p i else q i) = row8 fun i => q i - p i := row8_congr fun i hi => if_pos hi
      unfold stp45aa
      dsimp only
      rw [e]
      rfl)
    0 () (by omega) trivial
  obtain ⟨y, h1, a, h2⟩ := run
  refine ⟨a, ?_⟩
  rw [← h2, ← h1]
  unfold r45aa
  congr 2
structure PlanP (da db : Int) (cs : List (List AV)) (rs : List (List Nat)) : Prop where
  row : ∀ i, i < rs.length → RowP da db cs (rs.getD i [])
  cnt : ∀ j, j < cs.length → cntR rs j = mn cs j
  len : rs.length = mq da db cs (mn cs)
theorem plan_run (hF : RFine da db cs) : ∃ rs, PlanP da db cs rs ∧ rs.length ≤ 12 ∧ ∃ (a : Nat → Int) (m' : Mp), r45a 0 da db cs [] (mw cs 0) (mw cs 1) (mw cs 2) (mw cs 3) (mw cs 4) (mw cs 5) (mw cs 6) (mw cs 7) [] = some (.x0 (plAV rs) (a 0) (a 1) (a 2) (a 3) (a 4) (a 5) (a 6) (a 7) m') := by
  have hl := hF.l
  have hs12 := hF.s
  have hmn : ∀ i, i < cs.length → 0 ≤ mn cs i ∧ mn cs i ≤ 12 := fun i hi => by
    have := hF.c i hi
    unfold okCut at this
    omega
  have hsm : ∀ k, k ≤ cs.length → TT (mn cs) k = smn cs k := by
    intro k
    induction k with
    | zero => intro _; rfl
    | succ k ih => intro hk; show TT (mn cs) k + mn cs k = smn cs k + mn cs k; rw [ih (by omega)]
  have hTT : TT (mw cs) cs.length ≤ 12 := by
    rw [TT_congr (q := mw cs) (r := mn cs) fun i hi => if_pos hi, hsm _ (Nat.le_refl _)]
    exact hs12
  have hv0 : VOK cs (mw cs) := by
    refine ⟨fun i hi => ?_, fun i h1 h2 => if_neg (by omega), hTT⟩
    unfold mw
    split
    · rename_i h; exact hmn i h
    · omega
  have run := run_while (S := List (List Nat) × (Nat → Int) × Mp) (step := fun x : S45a => stp45a 0 da db cs x.t7 x.m14_0 x.m14_1 x.m14_2 x.m14_3 x.m14_4 x.m14_5 x.m14_6 x.m14_7 x.m8) (fun s => mq da db cs s.2.1) (fun s => (⟨plAV s.1, s.2.1 0, s.2.1 1, s.2.1 2, s.2.1 3, s.2.1 4, s.2.1 5, s.2.1 6, s.2.1 7, s.2.2⟩ : S45a))
    (fun s => VOK cs s.2.1 ∧ MOK8 da db cs s.2.2 ∧ (∀ i, i < s.1.length → RowP da db cs (s.1.getD i [])) ∧ (∀ j, j < cs.length → cntR s.1 j + s.2.1 j = mn cs j) ∧ s.1.length + mq da db cs s.2.1 = mq da db cs (mn cs))
    (fun _ y => ∃ rs, PlanP da db cs rs ∧ ∃ (a : Nat → Int) (m' : Mp), y = .x0 (plAV rs) (a 0) (a 1) (a 2) (a 3) (a 4) (a 5) (a 6) (a 7) m')
    (fun s hs => by
      obtain ⟨rs, q, m⟩ := s
      obtain ⟨i1, i2, i3, i4, i5⟩ := hs
      dsimp only at i1 i2 i3 i4 i5 ⊢
      have hmq12 : mq da db cs (mn cs) ≤ 12 := by
        have := (mq_ok hF (q := mn cs) fun i hi => (hmn i hi).1).2.2
        rw [hsm _ (Nat.le_refl _)] at this
        omega
      by_cases hz : ∃ i, i < cs.length ∧ 0 < q i
      · left
        obtain ⟨k, hk, hqk⟩ := hz
        have hne : (!(q 0 == 0 && (q 1 == 0 && (q 2 == 0 && (q 3 == 0 && (q 4 == 0 && (q 5 == 0 && (q 6 == 0 && q 7 == 0)))))))) = true := by
          rw [Bool.not_eq_true', ← Bool.not_eq_true]
          intro h
          simp only [Bool.and_eq_true, beq_iff_eq] at h
          obtain ⟨a0, a1, a2, a3, a4, a5, a6, a7⟩ := h
          have k8 : k < 8 := by omega
          have e : k = 0 ∨ k = 1 ∨ k = 2 ∨ k = 3 ∨ k = 4 ∨ k = 5 ∨ k = 6 ∨ k = 7 := by omega
          rcases e with rfl | rfl | rfl | rfl | rfl | rfl | rfl | rfl <;> omega
        have hT := i1.t
        obtain ⟨g1, g2, g3⟩ := lqE_ok hF q m i1 (by omega) i2
        have g1 : LQ.G da db cs da db cs (q 0) (q 1) (q 2) (q 3) (q 4) (q 5) (q 6) (q 7) m = true := g1
        have g3 : MOK8 da db cs (LQ.F da db cs da db cs (q 0) (q 1) (q 2) (q 3) (q 4) (q 5) (q 6) (q 7) m).2 := g3
        have g2 : Good da db cs q (LQ.F da db cs da db cs (q 0) (q 1) (q 2) (q 3) (q 4) (q 5) (q 6) (q 7) m).1 := g2
        obtain ⟨a1, a2, a3, a4, a5⟩ := g2.p ⟨k, hk, hqk⟩
        generalize hX : LQ.F da db cs da db cs (q 0) (q 1) (q 2) (q 3) (q 4) (q 5) (q 6) (q 7) m = X at *
        have hpb : ∀ i, i < 8 → 0 ≤ X.1 i ∧ X.1 i ≤ 12 := fun i hi => by
          rcases Nat.lt_or_ge i cs.length with h | h
          · have := a1 i h
            have := i1.b i hi
            omega
          · rw [a2 i h hi]; omega
        obtain ⟨a, ht⟩ := take_run X.1 q hpb i1.b 0 (plAV rs) X.2 da db cs
        have ht : r45aa 0 (plAV rs) (X.1 0) (X.1 1) (X.1 2) (X.1 3) (X.1 4) (X.1 5) (X.1 6) (X.1 7) X.2 da db cs [] 0 [AV.i IntKind.i64 (q 0), AV.i IntKind.i64 (q 1), AV.i IntKind.i64 (q 2), AV.i IntKind.i64 (q 3), AV.i IntKind.i64 (q 4), AV.i IntKind.i64 (q 5), AV.i IntKind.i64 (q 6), AV.i IntKind.i64 (q 7)] = _ := ht
        have hrow := repL_RowP hF (fun i hi => (a1 i hi).1) a2 a3 a4
        have happ : plAV rs ++ [[AV.rs 3 (rowAV (repL X.1 8))]] = plAV (rs ++ [repL X.1 8]) := by
          unfold plAV
          rw [List.map_append]; rfl
        have hl1 : ∀ z : List AV, ((plAV rs).length + [z].length).ble 9223372036854775807 = true := fun z => by
          rw [plAV_len, Nat.ble_eq]; show rs.length + 1 ≤ _; omega
        have hl2 : ∀ z : List AV, (((plAV rs).length + [z].length) * 24).ble 140737488355328 = true := fun z => by
          rw [plAV_len, Nat.ble_eq]; show (rs.length + 1) * 24 ≤ _; omega
        refine ⟨(rs ++ [repL X.1 8], fun i => q i - X.1 i, X.2), ?_, ⟨⟨fun i hi => ?_, fun i h1 h2 => ?_, ?_⟩, g3, fun i hi => ?_, fun j hj => ?_, ?_⟩, ?_, fun y hy => hy⟩
        · unfold stp45a
          dsimp only
          rw [hne, hX, g1]
          unfold i45aa_0 v45aa_0_t10 v45aa_0_m14
          rw [ht]
          dsimp only
          rw [hl1, hl2, happ]
          rfl
        · have h1 := i1.b i hi
          have h2 := hpb i hi
          show 0 ≤ q i - X.1 i ∧ q i - X.1 i ≤ 12
          rcases Nat.lt_or_ge i cs.length with h | h
          · have := a1 i h
            omega
          · have e1 := a2 i h hi
            have e2 := i1.z i h hi
            omega
        · have e1 := a2 i h1 h2
          have e2 := i1.z i h1 h2
          show q i - X.1 i = 0
          omega
        · have e := TT_sub (q := q) (r := X.1) (n := cs.length)
          have := (TT_nn (q := X.1) (n := cs.length) fun i hi => (a1 i hi).1).1
          show TT (fun i => q i - X.1 i) cs.length ≤ 12
          omega
        · rcases Nat.lt_or_ge i rs.length with h | h
          · rw [List.getD_eq_getElem?_getD, List.getElem?_append_left h, ← List.getD_eq_getElem?_getD]
            exact i3 i h
          · have hi : i < (rs ++ [repL X.1 8]).length := hi
            rw [List.length_append, List.length_singleton] at hi
            have e : i = rs.length := by omega
            subst e
            rw [List.getD_eq_getElem?_getD, List.getElem?_append_right (Nat.le_refl _), Nat.sub_self]
            exact hrow
        · show cntR (rs ++ [repL X.1 8]) j + (q j - X.1 j) = mn cs j
          rw [cntR_snoc, repL_count, if_pos (by omega)]
          have := i4 j hj
          have := a1 j hj
          omega
        · show (rs ++ [repL X.1 8]).length + mq da db cs (fun i => q i - X.1 i) = _
          rw [List.length_append, List.length_singleton]
          omega
        · show mq da db cs (fun i => q i - X.1 i) < mq da db cs q
          omega
      · right
        have hq0 : ∀ i, i < cs.length → q i = 0 := fun i hi => by
          have := (i1.b i (by omega)).1
          rcases Int.lt_or_le 0 (q i) with h | h
          · exact absurd ⟨i, hi, h⟩ hz
          · omega
        have hq8 : ∀ i, i < 8 → q i = 0 := fun i hi => by
          rcases Nat.lt_or_ge i cs.length with h | h
          · exact hq0 i h
          · exact i1.z i h hi
        have hm0 := mq_zero hF hq0
        refine ⟨.x0 (plAV rs) (q 0) (q 1) (q 2) (q 3) (q 4) (q 5) (q 6) (q 7) m, ?_, rs, ⟨i3, fun j hj => ?_, by omega⟩, q, m, rfl⟩
        · unfold stp45a
          rw [hq8 0 (by omega), hq8 1 (by omega), hq8 2 (by omega), hq8 3 (by omega), hq8 4 (by omega), hq8 5 (by omega), hq8 6 (by omega), hq8 7 (by omega)]
          rfl
        · have := i4 j hj
          have := hq0 j hj
          omega)
    (([] : List (List Nat)), mw cs, ([] : Mp)) ⟨hv0, fun q v _ h => (by cases h), fun i hi => (by cases hi), fun j hj => by
      show (0 : Int) + mw cs j = mn cs j
      unfold mw
      rw [if_pos hj, Int.zero_add], by
      show 0 + mq da db cs (mw cs) = _
      rw [Nat.zero_add]
      exact mq_congr hF (fun i hi => (hv0.b i (by omega)).1) fun i hi => if_pos hi⟩
  obtain ⟨y, h1, rs, h2, a, m', h3⟩ := run
  refine ⟨rs, h2, ?_, a, m', by rw [← h3]; exact h1⟩
  have := (mq_ok hF (q := mn cs) fun i hi => (hmn i hi).1).2.2
  rw [hsm _ (Nat.le_refl _)] at this
  have := h2.len
  omega
theorem plan_val (da db : Int) (cs : List (List AV)) : g45 da db cs = true ∧ w45_1 da db cs = w24_0 da db cs ∧ (w24_0 da db cs ≠ 0 → w45_0 da db cs = []) ∧ (w24_0 da db cs = 0 → RFine da db cs ∧ ∃ rs, PlanP da db cs rs ∧ rs.length ≤ 12 ∧ w45_0 da db cs = plAV rs) := by
  obtain ⟨r1, _, _, r4⟩ := rods_eq da db cs
  by_cases h : w24_0 da db cs = 0
  · have hF := r4 h
    obtain ⟨rs, p1, p2, a, m', p3⟩ := plan_run hF
    obtain ⟨v0, v1, v2, v3, v4, v5, v6, v7, v8⟩ := wanted_val (da := da) (db := db) hF.l
    have e : (w24_0 da db cs != 0) = false := by rw [h]; rfl
    have hw : w45_0 da db cs = plAV rs ∧ g45 da db cs = true ∧ w45_1 da db cs = 0 := by
      unfold w45_0 g45 w45_1 t45
      rw [r1, e, v0, v1, v2, v3, v4, v5, v6, v7, v8]
      unfold i45a_0 v45a_0_t7
      rw [p3]
      exact ⟨rfl, rfl, rfl⟩
    exact ⟨hw.2.1, by rw [hw.2.2, h], fun h' => absurd h h', fun _ => ⟨hF, rs, p1, p2, hw.1⟩⟩
  · have e : (w24_0 da db cs != 0) = true := by rw [bne_iff_ne]; exact h
    have hw : w45_0 da db cs = [] ∧ g45 da db cs = true ∧ w45_1 da db cs = w24_0 da db cs := by
      unfold w45_0 g45 w45_1 t45
      rw [r1, e]
      exact ⟨rfl, rfl, rfl⟩
    exact ⟨hw.2.1, hw.2.2, fun _ => hw.1, fun h' => absurd h' h⟩
end
end Go.Proofs.Ytkdiaipaajgcbaa

set_option maxRecDepth 100000
set_option maxHeartbeats 0
set_option linter.unusedVariables false
namespace Go.Proofs.Ytkdiaipaajgcbaa
open Go Go.Ev
structure S80aa where
  t7 : Int
  t8 : Int
inductive T80aa where
  | x0 (t7 : Int) (t8 : Int)
structure S80a where
  t6 : Int
  m5 : List (List AV)
inductive T80a where
  | x0 (t6 : Int) (m5 : List (List AV))
end Go.Proofs.Ytkdiaipaajgcbaa
set_option maxRecDepth 100000
set_option maxHeartbeats 0
set_option linter.unusedVariables false
namespace Go.Proofs.Ytkdiaipaajgcbaa
open Go Go.Ev
structure S21a where
  t3 : Int
  t4 : Int
inductive T21a where
  | x0 (t3 : Int) (t4 : Int)
end Go.Proofs.Ytkdiaipaajgcbaa
set_option maxRecDepth 100000
set_option maxHeartbeats 0
set_option linter.unusedVariables false
namespace Go.Proofs.Ytkdiaipaajgcbaa
open Go Go.Ev
structure S79aa where
  t3 : List (List AV)
  t5 : Int
inductive T79aa where
  | x0 (t3 : List (List AV)) (t5 : Int)
structure S79a where
  t3 : List (List AV)
  t4 : Int
inductive T79a where
  | x0 (t3 : List (List AV)) (t4 : Int)
end Go.Proofs.Ytkdiaipaajgcbaa
set_option maxRecDepth 100000
set_option linter.unusedVariables false
namespace Go.Proofs.Ytkdiaipaajgcbaa
open Go Go.Ev
def vv (ws : List (List AV)) (j : Nat) : Int := fI (ws.getD j []) 0
end Go.Proofs.Ytkdiaipaajgcbaa

set_option maxRecDepth 100000
set_option linter.unusedVariables false
namespace Go.Proofs.Ytkdiaipaajgcbaa
open Go Go.Ev
def bndV (sum most : Int) : Int := if sum = 0 then 0 else (sum + most - 1).tdiv most
end Go.Proofs.Ytkdiaipaajgcbaa

set_option maxRecDepth 100000
set_option linter.unusedVariables false
namespace Go.Proofs.Ytkdiaipaajgcbaa
open Go Go.Ev
def en (db : Int) (cs ws : List (List AV)) : List (Int × Int × Int) := (List.range cs.length).map fun j => (ln cs j + db, vv ws j, mn cs j)
theorem en_len (db : Int) (cs ws : List (List AV)) : (en db cs ws).length = cs.length := by simp [en]
theorem en_drop {db : Int} {cs ws : List (List AV)} {j : Nat} (h : j < cs.length) : (en db cs ws).drop j = (ln cs j + db, vv ws j, mn cs j) :: (en db cs ws).drop (j + 1) := by
  rw [drop_cons (0, 0, 0) (by rw [en_len]; exact h)]
  congr 1
  simp [en, List.getD_eq_getElem?_getD, h]
theorem en_end (db : Int) (cs ws : List (List AV)) : (en db cs ws).drop cs.length = [] := List.drop_of_length_le (by rw [en_len]; exact Nat.le_refl _)
def wX (ws : List (List AV)) (X : List AV) : Nat → Int
  | 0 => 0
  | n + 1 => wX ws X n + vv ws n * fI X n
theorem wX_congr {ws : List (List AV)} {X Y : List AV} : ∀ {n : Nat}, (∀ i, i < n → fI X i = fI Y i) → wX ws X n = wX ws Y n
  | 0, _ => rfl
  | n + 1, h => by
    show wX ws X n + vv ws n * fI X n = wX ws Y n + vv ws n * fI Y n
    rw [wX_congr (n := n) (fun i hi => h i (by omega)), h n (by omega)]
section
variable {da db : Int} {cs ws : List (List AV)} {ms : List AV}
def ClaimF (db : Int) (cs ws : List (List AV)) (j : Nat) (room : Int) (X : List AV) (l : List (List AV)) : Prop :=
  (∀ e, e ∈ l → ∃ Y s, e = enc8 Y ∧ (∀ i, i < j → fI Y i = fI X i) ∧ (∀ i, j ≤ i → i < cs.length → 0 ≤ fI Y i ∧ fI Y i ≤ 12) ∧ KV ((en db cs ws).drop j) room s ∧ wX ws Y cs.length = wX ws X j + s) ∧
  ∀ s, KV ((en db cs ws).drop j) room s → ∃ e, e ∈ l ∧ ∃ Y, e = enc8 Y ∧ wX ws Y cs.length = wX ws X j + s
def ClaimT (db : Int) (cs ws : List (List AV)) (j : Nat) (room : Int) (X : List AV) (l : List (List AV)) : Prop :=
  (∀ e, e ∈ l → ∃ Y k s, e = enc8 Y ∧ (∀ i, i < j → fI Y i = fI X i) ∧ (∀ i, j ≤ i → i < cs.length → 0 ≤ fI Y i ∧ fI Y i ≤ 12) ∧ fI X j ≤ k ∧ k ≤ mn cs j ∧ KV ((en db cs ws).drop (j + 1)) (room - (k - fI X j) * (ln cs j + db)) s ∧ wX ws Y cs.length = wX ws X j + k * vv ws j + s) ∧
  ∀ k s, fI X j ≤ k → k ≤ mn cs j → KV ((en db cs ws).drop (j + 1)) (room - (k - fI X j) * (ln cs j + db)) s → ∃ e, e ∈ l ∧ ∃ Y, e = enc8 Y ∧ wX ws Y cs.length = wX ws X j + k * vv ws j + s
theorem en_nonneg (hF : RFine da db cs) (j : Nat) : ∀ e, e ∈ (en db cs ws).drop j → 0 ≤ e.1 := by
  intro e he
  obtain ⟨i, hi, rfl⟩ := List.mem_map.1 (List.mem_of_mem_drop he)
  have := hF.c i (by simpa using hi)
  have := hF.b
  unfold okCut at *
  show 0 ≤ ln cs i + db
  omega
theorem PT_claim (hF : RFine da db cs) (hms : ∀ j, j < cs.length → fI ms j = mn cs j) {b : Bool} {j : Nat} {room : Int} {X X' : List AV} {l : List (List AV)} (h : PT db cs ms b j room X l X') :
    X.length = 8 → j ≤ cs.length → -200000 ≤ room → room ≤ 200000 → (b = false → 0 ≤ room → ClaimF db cs ws j room X l) ∧ (b = true → j < cs.length → 0 ≤ fI X j → ClaimT db cs ws j room X l) := by
  have hN := hF.l
  induction h with
  | @leaf room X =>
    intro hX hj r1 r2
    refine ⟨fun _ hr => ⟨fun e he => ?_, fun s hs => ?_⟩, fun h => by cases h⟩
    · rw [List.mem_singleton] at he
      refine ⟨X, 0, he, fun _ _ => rfl, fun i h1 h2 => by omega, ?_, by omega⟩
      rw [en_end]
      exact ⟨hr, rfl⟩
    · rw [en_end] at hs
      obtain ⟨_, rfl⟩ := hs
      exact ⟨enc8 X, by simp, X, rfl, by omega⟩
  | @node j room X X' l h1 h2 h3 ih =>
    intro hX hj r1 r2
    refine ⟨fun _ hr => ?_, fun h => by cases h⟩
    have hx0 : fI (setCs X j [.i .i64 0]) j = 0 := by rw [fI_set (by omega), if_pos rfl]
    obtain ⟨c1, c2⟩ := (ih (by rw [set_len]; exact hX) hj r1 r2).2 rfl h1 (by rw [hx0]; exact Int.le_refl _)
    have hag : ∀ i, i < j → fI (setCs X j [.i .i64 0]) i = fI X i := fun i hi => by rw [fI_set (by omega), if_neg (by omega)]
    have hw : wX ws (setCs X j [.i .i64 0]) j = wX ws X j := wX_congr hag
    rw [hx0] at c1 c2
    refine ⟨fun e he => ?_, fun s hs => ?_⟩
    · obtain ⟨Y, k, s, e1, e2, e3, e4, e5, e6, e7⟩ := c1 e he
      refine ⟨Y, k * vv ws j + s, e1, fun i hi => (e2 i hi).trans (hag i hi), e3, ?_, by rw [e7, hw, Int.add_assoc]⟩
      rw [en_drop h1]
      refine ⟨k.toNat, by omega, ?_⟩
      have : ((k.toNat : Nat) : Int) = k := by omega
      rw [this, show k * vv ws j + s - k * vv ws j = s by omega]
      rw [Int.sub_zero] at e6
      exact e6
    · rw [en_drop h1] at hs
      obtain ⟨k, hk, hs⟩ := hs
      obtain ⟨e, he, Y, e1, e2⟩ := c2 (k : Int) (s - (k : Int) * vv ws j) (by omega) hk (by rw [Int.sub_zero]; exact hs)
      exact ⟨e, he, Y, e1, by rw [e2, hw]; omega⟩
  | @stop j room X h =>
    intro hX hj r1 r2
    refine ⟨fun h => (by cases h), fun _ hjN hx => ⟨fun e he => (by cases he), fun k s hk1 hk2 hs => ?_⟩⟩
    exfalso
    have hr := KV_room (en_nonneg (ws := ws) hF (j + 1)) hs
    have hc := hF.c j hjN
    have hb := hF.b
    unfold okCut at hc
    have hz : 0 ≤ (k - fI X j) * (ln cs j + db) := Int.mul_nonneg (by omega) (by omega)
    rw [hms j hjN, decide_eq_true (show fI X j ≤ mn cs j by omega), decide_eq_true (show room ≥ 0 by omega)] at h
    cases h
  | @step j room X X1 X2 l1 l2 h1 h2 h3 h4 ih1 ih2 =>
    intro hX hj r1 r2
    refine ⟨fun h => (by cases h), fun _ hjN hx => ?_⟩
    have hc := hF.c j hjN
    have hb := hF.b
    unfold okCut at hc
    rw [hms j hjN] at h1
    obtain ⟨k1, k2⟩ := PT_keep h3 hX (by omega) (fun h => by cases h)
    have hxj : fI X1 j = fI X j := k2 j (by omega)
    have hwk : IntKind.i64.wrap (fI X1 j + 1) = fI X j + 1 := by rw [hxj]; exact wrap64 (by omega) (by omega)
    have hwr : IntKind.i64.wrap (room - wid db cs j) = room - (ln cs j + db) := by rw [wid_eq hF hjN]; exact wrap64 (by omega) (by omega)
    rw [hwk, hwr] at ih2
    obtain ⟨a1, a2⟩ := (ih1 hX (by omega) r1 r2).1 rfl h2
    have hx3 : fI (setCs X1 j [.i .i64 (fI X j + 1)]) j = fI X j + 1 := by rw [fI_set (by omega), if_pos rfl]
    obtain ⟨b1, b2⟩ := (ih2 (by rw [set_len]; exact k1) hj (by omega) (by omega)).2 rfl hjN (by rw [hx3]; omega)
    have hag : ∀ i, i < j → fI (setCs X1 j [.i .i64 (fI X j + 1)]) i = fI X i := fun i hi => by rw [fI_set (by omega), if_neg (by omega), k2 i (by omega)]
    have hw : wX ws (setCs X1 j [.i .i64 (fI X j + 1)]) j = wX ws X j := wX_congr hag
    rw [hx3, hw] at b1 b2
    have hmul : ∀ k : Int, room - (ln cs j + db) - (k - (fI X j + 1)) * (ln cs j + db) = room - (k - fI X j) * (ln cs j + db) := fun k => by
      rw [show k - fI X j = (k - (fI X j + 1)) + 1 by omega, Int.add_mul, Int.one_mul]
      omega
    have hsx : wX ws X (j + 1) = wX ws X j + fI X j * vv ws j := by
      show wX ws X j + vv ws j * fI X j = _
      rw [Int.mul_comm]
    refine ⟨fun e he => ?_, fun k s hk1 hk2 hs => ?_⟩
    · rcases List.mem_append.1 he with he | he
      · obtain ⟨Y, s, e1, e2, e3, e4, e5⟩ := a1 e he
        refine ⟨Y, fI X j, s, e1, fun i hi => e2 i (by omega), fun i h1' h2' => ?_, Int.le_refl _, h1, ?_, by rw [e5, hsx]⟩
        · rcases Nat.eq_or_lt_of_le h1' with rfl | h'
          · rw [e2 j (by omega)]; omega
          · exact e3 i h' h2'
        · rw [Int.sub_self, Int.zero_mul, Int.sub_zero]
          exact e4
      · obtain ⟨Y, k, s, e1, e2, e3, e4, e5, e6, e7⟩ := b1 e he
        rw [hmul] at e6
        exact ⟨Y, k, s, e1, fun i hi => (e2 i hi).trans (hag i hi), e3, by omega, e5, e6, e7⟩
    · rcases Int.lt_or_eq_of_le hk1 with hlt | heq
      · obtain ⟨e, he, Y, e1, e2⟩ := b2 k s (by omega) hk2 (by rw [hmul]; exact hs)
        exact ⟨e, List.mem_append.2 (.inr he), Y, e1, e2⟩
      · subst heq
        rw [Int.sub_self, Int.zero_mul, Int.sub_zero] at hs
        obtain ⟨e, he, Y, e1, e2⟩ := a2 s hs
        exact ⟨e, List.mem_append.2 (.inl he), Y, e1, by rw [e2, hsx]⟩
theorem PT_ex (hF : RFine da db cs) (hms : ∀ j, j < cs.length → fI ms j = mn cs j) : ∀ (d j : Nat), cs.length - j = d → j ≤ cs.length → ∀ (room : Int) (X : List AV), X.length = 8 → ∃ l X', PT db cs ms false j room X l X'
  | 0, j, hd, hj, room, X, hX => by
    obtain rfl : j = cs.length := by omega
    exact ⟨_, _, .leaf⟩
  | d + 1, j, hd, hj, room, X, hX => by
    have hN := hF.l
    have hjN : j < cs.length := by omega
    have hc := hF.c j hjN
    unfold okCut at hc
    have inner : ∀ (t : Nat) (room : Int) (X : List AV), X.length = 8 → 0 ≤ fI X j → mn cs j + 1 - fI X j ≤ (t : Int) → ∃ l X', PT db cs ms true j room X l X' := by
      intro t
      induction t with
      | zero =>
        intro room X hX hx ht
        refine ⟨[], X, .stop ?_⟩
        rw [hms j hjN, decide_eq_false (by omega)]
        rfl
      | succ t ih =>
        intro room X hX hx ht
        cases hcond : (decide (fI X j ≤ fI ms j) && decide (room ≥ 0)) with
        | false => exact ⟨[], X, .stop hcond⟩
        | true =>
          rw [Bool.and_eq_true, decide_eq_true_eq, decide_eq_true_eq] at hcond
          obtain ⟨l1, X1, p1⟩ := PT_ex hF hms d (j + 1) (by omega) (by omega) room X hX
          obtain ⟨k1, k2⟩ := PT_keep p1 hX (by omega) (fun h => by cases h)
          have hxj : fI X1 j = fI X j := k2 j (by omega)
          have hle := hcond.1
          rw [hms j hjN] at hle
          have hwk : IntKind.i64.wrap (fI X1 j + 1) = fI X j + 1 := by rw [hxj]; exact wrap64 (by omega) (by omega)
          have hx3 : fI (setCs X1 j [.i .i64 (IntKind.i64.wrap (fI X1 j + 1))]) j = fI X j + 1 := by rw [fI_set (by omega), if_pos rfl, hwk]
          obtain ⟨l2, X2, p2⟩ := ih (IntKind.i64.wrap (room - wid db cs j)) (setCs X1 j [.i .i64 (IntKind.i64.wrap (fI X1 j + 1))]) (by rw [set_len]; exact k1) (by rw [hx3]; omega) (by rw [hx3]; omega)
          exact ⟨l1 ++ l2, X2, .step hcond.1 hcond.2 p1 p2⟩
    obtain ⟨l, X', p⟩ := inner 14 room (setCs X j [.i .i64 0]) (by rw [set_len]; exact hX) (by rw [fI_set (by omega), if_pos rfl]; exact Int.le_refl _) (by rw [fI_set (by omega), if_pos rfl]; omega)
    exact ⟨l, _, .node hjN (by omega) p⟩
end
end Go.Proofs.Ytkdiaipaajgcbaa

set_option maxRecDepth 100000
set_option maxHeartbeats 0
set_option linter.unusedVariables false
namespace Go.Proofs.Ytkdiaipaajgcbaa
open Go Go.Ev

noncomputable def c82 : Code := match Try.f42.body with | some c => c | _ => .skip
noncomputable def lp82a : Code := loopAt c82 [true, true, false, true, false]
noncomputable def s82a (q0 q1 q2 q3 q4 q5 q6 q7 t3 t4 : Int) (ws : List (List AV)) (t8 t9 : Int) : St :=
  { t := [(2, .rp [.int .i64, .int .i64, .int .i64, .int .i64, .int .i64, .int .i64, .int .i64, .int .i64] [.i .i64 q0, .i .i64 q1, .i .i64 q2, .i .i64 q3, .i .i64 q4, .i .i64 q5, .i .i64 q6, .i .i64 q7] 0), (3, .i .i64 t3), (4, .i .i64 t4), (7, .rs 3 ws), (8, .i .i64 t8), (9, .i .i64 t9)], m := [], nx := 0, nt := 23 }
structure S82a where
  t4 : Int
  t9 : Int
inductive T82a where
  | x0 (t4 : Int) (t9 : Int)
noncomputable def stp82a (q0 q1 q2 q3 q4 q5 q6 q7 t3 : Int) (ws : List (List AV)) (t8 t4 t9 : Int) : Lp S82a T82a :=
  cond (decide (t9 < t8)) (cond (inb t9 ws.length) (cond (inb t9 8) (cond (ctsAt [CT.int IntKind.i64, CT.int IntKind.i64, CT.int IntKind.i64, CT.int IntKind.i64, CT.int IntKind.i64, CT.int IntKind.i64, CT.int IntKind.i64, CT.int IntKind.i64] (0 + t9.toNat * 1) (cts Try.prog 3)) (.go ⟨IntKind.i64.wrap (t4 + IntKind.i64.wrap (fI (ws.getD t9.toNat []) 0 * toI ([AV.i IntKind.i64 q0, AV.i IntKind.i64 q1, AV.i IntKind.i64 q2, AV.i IntKind.i64 q3, AV.i IntKind.i64 q4, AV.i IntKind.i64 q5, AV.i IntKind.i64 q6, AV.i IntKind.i64 q7].getD (0 + t9.toNat * 1) AV.u))), IntKind.i64.wrap (t9 + 1)⟩) (.bad)) (.bad)) (.bad)) (.out (.x0 t4 t9))
noncomputable def o82a_0 (q0 q1 q2 q3 q4 q5 q6 q7 t3 : Int) (ws : List (List AV)) (t8 t4 t9 : Int) : St :=
  { t := [(2, .rp [.int .i64, .int .i64, .int .i64, .int .i64, .int .i64, .int .i64, .int .i64, .int .i64] [.i .i64 q0, .i .i64 q1, .i .i64 q2, .i .i64 q3, .i .i64 q4, .i .i64 q5, .i .i64 q6, .i .i64 q7] 0), (3, .i .i64 t3), (4, .i .i64 t4), (7, .rs 3 ws), (8, .i .i64 t8), (9, .i .i64 t9)], m := [], nx := 0, nt := 23 }
noncomputable def ou82a (q0 q1 q2 q3 q4 q5 q6 q7 t3 : Int) (ws : List (List AV)) (t8 : Int) : T82a → Ex × St
  | .x0 t4 t9 => (.ext 0, o82a_0 q0 q1 q2 q3 q4 q5 q6 q7 t3 ws t8 t4 t9)
noncomputable def r82a (q0 q1 q2 q3 q4 q5 q6 q7 t3 : Int) (ws : List (List AV)) (t8 t4 t9 : Int) : Option T82a := run (fun x => stp82a q0 q1 q2 q3 q4 q5 q6 q7 t3 ws t8 x.t4 x.t9) (⟨t4, t9⟩ : S82a)
noncomputable def i82a_0 (q0 q1 q2 q3 q4 q5 q6 q7 t3 : Int) (ws : List (List AV)) (t8 t4 t9 : Int) : Bool := match r82a q0 q1 q2 q3 q4 q5 q6 q7 t3 ws t8 t4 t9 with
  | some (.x0 _ _) => true
  | _ => false
noncomputable def v82a_0_t4 (q0 q1 q2 q3 q4 q5 q6 q7 t3 : Int) (ws : List (List AV)) (t8 t4 t9 : Int) : Int := match r82a q0 q1 q2 q3 q4 q5 q6 q7 t3 ws t8 t4 t9 with
  | some (.x0 t4 _) => t4
  | _ => default
noncomputable def v82a_0_t9 (q0 q1 q2 q3 q4 q5 q6 q7 t3 : Int) (ws : List (List AV)) (t8 t4 t9 : Int) : Int := match r82a q0 q1 q2 q3 q4 q5 q6 q7 t3 ws t8 t4 t9 with
  | some (.x0 _ t9) => t9
  | _ => default
noncomputable def l82a (st : St) : Option (List (Bool × Ex × St)) := match normW Try.prog [(2, none), (3, none), (4, none), (7, none), (8, none), (9, none)] 0 st with
  | some ([.rp [.int .i64, .int .i64, .int .i64, .int .i64, .int .i64, .int .i64, .int .i64, .int .i64] [.i .i64 q0, .i .i64 q1, .i .i64 q2, .i .i64 q3, .i .i64 q4, .i .i64 q5, .i .i64 q6, .i .i64 q7] 0, .i .i64 t3, .i .i64 t4, .rs 3 ws, .i .i64 t8, .i .i64 t9], [], 0, 23) => some [(i82a_0 q0 q1 q2 q3 q4 q5 q6 q7 t3 ws t8 t4 t9, .ext 0, o82a_0 q0 q1 q2 q3 q4 q5 q6 q7 t3 ws t8 (v82a_0_t4 q0 q1 q2 q3 q4 q5 q6 q7 t3 ws t8 t4 t9) (v82a_0_t9 q0 q1 q2 q3 q4 q5 q6 q7 t3 ws t8 t4 t9))]
  | _ => none
noncomputable def L82 : LSpec := fun p st => match p with
  | [false, true, false, true, true] => l82a st
  | _ => none
theorem is82a_0 (q0 q1 q2 q3 q4 q5 q6 q7 t3 : Int) (ws : List (List AV)) (t8 t4 t9 : Int) (h : i82a_0 q0 q1 q2 q3 q4 q5 q6 q7 t3 ws t8 t4 t9 = true) : r82a q0 q1 q2 q3 q4 q5 q6 q7 t3 ws t8 t4 t9 = some (.x0 (v82a_0_t4 q0 q1 q2 q3 q4 q5 q6 q7 t3 ws t8 t4 t9) (v82a_0_t9 q0 q1 q2 q3 q4 q5 q6 q7 t3 ws t8 t4 t9)) := by
  unfold i82a_0 at h
  unfold v82a_0_t4 v82a_0_t9
  generalize r82a q0 q1 q2 q3 q4 q5 q6 q7 t3 ws t8 t4 t9 = r at h ⊢
  rcases r with _ | y
  · cases h
  · cases y <;> first | rfl | cases h
theorem round82a (q0 q1 q2 q3 q4 q5 q6 q7 t3 t4 : Int) (ws : List (List AV)) (t8 t9 : Int) : round Try.prog S0 (ro 42) L82 lp82a [false, true, false, true, true] [(2, none), (3, none), (4, none), (7, none), (8, none), (9, none)] 0 (s82a q0 q1 q2 q3 q4 q5 q6 q7 t3 t4 ws t8 t9) =
    cond (decide (t9 < t8)) (cond (inb t9 ws.length) (cond (inb t9 8) (cond (ctsAt [CT.int IntKind.i64, CT.int IntKind.i64, CT.int IntKind.i64, CT.int IntKind.i64, CT.int IntKind.i64, CT.int IntKind.i64, CT.int IntKind.i64, CT.int IntKind.i64] (0 + t9.toNat * 1) (cts Try.prog 3)) (some (.nrm, s82a q0 q1 q2 q3 q4 q5 q6 q7 t3 (IntKind.i64.wrap (t4 + IntKind.i64.wrap (fI (ws.getD t9.toNat []) 0 * toI ([AV.i IntKind.i64 q0, AV.i IntKind.i64 q1, AV.i IntKind.i64 q2, AV.i IntKind.i64 q3, AV.i IntKind.i64 q4, AV.i IntKind.i64 q5, AV.i IntKind.i64 q6, AV.i IntKind.i64 q7].getD (0 + t9.toNat * 1) AV.u)))) ws t8 (IntKind.i64.wrap (t9 + 1)))) (none)) (none)) (none)) (some (.ext 0, o82a_0 q0 q1 q2 q3 q4 q5 q6 q7 t3 ws t8 t4 t9)) := by kernel_rfl
theorem rnd82a (q0 q1 q2 q3 q4 q5 q6 q7 t3 : Int) (ws : List (List AV)) (t8 : Int) (x : S82a) : round Try.prog S0 (ro 42) L82 lp82a [false, true, false, true, true] [(2, none), (3, none), (4, none), (7, none), (8, none), (9, none)] 0 ((fun x => s82a q0 q1 q2 q3 q4 q5 q6 q7 t3 x.t4 ws t8 x.t9) x) = toR (fun x => s82a q0 q1 q2 q3 q4 q5 q6 q7 t3 x.t4 ws t8 x.t9) (ou82a q0 q1 q2 q3 q4 q5 q6 q7 t3 ws t8) (stp82a q0 q1 q2 q3 q4 q5 q6 q7 t3 ws t8 x.t4 x.t9) := by
  refine (round82a _ _ _ _ _ _ _ _ _ _ _ _ _ ).trans ?_
  unfold stp82a
  simp only [toR_cond]
  rfl
theorem lok82a {st : St} {outs : List (Bool × Ex × St)} {e : Ex} {s : St} (hl : l82a st = some outs) (hch : Chosen outs e s) :
    ∃ keep nb, 0 ≤ nb ∧ LB Try.prog S0 (ro 42) L82 lp82a [false, true, false, true, true] keep nb st e s := by
  unfold l82a at hl
  split at hl
  · rename_i q0 q1 q2 q3 q4 q5 q6 q7 t3 t4 ws t8 t9 hno
    cases hl
    have hno := normW_norm hno
    refine ⟨_, _, ?_, .enter hno ?_⟩
    · decide
    have main := fun y h => LB_run (x := (⟨t4, t9⟩ : S82a)) (y := y) (nb := 0) (fun y => by cases y <;> simp [ou82a]) (rnd82a q0 q1 q2 q3 q4 q5 q6 q7 t3 ws t8) h
    obtain ⟨x, hx, hg, rfl, rfl⟩ := chosen_any hch
    simp only [List.mem_cons, List.not_mem_nil, or_false] at hx
    subst hx
    exact main _ (is82a_0 q0 q1 q2 q3 q4 q5 q6 q7 t3 ws t8 t4 t9 hg)
  · cases hl
theorem L82_ok (q : Pl) (c : Code) (hq : locate c82 q.reverse = some (.loop c)) (st : St) (outs : List (Bool × Ex × St)) (e : Ex) (s : St) (hl : L82 q st = some outs) (hch : Chosen outs e s) :
    ∃ keep nb, 0 ≤ nb ∧ LB Try.prog S0 (ro 42) L82 c q keep nb st e s := by
  unfold L82 at hl
  split at hl
  · have : locate c82 ([false, true, false, true, true] : Pl).reverse = some (.loop lp82a) := by kernel_rfl
    rw [this] at hq
    cases hq
    exact lok82a hl hch
  · cases hl
theorem lok82 : LOK Try.prog S0 (ro 42) L82 0 false c82 [] :=
  lok_lo L82_ok c82 [] false (locate_nil _) (by kernel_rfl)
noncomputable def t82 (ws : List (List AV)) (q0 q1 q2 q3 q4 q5 q6 q7 : Int) : Tr ((Int)) :=
  .cn (i82a_0 q0 q1 q2 q3 q4 q5 q6 q7 0 ws (↑ws.length : Int) 0 0) (.lf (v82a_0_t4 q0 q1 q2 q3 q4 q5 q6 q7 0 ws (↑ws.length : Int) 0 0)) (.nn)
noncomputable def g82 (ws : List (List AV)) (q0 q1 q2 q3 q4 q5 q6 q7 : Int) : Bool := (t82 ws q0 q1 q2 q3 q4 q5 q6 q7).g
noncomputable def w82_0 (ws : List (List AV)) (q0 q1 q2 q3 q4 q5 q6 q7 : Int) : Int := (t82 ws q0 q1 q2 q3 q4 q5 q6 q7).val
theorem eq82 (ws : List (List AV)) (q0 q1 q2 q3 q4 q5 q6 q7 : Int) : evF Try.prog S0 (ro 42) L82 Try.f42 [.agg [.i .i64 q0, .i .i64 q1, .i .i64 q2, .i .i64 q3, .i .i64 q4, .i .i64 q5, .i .i64 q6, .i .i64 q7], .rp [.sl 3] [.rs 3 ws] 0] = (t82 ws q0 q1 q2 q3 q4 q5 q6 q7).opt (fun (x : (Int)) => (.i .i64 x : AV)) := by kernel_rfl
theorem con82 (ws : List (List AV)) (q0 q1 q2 q3 q4 q5 q6 q7 : Int) (h : g82 ws q0 q1 q2 q3 q4 q5 q6 q7 = true) : Con Try.prog 42 [.agg [.i .i64 q0, .i .i64 q1, .i .i64 q2, .i .i64 q3, .i .i64 q4, .i .i64 q5, .i .i64 q6, .i .i64 q7], .rp [.sl 3] [.rs 3 ws] 0] [] (.i .i64 (w82_0 ws q0 q1 q2 q3 q4 q5 q6 q7)) [] :=
  con_of S0_ok mixed Try.func42 (c := c82) rfl (names 42 _ Try.func42) lok82 ((eq82 ws q0 q1 q2 q3 q4 q5 q6 q7).trans (Tr.sound _ _ h))
noncomputable def e82 (args : List AV) (rows : List Blk) : Option (Bool × AV × List Blk) := match args, rows with
  | [.agg [.i .i64 q0, .i .i64 q1, .i .i64 q2, .i .i64 q3, .i .i64 q4, .i .i64 q5, .i .i64 q6, .i .i64 q7], .rp [.sl 3] [.rs 3 ws] 0], [] => some (g82 ws q0 q1 q2 q3 q4 q5 q6 q7, .i .i64 (w82_0 ws q0 q1 q2 q3 q4 q5 q6 q7), [])
  | _, _ => none
theorem e82_ok (args : List AV) (rows : List Blk) (pre : Bool) (v : AV) (rows' : List Blk) (h : e82 args rows = some (pre, v, rows')) (hp : pre = true) : Con Try.prog 42 args rows v rows' := by
  unfold e82 at h
  split at h
  · cases h; exact con82 _ _ _ _ _ _ _ _ _ hp
  · cases h
-- SPEC 82
end Go.Proofs.Ytkdiaipaajgcbaa

set_option maxRecDepth 100000
set_option linter.unusedVariables false
namespace Go.Proofs.Ytkdiaipaajgcbaa
open Go Go.Ev
noncomputable def SA7 : Ev.Spec := insS 21 e75 (insS 42 e82 (insS 23 e77 (S0)))
theorem SA7_ok : SpecOK Try.prog SA7 := insS_ok e75_ok (insS_ok e82_ok (insS_ok e77_ok (S0_ok)))
end Go.Proofs.Ytkdiaipaajgcbaa

set_option maxRecDepth 100000
set_option maxHeartbeats 0
set_option linter.unusedVariables false
namespace Go.Proofs.Ytkdiaipaajgcbaa
open Go Go.Ev

noncomputable def c56 : Code := match Try.f28.body with | some c => c | _ => .skip
noncomputable def as56a : Code := rangeA c56 [true, true, true, true, true, false, true, false]
noncomputable def bd56a : Code := rangeB c56 [true, true, true, true, true, false, true, false]
noncomputable def s56a (t4 t6 t19_0 t19_1 : Int) (t19_2 : List (List AV)) (t19_3 t19_4 t19_5 t19_6 t19_7 t19_8 t19_9 t19_10 : Int) (ws : List (List AV)) (m13 : Int) : St :=
  { t := [(4, .i .i64 t4), (5, .p 4 0 0), (6, .i .i64 t6), (7, .p 13 0 0), (19, .fn 39 [.rp [.int .i64, .int .i64, .sl 44] [.i .i64 t19_0, .i .i64 t19_1, .rs 44 t19_2] 0, .rp [.int .i64, .int .i64, .int .i64, .int .i64, .int .i64, .int .i64, .int .i64, .int .i64] [.i .i64 t19_3, .i .i64 t19_4, .i .i64 t19_5, .i .i64 t19_6, .i .i64 t19_7, .i .i64 t19_8, .i .i64 t19_9, .i .i64 t19_10] 0])], m := [(0, .dead), (1, .dead), (2, .dead), (3, .dead), (4, .row 117 [[.fn 42 [.rp [.sl 3] [.rs 3 ws] 0]]]), (5, .dead), (6, .dead), (7, .dead), (8, .dead), (9, .dead), (10, .dead), (11, .dead), (12, .dead), (13, .row 3 [[.i .i64 m13]]), (14, .dead), (15, .dead), (16, .dead), (17, .dead), (18, .dead)], nx := 19, nt := 32 }
structure S56a where
  m13 : Int
inductive T56a where
noncomputable def stp56a (t4 t6 t19_0 t19_1 : Int) (t19_2 : List (List AV)) (t19_3 t19_4 t19_5 t19_6 t19_7 t19_8 t19_9 t19_10 : Int) (ws : List (List AV)) (m13 : Int) (it : List AV) : Lp S56a T56a :=
  cond (g82 ws (fI it 0) (fI it 1) (fI it 2) (fI it 3) (fI it 4) (fI it 5) (fI it 6) (fI it 7)) (.go ⟨bmax m13 (w82_0 ws (fI it 0) (fI it 1) (fI it 2) (fI it 3) (fI it 4) (fI it 5) (fI it 6) (fI it 7))⟩) (.bad)
noncomputable def ou56a (t4 t6 t19_0 t19_1 : Int) (t19_2 : List (List AV)) (t19_3 t19_4 t19_5 t19_6 t19_7 t19_8 t19_9 t19_10 : Int) (ws : List (List AV)) : T56a → Ex × St := fun y => nomatch y
noncomputable def r56a (t4 t6 t19_0 t19_1 : Int) (t19_2 : List (List AV)) (t19_3 t19_4 t19_5 t19_6 t19_7 t19_8 t19_9 t19_10 : Int) (ws : List (List AV)) (m13 da' db' : Int) (cs' : List (List AV)) (q0 q1 q2 q3 q4 q5 q6 q7 : Int) : Option (Sum S56a T56a) := iterR (fun x it => stp56a t4 t6 t19_0 t19_1 t19_2 t19_3 t19_4 t19_5 t19_6 t19_7 t19_8 t19_9 t19_10 ws x.m13 it) (patX da' db' cs' q0 q1 q2 q3 q4 q5 q6 q7) (⟨m13⟩ : S56a)
noncomputable def i56a_0 (t4 t6 t19_0 t19_1 : Int) (t19_2 : List (List AV)) (t19_3 t19_4 t19_5 t19_6 t19_7 t19_8 t19_9 t19_10 : Int) (ws : List (List AV)) (m13 da' db' : Int) (cs' : List (List AV)) (q0 q1 q2 q3 q4 q5 q6 q7 : Int) : Bool := match r56a t4 t6 t19_0 t19_1 t19_2 t19_3 t19_4 t19_5 t19_6 t19_7 t19_8 t19_9 t19_10 ws m13 da' db' cs' q0 q1 q2 q3 q4 q5 q6 q7 with
  | some (.inl ⟨_⟩) => true
  | _ => false
noncomputable def v56a_0_m13 (t4 t6 t19_0 t19_1 : Int) (t19_2 : List (List AV)) (t19_3 t19_4 t19_5 t19_6 t19_7 t19_8 t19_9 t19_10 : Int) (ws : List (List AV)) (m13 da' db' : Int) (cs' : List (List AV)) (q0 q1 q2 q3 q4 q5 q6 q7 : Int) : Int := match r56a t4 t6 t19_0 t19_1 t19_2 t19_3 t19_4 t19_5 t19_6 t19_7 t19_8 t19_9 t19_10 ws m13 da' db' cs' q0 q1 q2 q3 q4 q5 q6 q7 with
  | some (.inl ⟨m13⟩) => m13
  | _ => default
noncomputable def l56a (st : St) : Option (List (Bool × Ex × St)) := match normV Try.prog [(4, none), (5, none), (6, none), (7, none), (19, none)] 19 st, gt st.t 19 with
  | some ([.i .i64 t4, .p 4 0 0, .i .i64 t6, .p 13 0 0, .fn 39 [.rp [.int .i64, .int .i64, .sl 44] [.i .i64 t19_0, .i .i64 t19_1, .rs 44 t19_2] 0, .rp [.int .i64, .int .i64, .int .i64, .int .i64, .int .i64, .int .i64, .int .i64, .int .i64] [.i .i64 t19_3, .i .i64 t19_4, .i .i64 t19_5, .i .i64 t19_6, .i .i64 t19_7, .i .i64 t19_8, .i .i64 t19_9, .i .i64 t19_10] 0]], [(0, .dead), (1, .dead), (2, .dead), (3, .dead), (4, .row 117 [[.fn 42 [.rp [.sl 3] [.rs 3 ws] 0]]]), (5, .dead), (6, .dead), (7, .dead), (8, .dead), (9, .dead), (10, .dead), (11, .dead), (12, .dead), (13, .row 3 [[.i .i64 m13]]), (14, .dead), (15, .dead), (16, .dead), (17, .dead), (18, .dead)], 19, 32), .fn 39 [.rp [.int .i64, .int .i64, .sl 44] [.i .i64 da', .i .i64 db', .rs 44 cs'] 0, .rp [.int .i64, .int .i64, .int .i64, .int .i64, .int .i64, .int .i64, .int .i64, .int .i64] [.i .i64 q0, .i .i64 q1, .i .i64 q2, .i .i64 q3, .i .i64 q4, .i .i64 q5, .i .i64 q6, .i .i64 q7] 0] => some [(okP da' db' cs' q0 q1 q2 q3 q4 q5 q6 q7 && i56a_0 t4 t6 t19_0 t19_1 t19_2 t19_3 t19_4 t19_5 t19_6 t19_7 t19_8 t19_9 t19_10 ws m13 da' db' cs' q0 q1 q2 q3 q4 q5 q6 q7, .nrm, s56a t4 t6 t19_0 t19_1 t19_2 t19_3 t19_4 t19_5 t19_6 t19_7 t19_8 t19_9 t19_10 ws (v56a_0_m13 t4 t6 t19_0 t19_1 t19_2 t19_3 t19_4 t19_5 t19_6 t19_7 t19_8 t19_9 t19_10 ws m13 da' db' cs' q0 q1 q2 q3 q4 q5 q6 q7))]
  | _, _ => none
noncomputable def L56 : LSpec := fun p st => match p with
  | [false, true, false, true, true, true, true, true] => l56a st
  | _ => none
theorem is56a_0 (t4 t6 t19_0 t19_1 : Int) (t19_2 : List (List AV)) (t19_3 t19_4 t19_5 t19_6 t19_7 t19_8 t19_9 t19_10 : Int) (ws : List (List AV)) (m13 da' db' : Int) (cs' : List (List AV)) (q0 q1 q2 q3 q4 q5 q6 q7 : Int) (h : i56a_0 t4 t6 t19_0 t19_1 t19_2 t19_3 t19_4 t19_5 t19_6 t19_7 t19_8 t19_9 t19_10 ws m13 da' db' cs' q0 q1 q2 q3 q4 q5 q6 q7 = true) : r56a t4 t6 t19_0 t19_1 t19_2 t19_3 t19_4 t19_5 t19_6 t19_7 t19_8 t19_9 t19_10 ws m13 da' db' cs' q0 q1 q2 q3 q4 q5 q6 q7 = some (.inl ⟨(v56a_0_m13 t4 t6 t19_0 t19_1 t19_2 t19_3 t19_4 t19_5 t19_6 t19_7 t19_8 t19_9 t19_10 ws m13 da' db' cs' q0 q1 q2 q3 q4 q5 q6 q7)⟩) := by
  unfold i56a_0 at h
  unfold v56a_0_m13
  generalize r56a t4 t6 t19_0 t19_1 t19_2 t19_3 t19_4 t19_5 t19_6 t19_7 t19_8 t19_9 t19_10 ws m13 da' db' cs' q0 q1 q2 q3 q4 q5 q6 q7 = r at h ⊢
  rcases r with _ | y
  · cases h
  · rcases y with y | y <;> first | rfl | (cases h; done) | (cases y <;> first | rfl | cases h)
theorem round56a (t4 t6 t19_0 t19_1 : Int) (t19_2 : List (List AV)) (t19_3 t19_4 t19_5 t19_6 t19_7 t19_8 t19_9 t19_10 : Int) (ws : List (List AV)) (m13 : Int) (it : List AV) : roundF Try.prog SA7 (ro 28) L56 [20] as56a bd56a [false, true, false, true, true, true, true, true] 19 (s56a t4 t6 t19_0 t19_1 t19_2 t19_3 t19_4 t19_5 t19_6 t19_7 t19_8 t19_9 t19_10 ws m13) (enc8 it) =
    cond (g82 ws (fI it 0) (fI it 1) (fI it 2) (fI it 3) (fI it 4) (fI it 5) (fI it 6) (fI it 7)) (some (.nrm, s56a t4 t6 t19_0 t19_1 t19_2 t19_3 t19_4 t19_5 t19_6 t19_7 t19_8 t19_9 t19_10 ws (bmax m13 (w82_0 ws (fI it 0) (fI it 1) (fI it 2) (fI it 3) (fI it 4) (fI it 5) (fI it 6) (fI it 7))))) (none) := by kernel_rfl
theorem rnd56a (t4 t6 t19_0 t19_1 : Int) (t19_2 : List (List AV)) (t19_3 t19_4 t19_5 t19_6 t19_7 t19_8 t19_9 t19_10 : Int) (ws : List (List AV)) (x : S56a) (it : List AV) : roundF Try.prog SA7 (ro 28) L56 [20] as56a bd56a [false, true, false, true, true, true, true, true] 19 ((fun x => s56a t4 t6 t19_0 t19_1 t19_2 t19_3 t19_4 t19_5 t19_6 t19_7 t19_8 t19_9 t19_10 ws x.m13) x) (enc8 it) = toR (fun x => s56a t4 t6 t19_0 t19_1 t19_2 t19_3 t19_4 t19_5 t19_6 t19_7 t19_8 t19_9 t19_10 ws x.m13) (ou56a t4 t6 t19_0 t19_1 t19_2 t19_3 t19_4 t19_5 t19_6 t19_7 t19_8 t19_9 t19_10 ws) (stp56a t4 t6 t19_0 t19_1 t19_2 t19_3 t19_4 t19_5 t19_6 t19_7 t19_8 t19_9 t19_10 ws x.m13 it) := by
  refine (round56a _ _ _ _ _ _ _ _ _ _ _ _ _ _ _ _ ).trans ?_
  unfold stp56a
  simp only [toR_cond]
  rfl
theorem lok56a {st : St} {outs : List (Bool × Ex × St)} {e : Ex} {s : St} {lo : Nat} (hlo : lo ≤ st.nx) (hl : l56a st = some outs) (hch : Chosen outs e s) :
    ∃ keep nb, lo ≤ nb ∧ RB Try.prog SA7 (ro 28) L56 (.tmp 19) [20] as56a bd56a [false, true, false, true, true, true, true, true] keep nb st e s := by
  unfold l56a at hl
  split at hl
  · rename_i t4 t6 t19_0 t19_1 t19_2 t19_3 t19_4 t19_5 t19_6 t19_7 t19_8 t19_9 t19_10 ws m13 da' db' cs' q0 q1 q2 q3 q4 q5 q6 q7 hno hgf
    cases hl
    obtain ⟨hnx, hno⟩ := normV_norm hno
    obtain ⟨x, hx, hg, rfl, rfl⟩ := chosen_any hch
    simp only [List.mem_cons, List.not_mem_nil, or_false] at hx
    subst hx
    have hgg := (Bool.and_eq_true_iff.1 hg).1
    have main := fun y h => rounds_iter (x := (⟨m13⟩ : S56a)) (y := y) (nb := 19) (fun y => by cases y <;> simp [ou56a]) (rnd56a t4 t6 t19_0 t19_1 t19_2 t19_3 t19_4 t19_5 t19_6 t19_7 t19_8 t19_9 t19_10 ws) (xs := patX da' db' cs' q0 q1 q2 q3 q4 q5 q6 q7) h
    refine ⟨_, _, hnx ▸ hlo, _, _, (patX da' db' cs' q0 q1 q2 q3 q4 q5 q6 q7).map enc8, _, hgf, by kernel_rfl, patX_con hgg, fun x hx => enc8_len hx, fun q hq => ?_, hno, rfl, ?_⟩
    · have hn := norm_nt hno
      simp only [List.mem_cons, List.not_mem_nil, or_false] at hq
      subst hq
      rw [← hn]
      exact Nat.le_of_ble_eq_true rfl
    rw [show liveOnly Try.prog { t := (([(4, none), (5, none), (6, none), (7, none), (19, none)] : List (Nat × Option TypeId)).map Prod.fst).zip [.i .i64 t4, .p 4 0 0, .i .i64 t6, .p 13 0 0, .fn 39 [.rp [.int .i64, .int .i64, .sl 44] [.i .i64 t19_0, .i .i64 t19_1, .rs 44 t19_2] 0, .rp [.int .i64, .int .i64, .int .i64, .int .i64, .int .i64, .int .i64, .int .i64, .int .i64] [.i .i64 t19_3, .i .i64 t19_4, .i .i64 t19_5, .i .i64 t19_6, .i .i64 t19_7, .i .i64 t19_8, .i .i64 t19_9, .i .i64 t19_10] 0]], m := [(0, .dead), (1, .dead), (2, .dead), (3, .dead), (4, .row 117 [[.fn 42 [.rp [.sl 3] [.rs 3 ws] 0]]]), (5, .dead), (6, .dead), (7, .dead), (8, .dead), (9, .dead), (10, .dead), (11, .dead), (12, .dead), (13, .row 3 [[.i .i64 m13]]), (14, .dead), (15, .dead), (16, .dead), (17, .dead), (18, .dead)], nx := 19, nt := 32 } = s56a t4 t6 t19_0 t19_1 t19_2 t19_3 t19_4 t19_5 t19_6 t19_7 t19_8 t19_9 t19_10 ws m13 from by kernel_rfl]
    exact main _ (is56a_0 t4 t6 t19_0 t19_1 t19_2 t19_3 t19_4 t19_5 t19_6 t19_7 t19_8 t19_9 t19_10 ws m13 da' db' cs' q0 q1 q2 q3 q4 q5 q6 q7 (Bool.and_eq_true_iff.1 hg).2)
  · cases hl
theorem L56_ok (q : Pl) (c : Code) (hq : locate c56 q.reverse = some (.loop c)) (lo : Nat) (st : St) (outs : List (Bool × Ex × St)) (e : Ex) (s : St) (hlo : lo ≤ st.nx) (hl : L56 q st = some outs) (hch : Chosen outs e s) :
    ∃ keep nb, lo ≤ nb ∧ LB Try.prog SA7 (ro 28) L56 c q keep nb st e s := by
  unfold L56 at hl
  split at hl
  · have : locate c56 ([false, true, false, true, true, true, true, true] : Pl).reverse = some (.rangeFunc (.tmp 19) #[20] as56a bd56a) := by kernel_rfl
    rw [this] at hq
    cases hq
  · cases hl
theorem L56_okR (q : Pl) (g : Operand) (ps : Array Nat) (a b : Code) (hq : locate c56 q.reverse = some (.rangeFunc g ps a b)) (lo : Nat) (st : St) (outs : List (Bool × Ex × St)) (e : Ex) (s : St) (hlo : lo ≤ st.nx) (hl : L56 q st = some outs) (hch : Chosen outs e s) :
    ∃ keep nb, lo ≤ nb ∧ RB Try.prog SA7 (ro 28) L56 g ps.toList a b q keep nb st e s := by
  unfold L56 at hl
  split at hl
  · have : locate c56 ([false, true, false, true, true, true, true, true] : Pl).reverse = some (.rangeFunc (.tmp 19) #[20] as56a bd56a) := by kernel_rfl
    rw [this] at hq
    cases hq
    exact lok56a hlo hl hch
  · cases hl
theorem lok56 : LOK Try.prog SA7 (ro 28) L56 0 false c56 [] :=
  lok_gen L56_ok L56_okR c56 [] 0 false (locate_nil _) (by kernel_rfl)
noncomputable def t56 (da db : Int) (cs ws : List (List AV)) : Tr ((Int)) :=
  .cn (g77 da db cs) (.cn (g82 ws (w77_0 da db cs) (w77_1 da db cs) (w77_2 da db cs) (w77_3 da db cs) (w77_4 da db cs) (w77_5 da db cs) (w77_6 da db cs) (w77_7 da db cs)) (.cn (w82_0 ws (w77_0 da db cs) (w77_1 da db cs) (w77_2 da db cs) (w77_3 da db cs) (w77_4 da db cs) (w77_5 da db cs) (w77_6 da db cs) (w77_7 da db cs) == 0) (.lf (0)) (.cn (g77 da db cs) (.cn (okP (w75_0 da db cs (w77_0 da db cs) (w77_1 da db cs) (w77_2 da db cs) (w77_3 da db cs) (w77_4 da db cs) (w77_5 da db cs) (w77_6 da db cs) (w77_7 da db cs)) (w75_1 da db cs (w77_0 da db cs) (w77_1 da db cs) (w77_2 da db cs) (w77_3 da db cs) (w77_4 da db cs) (w77_5 da db cs) (w77_6 da db cs) (w77_7 da db cs)) (w75_2 da db cs (w77_0 da db cs) (w77_1 da db cs) (w77_2 da db cs) (w77_3 da db cs) (w77_4 da db cs) (w77_5 da db cs) (w77_6 da db cs) (w77_7 da db cs)) (w75_3 da db cs (w77_0 da db cs) (w77_1 da db cs) (w77_2 da db cs) (w77_3 da db cs) (w77_4 da db cs) (w77_5 da db cs) (w77_6 da db cs) (w77_7 da db cs)) (w75_4 da db cs (w77_0 da db cs) (w77_1 da db cs) (w77_2 da db cs) (w77_3 da db cs) (w77_4 da db cs) (w77_5 da db cs) (w77_6 da db cs) (w77_7 da db cs)) (w75_5 da db cs (w77_0 da db cs) (w77_1 da db cs) (w77_2 da db cs) (w77_3 da db cs) (w77_4 da db cs) (w77_5 da db cs) (w77_6 da db cs) (w77_7 da db cs)) (w75_6 da db cs (w77_0 da db cs) (w77_1 da db cs) (w77_2 da db cs) (w77_3 da db cs) (w77_4 da db cs) (w77_5 da db cs) (w77_6 da db cs) (w77_7 da db cs)) (w75_7 da db cs (w77_0 da db cs) (w77_1 da db cs) (w77_2 da db cs) (w77_3 da db cs) (w77_4 da db cs) (w77_5 da db cs) (w77_6 da db cs) (w77_7 da db cs)) (w75_8 da db cs (w77_0 da db cs) (w77_1 da db cs) (w77_2 da db cs) (w77_3 da db cs) (w77_4 da db cs) (w77_5 da db cs) (w77_6 da db cs) (w77_7 da db cs)) (w75_9 da db cs (w77_0 da db cs) (w77_1 da db cs) (w77_2 da db cs) (w77_3 da db cs) (w77_4 da db cs) (w77_5 da db cs) (w77_6 da db cs) (w77_7 da db cs)) (w75_10 da db cs (w77_0 da db cs) (w77_1 da db cs) (w77_2 da db cs) (w77_3 da db cs) (w77_4 da db cs) (w77_5 da db cs) (w77_6 da db cs) (w77_7 da db cs)) && i56a_0 0 (w82_0 ws (w77_0 da db cs) (w77_1 da db cs) (w77_2 da db cs) (w77_3 da db cs) (w77_4 da db cs) (w77_5 da db cs) (w77_6 da db cs) (w77_7 da db cs)) (w75_0 da db cs (w77_0 da db cs) (w77_1 da db cs) (w77_2 da db cs) (w77_3 da db cs) (w77_4 da db cs) (w77_5 da db cs) (w77_6 da db cs) (w77_7 da db cs)) (w75_1 da db cs (w77_0 da db cs) (w77_1 da db cs) (w77_2 da db cs) (w77_3 da db cs) (w77_4 da db cs) (w77_5 da db cs) (w77_6 da db cs) (w77_7 da db cs)) (w75_2 da db cs (w77_0 da db cs) (w77_1 da db cs) (w77_2 da db cs) (w77_3 da db cs) (w77_4 da db cs) (w77_5 da db cs) (w77_6 da db cs) (w77_7 da db cs)) (w75_3 da db cs (w77_0 da db cs) (w77_1 da db cs) (w77_2 da db cs) (w77_3 da db cs) (w77_4 da db cs) (w77_5 da db cs) (w77_6 da db cs) (w77_7 da db cs)) (w75_4 da db cs (w77_0 da db cs) (w77_1 da db cs) (w77_2 da db cs) (w77_3 da db cs) (w77_4 da db cs) (w77_5 da db cs) (w77_6 da db cs) (w77_7 da db cs)) (w75_5 da db cs (w77_0 da db cs) (w77_1 da db cs) (w77_2 da db cs) (w77_3 da db cs) (w77_4 da db cs) (w77_5 da db cs) (w77_6 da db cs) (w77_7 da db cs)) (w75_6 da db cs (w77_0 da db cs) (w77_1 da db cs) (w77_2 da db cs) (w77_3 da db cs) (w77_4 da db cs) (w77_5 da db cs) (w77_6 da db cs) (w77_7 da db cs)) (w75_7 da db cs (w77_0 da db cs) (w77_1 da db cs) (w77_2 da db cs) (w77_3 da db cs) (w77_4 da db cs) (w77_5 da db cs) (w77_6 da db cs) (w77_7 da db cs)) (w75_8 da db cs (w77_0 da db cs) (w77_1 da db cs) (w77_2 da db cs) (w77_3 da db cs) (w77_4 da db cs) (w77_5 da db cs) (w77_6 da db cs) (w77_7 da db cs)) (w75_9 da db cs (w77_0 da db cs) (w77_1 da db cs) (w77_2 da db cs) (w77_3 da db cs) (w77_4 da db cs) (w77_5 da db cs) (w77_6 da db cs) (w77_7 da db cs)) (w75_10 da db cs (w77_0 da db cs) (w77_1 da db cs) (w77_2 da db cs) (w77_3 da db cs) (w77_4 da db cs) (w77_5 da db cs) (w77_6 da db cs) (w77_7 da db cs)) ws 0 (w75_0 da db cs (w77_0 da db cs) (w77_1 da db cs) (w77_2 da db cs) (w77_3 da db cs) (w77_4 da db cs) (w77_5 da db cs) (w77_6 da db cs) (w77_7 da db cs)) (w75_1 da db cs (w77_0 da db cs) (w77_1 da db cs) (w77_2 da db cs) (w77_3 da db cs) (w77_4 da db cs) (w77_5 da db cs) (w77_6 da db cs) (w77_7 da db cs)) (w75_2 da db cs (w77_0 da db cs) (w77_1 da db cs) (w77_2 da db cs) (w77_3 da db cs) (w77_4 da db cs) (w77_5 da db cs) (w77_6 da db cs) (w77_7 da db cs)) (w75_3 da db cs (w77_0 da db cs) (w77_1 da db cs) (w77_2 da db cs) (w77_3 da db cs) (w77_4 da db cs) (w77_5 da db cs) (w77_6 da db cs) (w77_7 da db cs)) (w75_4 da db cs (w77_0 da db cs) (w77_1 da db cs) (w77_2 da db cs) (w77_3 da db cs) (w77_4 da db cs) (w77_5 da db cs) (w77_6 da db cs) (w77_7 da db cs)) (w75_5 da db cs (w77_0 da db cs) (w77_1 da db cs) (w77_2 da db cs) (w77_3 da db cs) (w77_4 da db cs) (w77_5 da db cs) (w77_6 da db cs) (w77_7 da db cs)) (w75_6 da db cs (w77_0 da db cs) (w77_1 da db cs) (w77_2 da db cs) (w77_3 da db cs) (w77_4 da db cs) (w77_5 da db cs) (w77_6 da db cs) (w77_7 da db cs)) (w75_7 da db cs (w77_0 da db cs) (w77_1 da db cs) (w77_2 da db cs) (w77_3 da db cs) (w77_4 da db cs) (w77_5 da db cs) (w77_6 da db cs) (w77_7 da db cs)) (w75_8 da db cs (w77_0 da db cs) (w77_1 da db cs) (w77_2 da db cs) (w77_3 da db cs) (w77_4 da db cs) (w77_5 da db cs) (w77_6 da db cs) (w77_7 da db cs)) (w75_9 da db cs (w77_0 da db cs) (w77_1 da db cs) (w77_2 da db cs) (w77_3 da db cs) (w77_4 da db cs) (w77_5 da db cs) (w77_6 da db cs) (w77_7 da db cs)) (w75_10 da db cs (w77_0 da db cs) (w77_1 da db cs) (w77_2 da db cs) (w77_3 da db cs) (w77_4 da db cs) (w77_5 da db cs) (w77_6 da db cs) (w77_7 da db cs))) (.cn (decide (v56a_0_m13 0 (w82_0 ws (w77_0 da db cs) (w77_1 da db cs) (w77_2 da db cs) (w77_3 da db cs) (w77_4 da db cs) (w77_5 da db cs) (w77_6 da db cs) (w77_7 da db cs)) (w75_0 da db cs (w77_0 da db cs) (w77_1 da db cs) (w77_2 da db cs) (w77_3 da db cs) (w77_4 da db cs) (w77_5 da db cs) (w77_6 da db cs) (w77_7 da db cs)) (w75_1 da db cs (w77_0 da db cs) (w77_1 da db cs) (w77_2 da db cs) (w77_3 da db cs) (w77_4 da db cs) (w77_5 da db cs) (w77_6 da db cs) (w77_7 da db cs)) (w75_2 da db cs (w77_0 da db cs) (w77_1 da db cs) (w77_2 da db cs) (w77_3 da db cs) (w77_4 da db cs) (w77_5 da db cs) (w77_6 da db cs) (w77_7 da db cs)) (w75_3 da db cs (w77_0 da db cs) (w77_1 da db cs) (w77_2 da db cs) (w77_3 da db cs) (w77_4 da db cs) (w77_5 da db cs) (w77_6 da db cs) (w77_7 da db cs)) (w75_4 da db cs (w77_0 da db cs) (w77_1 da db cs) (w77_2 da db cs) (w77_3 da db cs) (w77_4 da db cs) (w77_5 da db cs) (w77_6 da db cs) (w77_7 da db cs)) (w75_5 da db cs (w77_0 da db cs) (w77_1 da db cs) (w77_2 da db cs) (w77_3 da db cs) (w77_4 da db cs) (w77_5 da db cs) (w77_6 da db cs) (w77_7 da db cs)) (w75_6 da db cs (w77_0 da db cs) (w77_1 da db cs) (w77_2 da db cs) (w77_3 da db cs) (w77_4 da db cs) (w77_5 da db cs) (w77_6 da db cs) (w77_7 da db cs)) (w75_7 da db cs (w77_0 da db cs) (w77_1 da db cs) (w77_2 da db cs) (w77_3 da db cs) (w77_4 da db cs) (w77_5 da db cs) (w77_6 da db cs) (w77_7 da db cs)) (w75_8 da db cs (w77_0 da db cs) (w77_1 da db cs) (w77_2 da db cs) (w77_3 da db cs) (w77_4 da db cs) (w77_5 da db cs) (w77_6 da db cs) (w77_7 da db cs)) (w75_9 da db cs (w77_0 da db cs) (w77_1 da db cs) (w77_2 da db cs) (w77_3 da db cs) (w77_4 da db cs) (w77_5 da db cs) (w77_6 da db cs) (w77_7 da db cs)) (w75_10 da db cs (w77_0 da db cs) (w77_1 da db cs) (w77_2 da db cs) (w77_3 da db cs) (w77_4 da db cs) (w77_5 da db cs) (w77_6 da db cs) (w77_7 da db cs)) ws 0 (w75_0 da db cs (w77_0 da db cs) (w77_1 da db cs) (w77_2 da db cs) (w77_3 da db cs) (w77_4 da db cs) (w77_5 da db cs) (w77_6 da db cs) (w77_7 da db cs)) (w75_1 da db cs (w77_0 da db cs) (w77_1 da db cs) (w77_2 da db cs) (w77_3 da db cs) (w77_4 da db cs) (w77_5 da db cs) (w77_6 da db cs) (w77_7 da db cs)) (w75_2 da db cs (w77_0 da db cs) (w77_1 da db cs) (w77_2 da db cs) (w77_3 da db cs) (w77_4 da db cs) (w77_5 da db cs) (w77_6 da db cs) (w77_7 da db cs)) (w75_3 da db cs (w77_0 da db cs) (w77_1 da db cs) (w77_2 da db cs) (w77_3 da db cs) (w77_4 da db cs) (w77_5 da db cs) (w77_6 da db cs) (w77_7 da db cs)) (w75_4 da db cs (w77_0 da db cs) (w77_1 da db cs) (w77_2 da db cs) (w77_3 da db cs) (w77_4 da db cs) (w77_5 da db cs) (w77_6 da db cs) (w77_7 da db cs)) (w75_5 da db cs (w77_0 da db cs) (w77_1 da db cs) (w77_2 da db cs) (w77_3 da db cs) (w77_4 da db cs) (w77_5 da db cs) (w77_6 da db cs) (w77_7 da db cs)) (w75_6 da db cs (w77_0 da db cs) (w77_1 da db cs) (w77_2 da db cs) (w77_3 da db cs) (w77_4 da db cs) (w77_5 da db cs) (w77_6 da db cs) (w77_7 da db cs)) (w75_7 da db cs (w77_0 da db cs) (w77_1 da db cs) (w77_2 da db cs) (w77_3 da db cs) (w77_4 da db cs) (w77_5 da db cs) (w77_6 da db cs) (w77_7 da db cs)) (w75_8 da db cs (w77_0 da db cs) (w77_1 da db cs) (w77_2 da db cs) (w77_3 da db cs) (w77_4 da db cs) (w77_5 da db cs) (w77_6 da db cs) (w77_7 da db cs)) (w75_9 da db cs (w77_0 da db cs) (w77_1 da db cs) (w77_2 da db cs) (w77_3 da db cs) (w77_4 da db cs) (w77_5 da db cs) (w77_6 da db cs) (w77_7 da db cs)) (w75_10 da db cs (w77_0 da db cs) (w77_1 da db cs) (w77_2 da db cs) (w77_3 da db cs) (w77_4 da db cs) (w77_5 da db cs) (w77_6 da db cs) (w77_7 da db cs)) = 0)) (.nn) (.lf (IntKind.i64.wrap ((IntKind.i64.wrap (IntKind.i64.wrap (w82_0 ws (w77_0 da db cs) (w77_1 da db cs) (w77_2 da db cs) (w77_3 da db cs) (w77_4 da db cs) (w77_5 da db cs) (w77_6 da db cs) (w77_7 da db cs) + v56a_0_m13 0 (w82_0 ws (w77_0 da db cs) (w77_1 da db cs) (w77_2 da db cs) (w77_3 da db cs) (w77_4 da db cs) (w77_5 da db cs) (w77_6 da db cs) (w77_7 da db cs)) (w75_0 da db cs (w77_0 da db cs) (w77_1 da db cs) (w77_2 da db cs) (w77_3 da db cs) (w77_4 da db cs) (w77_5 da db cs) (w77_6 da db cs) (w77_7 da db cs)) (w75_1 da db cs (w77_0 da db cs) (w77_1 da db cs) (w77_2 da db cs) (w77_3 da db cs) (w77_4 da db cs) (w77_5 da db cs) (w77_6 da db cs) (w77_7 da db cs)) (w75_2 da db cs (w77_0 da db cs) (w77_1 da db cs) (w77_2 da db cs) (w77_3 da db cs) (w77_4 da db cs) (w77_5 da db cs) (w77_6 da db cs) (w77_7 da db cs)) (w75_3 da db cs (w77_0 da db cs) (w77_1 da db cs) (w77_2 da db cs) (w77_3 da db cs) (w77_4 da db cs) (w77_5 da db cs) (w77_6 da db cs) (w77_7 da db cs)) (w75_4 da db cs (w77_0 da db cs) (w77_1 da db cs) (w77_2 da db cs) (w77_3 da db cs) (w77_4 da db cs) (w77_5 da db cs) (w77_6 da db cs) (w77_7 da db cs)) (w75_5 da db cs (w77_0 da db cs) (w77_1 da db cs) (w77_2 da db cs) (w77_3 da db cs) (w77_4 da db cs) (w77_5 da db cs) (w77_6 da db cs) (w77_7 da db cs)) (w75_6 da db cs (w77_0 da db cs) (w77_1 da db cs) (w77_2 da db cs) (w77_3 da db cs) (w77_4 da db cs) (w77_5 da db cs) (w77_6 da db cs) (w77_7 da db cs)) (w75_7 da db cs (w77_0 da db cs) (w77_1 da db cs) (w77_2 da db cs) (w77_3 da db cs) (w77_4 da db cs) (w77_5 da db cs) (w77_6 da db cs) (w77_7 da db cs)) (w75_8 da db cs (w77_0 da db cs) (w77_1 da db cs) (w77_2 da db cs) (w77_3 da db cs) (w77_4 da db cs) (w77_5 da db cs) (w77_6 da db cs) (w77_7 da db cs)) (w75_9 da db cs (w77_0 da db cs) (w77_1 da db cs) (w77_2 da db cs) (w77_3 da db cs) (w77_4 da db cs) (w77_5 da db cs) (w77_6 da db cs) (w77_7 da db cs)) (w75_10 da db cs (w77_0 da db cs) (w77_1 da db cs) (w77_2 da db cs) (w77_3 da db cs) (w77_4 da db cs) (w77_5 da db cs) (w77_6 da db cs) (w77_7 da db cs)) ws 0 (w75_0 da db cs (w77_0 da db cs) (w77_1 da db cs) (w77_2 da db cs) (w77_3 da db cs) (w77_4 da db cs) (w77_5 da db cs) (w77_6 da db cs) (w77_7 da db cs)) (w75_1 da db cs (w77_0 da db cs) (w77_1 da db cs) (w77_2 da db cs) (w77_3 da db cs) (w77_4 da db cs) (w77_5 da db cs) (w77_6 da db cs) (w77_7 da db cs)) (w75_2 da db cs (w77_0 da db cs) (w77_1 da db cs) (w77_2 da db cs) (w77_3 da db cs) (w77_4 da db cs) (w77_5 da db cs) (w77_6 da db cs) (w77_7 da db cs)) (w75_3 da db cs (w77_0 da db cs) (w77_1 da db cs) (w77_2 da db cs) (w77_3 da db cs) (w77_4 da db cs) (w77_5 da db cs) (w77_6 da db cs) (w77_7 da db cs)) (w75_4 da db cs (w77_0 da db cs) (w77_1 da db cs) (w77_2 da db cs) (w77_3 da db cs) (w77_4 da db cs) (w77_5 da db cs) (w77_6 da db cs) (w77_7 da db cs)) (w75_5 da db cs (w77_0 da db cs) (w77_1 da db cs) (w77_2 da db cs) (w77_3 da db cs) (w77_4 da db cs) (w77_5 da db cs) (w77_6 da db cs) (w77_7 da db cs)) (w75_6 da db cs (w77_0 da db cs) (w77_1 da db cs) (w77_2 da db cs) (w77_3 da db cs) (w77_4 da db cs) (w77_5 da db cs) (w77_6 da db cs) (w77_7 da db cs)) (w75_7 da db cs (w77_0 da db cs) (w77_1 da db cs) (w77_2 da db cs) (w77_3 da db cs) (w77_4 da db cs) (w77_5 da db cs) (w77_6 da db cs) (w77_7 da db cs)) (w75_8 da db cs (w77_0 da db cs) (w77_1 da db cs) (w77_2 da db cs) (w77_3 da db cs) (w77_4 da db cs) (w77_5 da db cs) (w77_6 da db cs) (w77_7 da db cs)) (w75_9 da db cs (w77_0 da db cs) (w77_1 da db cs) (w77_2 da db cs) (w77_3 da db cs) (w77_4 da db cs) (w77_5 da db cs) (w77_6 da db cs) (w77_7 da db cs)) (w75_10 da db cs (w77_0 da db cs) (w77_1 da db cs) (w77_2 da db cs) (w77_3 da db cs) (w77_4 da db cs) (w77_5 da db cs) (w77_6 da db cs) (w77_7 da db cs))) - 1)).tdiv (v56a_0_m13 0 (w82_0 ws (w77_0 da db cs) (w77_1 da db cs) (w77_2 da db cs) (w77_3 da db cs) (w77_4 da db cs) (w77_5 da db cs) (w77_6 da db cs) (w77_7 da db cs)) (w75_0 da db cs (w77_0 da db cs) (w77_1 da db cs) (w77_2 da db cs) (w77_3 da db cs) (w77_4 da db cs) (w77_5 da db cs) (w77_6 da db cs) (w77_7 da db cs)) (w75_1 da db cs (w77_0 da db cs) (w77_1 da db cs) (w77_2 da db cs) (w77_3 da db cs) (w77_4 da db cs) (w77_5 da db cs) (w77_6 da db cs) (w77_7 da db cs)) (w75_2 da db cs (w77_0 da db cs) (w77_1 da db cs) (w77_2 da db cs) (w77_3 da db cs) (w77_4 da db cs) (w77_5 da db cs) (w77_6 da db cs) (w77_7 da db cs)) (w75_3 da db cs (w77_0 da db cs) (w77_1 da db cs) (w77_2 da db cs) (w77_3 da db cs) (w77_4 da db cs) (w77_5 da db cs) (w77_6 da db cs) (w77_7 da db cs)) (w75_4 da db cs (w77_0 da db cs) (w77_1 da db cs) (w77_2 da db cs) (w77_3 da db cs) (w77_4 da db cs) (w77_5 da db cs) (w77_6 da db cs) (w77_7 da db cs)) (w75_5 da db cs (w77_0 da db cs) (w77_1 da db cs) (w77_2 da db cs) (w77_3 da db cs) (w77_4 da db cs) (w77_5 da db cs) (w77_6 da db cs) (w77_7 da db cs)) (w75_6 da db cs (w77_0 da db cs) (w77_1 da db cs) (w77_2 da db cs) (w77_3 da db cs) (w77_4 da db cs) (w77_5 da db cs) (w77_6 da db cs) (w77_7 da db cs)) (w75_7 da db cs (w77_0 da db cs) (w77_1 da db cs) (w77_2 da db cs) (w77_3 da db cs) (w77_4 da db cs) (w77_5 da db cs) (w77_6 da db cs) (w77_7 da db cs)) (w75_8 da db cs (w77_0 da db cs) (w77_1 da db cs) (w77_2 da db cs) (w77_3 da db cs) (w77_4 da db cs) (w77_5 da db cs) (w77_6 da db cs) (w77_7 da db cs)) (w75_9 da db cs (w77_0 da db cs) (w77_1 da db cs) (w77_2 da db cs) (w77_3 da db cs) (w77_4 da db cs) (w77_5 da db cs) (w77_6 da db cs) (w77_7 da db cs)) (w75_10 da db cs (w77_0 da db cs) (w77_1 da db cs) (w77_2 da db cs) (w77_3 da db cs) (w77_4 da db cs) (w77_5 da db cs) (w77_6 da db cs) (w77_7 da db cs)) ws 0 (w75_0 da db cs (w77_0 da db cs) (w77_1 da db cs) (w77_2 da db cs) (w77_3 da db cs) (w77_4 da db cs) (w77_5 da db cs) (w77_6 da db cs) (w77_7 da db cs)) (w75_1 da db cs (w77_0 da db cs) (w77_1 da db cs) (w77_2 da db cs) (w77_3 da db cs) (w77_4 da db cs) (w77_5 da db cs) (w77_6 da db cs) (w77_7 da db cs)) (w75_2 da db cs (w77_0 da db cs) (w77_1 da db cs) (w77_2 da db cs) (w77_3 da db cs) (w77_4 da db cs) (w77_5 da db cs) (w77_6 da db cs) (w77_7 da db cs)) (w75_3 da db cs (w77_0 da db cs) (w77_1 da db cs) (w77_2 da db cs) (w77_3 da db cs) (w77_4 da db cs) (w77_5 da db cs) (w77_6 da db cs) (w77_7 da db cs)) (w75_4 da db cs (w77_0 da db cs) (w77_1 da db cs) (w77_2 da db cs) (w77_3 da db cs) (w77_4 da db cs) (w77_5 da db cs) (w77_6 da db cs) (w77_7 da db cs)) (w75_5 da db cs (w77_0 da db cs) (w77_1 da db cs) (w77_2 da db cs) (w77_3 da db cs) (w77_4 da db cs) (w77_5 da db cs) (w77_6 da db cs) (w77_7 da db cs)) (w75_6 da db cs (w77_0 da db cs) (w77_1 da db cs) (w77_2 da db cs) (w77_3 da db cs) (w77_4 da db cs) (w77_5 da db cs) (w77_6 da db cs) (w77_7 da db cs)) (w75_7 da db cs (w77_0 da db cs) (w77_1 da db cs) (w77_2 da db cs) (w77_3 da db cs) (w77_4 da db cs) (w77_5 da db cs) (w77_6 da db cs) (w77_7 da db cs)) (w75_8 da db cs (w77_0 da db cs) (w77_1 da db cs) (w77_2 da db cs) (w77_3 da db cs) (w77_4 da db cs) (w77_5 da db cs) (w77_6 da db cs) (w77_7 da db cs)) (w75_9 da db cs (w77_0 da db cs) (w77_1 da db cs) (w77_2 da db cs) (w77_3 da db cs) (w77_4 da db cs) (w77_5 da db cs) (w77_6 da db cs) (w77_7 da db cs)) (w75_10 da db cs (w77_0 da db cs) (w77_1 da db cs) (w77_2 da db cs) (w77_3 da db cs) (w77_4 da db cs) (w77_5 da db cs) (w77_6 da db cs) (w77_7 da db cs))))))) (.nn)) (.nn))) (.nn)) (.nn)
noncomputable def g56 (da db : Int) (cs ws : List (List AV)) : Bool := (t56 da db cs ws).g
noncomputable def w56_0 (da db : Int) (cs ws : List (List AV)) : Int := (t56 da db cs ws).val
theorem eq56 (da db : Int) (cs ws : List (List AV)) : evF Try.prog SA7 (ro 28) L56 Try.f28 [.agg [.i .i64 da, .i .i64 db, .rs 44 cs], .rs 3 ws] = (t56 da db cs ws).opt (fun (x : (Int)) => (.i .i64 x : AV)) := by kernel_rfl
theorem con56 (da db : Int) (cs ws : List (List AV)) (h : g56 da db cs ws = true) : Con Try.prog 28 [.agg [.i .i64 da, .i .i64 db, .rs 44 cs], .rs 3 ws] [] (.i .i64 (w56_0 da db cs ws)) [] :=
  con_of SA7_ok mixed Try.func28 (c := c56) rfl (names 28 _ Try.func28) lok56 ((eq56 da db cs ws).trans (Tr.sound _ _ h))
noncomputable def e56 (args : List AV) (rows : List Blk) : Option (Bool × AV × List Blk) := match args, rows with
  | [.agg [.i .i64 da, .i .i64 db, .rs 44 cs], .rs 3 ws], [] => some (g56 da db cs ws, .i .i64 (w56_0 da db cs ws), [])
  | _, _ => none
theorem e56_ok (args : List AV) (rows : List Blk) (pre : Bool) (v : AV) (rows' : List Blk) (h : e56 args rows = some (pre, v, rows')) (hp : pre = true) : Con Try.prog 28 args rows v rows' := by
  unfold e56 at h
  split at h
  · cases h; exact con56 _ _ _ _ hp
  · cases h
-- SPEC 56
end Go.Proofs.Ytkdiaipaajgcbaa

set_option maxRecDepth 100000
set_option linter.unusedVariables false
namespace Go.Proofs.Ytkdiaipaajgcbaa
open Go Go.Ev
def wq (ws : List (List AV)) (q : Nat → Int) : Nat → Int
  | 0 => 0
  | n + 1 => wq ws q n + vv ws n * q n
theorem wX_wq (ws : List (List AV)) (X : List AV) : ∀ n, wX ws X n = wq ws (fun i => fI X i) n
  | 0 => rfl
  | n + 1 => by
    show wX ws X n + _ = wq ws _ n + _
    rw [wX_wq ws X n]
theorem wq_congr {ws : List (List AV)} {q r : Nat → Int} : ∀ {n : Nat}, (∀ i, i < n → q i = r i) → wq ws q n = wq ws r n
  | 0, _ => rfl
  | n + 1, h => by
    show wq ws q n + vv ws n * q n = wq ws r n + vv ws n * r n
    rw [wq_congr (n := n) (fun i hi => h i (by omega)), h n (by omega)]
theorem wq_bd {ws : List (List AV)} {q : Nat → Int} : ∀ {n : Nat}, (∀ i, i < n → 0 ≤ vv ws i ∧ vv ws i ≤ 1000000) → (∀ i, i < n → 0 ≤ q i ∧ q i ≤ 12) → 0 ≤ wq ws q n ∧ wq ws q n ≤ 12000000 * (n : Int)
  | 0, _, _ => ⟨Int.le_refl _, Int.le_refl _⟩
  | n + 1, h1, h2 => by
    have i1 := wq_bd (n := n) (fun i hi => h1 i (by omega)) (fun i hi => h2 i (by omega))
    obtain ⟨a1, a2⟩ := h1 n (by omega)
    obtain ⟨b1, b2⟩ := h2 n (by omega)
    have c1 : 0 ≤ vv ws n * q n := Int.mul_nonneg a1 b1
    have c2 : vv ws n * q n ≤ 1000000 * 12 := Int.mul_le_mul a2 b2 b1 (by omega)
    show 0 ≤ wq ws q n + vv ws n * q n ∧ wq ws q n + vv ws n * q n ≤ _
    omega
theorem weigh_val {ws : List (List AV)} (q : Nat → Int) (hw : ws.length ≤ 8) (hv : ∀ i, i < ws.length → 0 ≤ vv ws i ∧ vv ws i ≤ 1000000) (hq : ∀ i, i < ws.length → 0 ≤ q i ∧ q i ≤ 12) :
    g82 ws (q 0) (q 1) (q 2) (q 3) (q 4) (q 5) (q 6) (q 7) = true ∧ w82_0 ws (q 0) (q 1) (q 2) (q 3) (q 4) (q 5) (q 6) (q 7) = wq ws q ws.length := by
  have run : ∃ y, r82a (q 0) (q 1) (q 2) (q 3) (q 4) (q 5) (q 6) (q 7) 0 ws (ws.length : Int) 0 0 = some y ∧ ∃ a, y = .x0 (wq ws q ws.length) a := by
    unfold r82a
    refine run_for (S := Unit) ws.length (fun k _ => (⟨wq ws q k, (k : Int)⟩ : S82a)) (fun _ _ => True) (fun _ _ (y : T82a) => ∃ a, y = .x0 (wq ws q ws.length) a) (fun k _ hk _ => ?_) (fun _ _ => ?_) 0 () (Nat.zero_le _) trivial
    · left
      refine ⟨(), ?_, trivial, fun y hy => hy⟩
      show stp82a (q 0) (q 1) (q 2) (q 3) (q 4) (q 5) (q 6) (q 7) 0 ws (ws.length : Int) (wq ws q k) (k : Int) = _
      unfold stp82a
      have h8 : k < 8 := by omega
      have b1 := wq_bd (ws := ws) (q := q) (n := k) (fun i hi => hv i (by omega)) (fun i hi => hq i (by omega))
      obtain ⟨a1, a2⟩ := hv k hk
      obtain ⟨b3, b4⟩ := hq k hk
      have c1 : 0 ≤ vv ws k * q k := Int.mul_nonneg a1 b3
      have c2 : vv ws k * q k ≤ 1000000 * 12 := Int.mul_le_mul a2 b4 b3 (by omega)
      rw [lt_true hk, inb_true hk, inb_true h8, cts8 h8, q_get q h8, Int.toNat_natCast, wrap_succ (by omega)]
      have e0 : fI (ws.getD k []) 0 = vv ws k := rfl
      rw [e0, wrap64 (x := vv ws k * q k) (by omega) (by omega), wrap64 (by omega) (by omega)]
      rfl
    · refine ⟨.x0 (wq ws q ws.length) (ws.length : Int), ?_, _, rfl⟩
      show stp82a (q 0) (q 1) (q 2) (q 3) (q 4) (q 5) (q 6) (q 7) 0 ws (ws.length : Int) (wq ws q ws.length) (ws.length : Int) = _
      unfold stp82a
      rw [lt_false]; rfl
  obtain ⟨y, h1, a, h2⟩ := run
  unfold g82 w82_0 t82 i82a_0 v82a_0_t4
  rw [h1, h2]
  exact ⟨rfl, rfl⟩
theorem map_of {l : List (List AV)} (h : ∀ e, e ∈ l → ∃ Y, e = enc8 Y) : ∃ Xs : List (List AV), l = Xs.map enc8 := by
  induction l with
  | nil => exact ⟨[], rfl⟩
  | cons e l ih =>
    obtain ⟨Y, rfl⟩ := h e (by simp)
    obtain ⟨Xs, rfl⟩ := ih fun e he => h e (by simp [he])
    exact ⟨Y :: Xs, rfl⟩
theorem iterR_max {σ τ : Type} {step : σ → List AV → Lp σ τ} (mk : Int → σ) (f : List AV → Int) : ∀ (l : List (List AV)) (a : Int), (∀ m it, it ∈ l → step (mk m) it = .go (mk (bmax m (f it)))) → ∃ M, iterR step l (mk a) = some (.inl (mk M)) ∧ a ≤ M ∧ (∀ it, it ∈ l → f it ≤ M) ∧ (M = a ∨ ∃ it, it ∈ l ∧ M = f it)
  | [], a, _ => ⟨a, rfl, Int.le_refl _, fun it h => (by cases h), .inl rfl⟩
  | x :: l, a, h => by
    obtain ⟨M, h1, h2, h3, h4⟩ := iterR_max mk f l (bmax a (f x)) fun m it hit => h m it (by simp [hit])
    have hs := h a x (by simp)
    have hb := bmax_le a (f x)
    refine ⟨M, ?_, ?_, fun it hit => ?_, ?_⟩
    · show (match step (mk a) x with | .go y => iterR step l y | .out y => some (.inr y) | .bad => none) = _
      rw [hs]
      exact h1
    · rw [hb] at h2; split at h2 <;> omega
    · rcases List.mem_cons.1 hit with rfl | hit
      · rw [hb] at h2; split at h2 <;> omega
      · exact h3 it hit
    · rcases h4 with h4 | ⟨it, hit, h4⟩
      · rw [hb] at h4
        split at h4
        · exact .inr ⟨x, by simp, h4⟩
        · exact .inl h4
      · exact .inr ⟨it, by simp [hit], h4⟩
theorem bound_val {da db : Int} {cs ws : List (List AV)} (hF : RFine da db cs) (hl : ws.length = cs.length) (hv : ∀ i, i < ws.length → 0 ≤ vv ws i ∧ vv ws i ≤ 1000000) :
    ∃ M, IsMax (fun s => KV (en db cs ws) (da + db) s) M ∧ ((wq ws (mn cs) cs.length ≠ 0 → M ≠ 0) → g56 da db cs ws = true ∧ w56_0 da db cs ws = bndV (wq ws (mn cs) cs.length) M) := by
  have hN := hF.l
  have ha := hF.a
  have hb := hF.b
  obtain ⟨g77t, e0, e1, e2, e3, e4, e5, e6, e7⟩ := wanted_val (da := da) (db := db) hN
  have hmw : ∀ i, i < cs.length → mw cs i = mn cs i := fun i hi => if_pos hi
  have hq : ∀ i, i < ws.length → 0 ≤ mw cs i ∧ mw cs i ≤ 12 := fun i hi => by
    rw [hmw i (by omega)]
    have := hF.c i (by omega)
    unfold okCut at this
    omega
  obtain ⟨wg, wv⟩ := weigh_val (ws := ws) (mw cs) (by omega) hv hq
  have hall : wq ws (mw cs) ws.length = wq ws (mn cs) cs.length := by
    rw [hl]
    exact wq_congr hmw
  rw [hall] at wv
  have hallb := wq_bd (ws := ws) (q := mn cs) (n := cs.length) (fun i hi => hv i (by omega)) (fun i hi => by
    have := hF.c i hi
    unfold okCut at this
    omega)
  -- the patterns
  have hms : ∀ j, j < cs.length → fI [AV.i .i64 (mw cs 0), .i .i64 (mw cs 1), .i .i64 (mw cs 2), .i .i64 (mw cs 3), .i .i64 (mw cs 4), .i .i64 (mw cs 5), .i .i64 (mw cs 6), .i .i64 (mw cs 7)] j = mn cs j := fun j hj => by
    rw [← hmw j hj]
    have h8 : j < 8 := by omega
    rcases j with _ | _ | _ | _ | _ | _ | _ | _ | j
    all_goals first | (exfalso; omega) | rfl
  have ew : IntKind.i64.wrap (da + db) = da + db := wrap64 (by omega) (by omega)
  obtain ⟨l0, X0, p0⟩ := PT_ex hF hms cs.length 0 rfl (Nat.zero_le _) (da + db) zero8 rfl
  have hex : ∃ Xs, Pats da db cs [AV.i .i64 (mw cs 0), .i .i64 (mw cs 1), .i .i64 (mw cs 2), .i .i64 (mw cs 3), .i .i64 (mw cs 4), .i .i64 (mw cs 5), .i .i64 (mw cs 6), .i .i64 (mw cs 7)] Xs := by
    obtain ⟨c1, _⟩ := (PT_claim (ws := ws) hF hms p0 rfl (Nat.zero_le _) (by omega) (by omega)).1 rfl (by omega)
    obtain ⟨Xs, hXs⟩ := map_of fun e he => by
      obtain ⟨Y, s, h, _⟩ := c1 e he
      exact ⟨Y, h⟩
    subst hXs
    refine ⟨Xs, X0, ?_⟩
    rw [ew]
    exact p0
  have hok : okP da db cs (mw cs 0) (mw cs 1) (mw cs 2) (mw cs 3) (mw cs 4) (mw cs 5) (mw cs 6) (mw cs 7) = true := by
    unfold okP
    simp only [decide_eq_true_eq]
    exact hex
  obtain ⟨X', hp⟩ := patX_ok hok
  rw [ew] at hp
  obtain ⟨c1, c2⟩ := (PT_claim (ws := ws) hF hms hp rfl (Nat.zero_le _) (by omega) (by omega)).1 rfl (by omega)
  rw [List.drop_zero] at c1 c2
  have hfx : ∀ it, it ∈ patX da db cs (mw cs 0) (mw cs 1) (mw cs 2) (mw cs 3) (mw cs 4) (mw cs 5) (mw cs 6) (mw cs 7) →
      (g82 ws (fI it 0) (fI it 1) (fI it 2) (fI it 3) (fI it 4) (fI it 5) (fI it 6) (fI it 7) = true) ∧ KV (en db cs ws) (da + db) (w82_0 ws (fI it 0) (fI it 1) (fI it 2) (fI it 3) (fI it 4) (fI it 5) (fI it 6) (fI it 7)) ∧ w82_0 ws (fI it 0) (fI it 1) (fI it 2) (fI it 3) (fI it 4) (fI it 5) (fI it 6) (fI it 7) = wX ws it cs.length := by
    intro it hit
    obtain ⟨Y, s, h1, _, h3, h4, h5⟩ := c1 (enc8 it) (List.mem_map.2 ⟨it, hit, rfl⟩)
    have hi := enc8_inj h1
    obtain ⟨u1, u2⟩ := weigh_val (ws := ws) (fun i => fI it i) (by omega) hv (fun i hi' => by
      show 0 ≤ fI it i ∧ fI it i ≤ 12
      rw [hi i (by omega)]
      exact h3 i (Nat.zero_le _) (by omega))
    have e : wX ws it cs.length = wX ws Y cs.length := wX_congr fun i hi' => hi i (by omega)
    have u3 : w82_0 ws (fI it 0) (fI it 1) (fI it 2) (fI it 3) (fI it 4) (fI it 5) (fI it 6) (fI it 7) = wX ws it cs.length := by
      rw [wX_wq, ← hl]
      exact u2
    refine ⟨u1, ?_, u3⟩
    rw [u3, e, h5]
    show KV (en db cs ws) (da + db) (0 + s)
    rw [Int.zero_add]
    exact h4
  obtain ⟨M, r1, r2, r3, r4⟩ := iterR_max (step := fun (x : S56a) it => stp56a 0 (wq ws (mn cs) cs.length) da db cs (mw cs 0) (mw cs 1) (mw cs 2) (mw cs 3) (mw cs 4) (mw cs 5) (mw cs 6) (mw cs 7) ws x.m13 it) (fun m => (⟨m⟩ : S56a)) (fun it => w82_0 ws (fI it 0) (fI it 1) (fI it 2) (fI it 3) (fI it 4) (fI it 5) (fI it 6) (fI it 7))
    (patX da db cs (mw cs 0) (mw cs 1) (mw cs 2) (mw cs 3) (mw cs 4) (mw cs 5) (mw cs 6) (mw cs 7)) 0 (fun m it hit => by
      show stp56a _ _ _ _ _ _ _ _ _ _ _ _ _ ws m it = _
      unfold stp56a
      rw [(hfx it hit).1]
      rfl)
  have hmax : IsMax (fun s => KV (en db cs ws) (da + db) s) M := by
    refine ⟨r2, fun s hs => ?_, ?_⟩
    · obtain ⟨e, he, Y, h1, h2⟩ := c2 s hs
      obtain ⟨it, hit, rfl⟩ := List.mem_map.1 he
      have hi := enc8_inj h1
      have e : wX ws it cs.length = wX ws Y cs.length := wX_congr fun i hi' => hi i (by omega)
      have := r3 it hit
      rw [(hfx it hit).2.2, e, h2] at this
      have e0 : wX ws zero8 0 = 0 := rfl
      omega
    · rcases r4 with h | ⟨it, hit, h⟩
      · exact .inl h
      · right
        rw [h]
        exact (hfx it hit).2.1
  have hMb : M ≤ 96000000 := by
    rcases r4 with h | ⟨it, hit, h⟩
    · omega
    · obtain ⟨Y, s, h1, _, h3, h4, h5⟩ := c1 (enc8 it) (List.mem_map.2 ⟨it, hit, rfl⟩)
      have hi := enc8_inj h1
      have b := wq_bd (ws := ws) (q := fun i => fI it i) (n := cs.length) (fun i hi => hv i (by omega)) (fun i hi' => by
        show 0 ≤ fI it i ∧ fI it i ≤ 12
        rw [hi i (by omega)]
        exact h3 i (Nat.zero_le _) hi')
      rw [(hfx it hit).2.2, wX_wq] at h
      omega
  refine ⟨M, hmax, fun hne => ?_⟩
  have hr : r56a 0 (wq ws (mn cs) cs.length) da db cs (mw cs 0) (mw cs 1) (mw cs 2) (mw cs 3) (mw cs 4) (mw cs 5) (mw cs 6) (mw cs 7) ws 0 da db cs (mw cs 0) (mw cs 1) (mw cs 2) (mw cs 3) (mw cs 4) (mw cs 5) (mw cs 6) (mw cs 7) = some (.inl ⟨M⟩) := r1
  have q0 : ∀ a b c d e f g h : Int, w75_0 da db cs a b c d e f g h = da ∧ w75_1 da db cs a b c d e f g h = db ∧ w75_2 da db cs a b c d e f g h = cs ∧ w75_3 da db cs a b c d e f g h = a ∧ w75_4 da db cs a b c d e f g h = b ∧ w75_5 da db cs a b c d e f g h = c ∧ w75_6 da db cs a b c d e f g h = d ∧ w75_7 da db cs a b c d e f g h = e ∧ w75_8 da db cs a b c d e f g h = f ∧ w75_9 da db cs a b c d e f g h = g ∧ w75_10 da db cs a b c d e f g h = h := fun _ _ _ _ _ _ _ _ => ⟨rfl, rfl, rfl, rfl, rfl, rfl, rfl, rfl, rfl, rfl, rfl⟩
  unfold g56 w56_0 t56
  simp only [g77t, e0, e1, e2, e3, e4, e5, e6, e7, wg, wv, q0, hok]
  unfold i56a_0 v56a_0_m13
  rw [hr]
  simp only [Bool.and_self]
  unfold bndV
  have hM := hmax.nn
  by_cases h0 : wq ws (mn cs) cs.length = 0
  · have e : (wq ws (mn cs) cs.length == 0) = true := by simpa using h0
    rw [e, if_pos h0]
    exact ⟨rfl, rfl⟩
  · have e : (wq ws (mn cs) cs.length == 0) = false := by simpa using h0
    have hM0 := hne h0
    rw [e, if_neg h0, decide_eq_false hM0, wrap64 (x := wq ws (mn cs) cs.length + M) (by omega) (by omega), wrap64 (x := wq ws (mn cs) cs.length + M - 1) (by omega) (by omega)]
    have hd : 0 ≤ (wq ws (mn cs) cs.length + M - 1).tdiv M ∧ (wq ws (mn cs) cs.length + M - 1).tdiv M ≤ wq ws (mn cs) cs.length + M - 1 := by
      refine ⟨Int.tdiv_nonneg (by omega) (by omega), ?_⟩
      rw [Int.tdiv_eq_ediv_of_nonneg (by omega)]
      exact Int.ediv_le_self _ (by omega)
    rw [wrap64 (by omega) (by omega)]
    exact ⟨rfl, rfl⟩
end Go.Proofs.Ytkdiaipaajgcbaa

set_option maxRecDepth 100000
set_option linter.unusedVariables false
namespace Go.Proofs.Ytkdiaipaajgcbaa
open Go Go.Ev
theorem KV_none : ∀ {l : List (Int × Int × Int)} {room : Int}, 0 ≤ room → (∀ e, e ∈ l → 0 ≤ e.2.2) → KV l room 0
  | [], room, h, _ => ⟨h, rfl⟩
  | (z, v, m) :: r, room, h, hm => by
    have h0 : 0 ≤ m := hm (z, v, m) (by simp)
    exact ⟨0, h0, by simpa using KV_none h fun e he => hm e (by simp [he])⟩
theorem KV_pos {db da : Int} {cs ws : List (List AV)} (hF : RFine da db cs) (hv : ∀ i, i < cs.length → 0 ≤ vv ws i) (hne : wq ws (mn cs) cs.length ≠ 0) : ∃ s, 0 < s ∧ KV (en db cs ws) (da + db) s := by
  have ha := hF.a
  have hb := hF.b
  have hm : ∀ j, ∀ e, e ∈ (en db cs ws).drop j → 0 ≤ e.2.2 := fun j e he => by
    obtain ⟨i, hi, rfl⟩ := List.mem_map.1 (List.mem_of_mem_drop he)
    have := hF.c i (by simpa using hi)
    unfold okCut at this
    exact this.2.2.1
  -- one that weighs
  have hone : ∃ j, j < cs.length ∧ 0 < vv ws j ∧ 1 ≤ mn cs j := by
    have : ∀ k, k ≤ cs.length → wq ws (mn cs) k ≠ 0 → ∃ j, j < k ∧ 0 < vv ws j ∧ 1 ≤ mn cs j := by
      intro k
      induction k with
      | zero => intro _ h; exact absurd rfl h
      | succ k ih =>
        intro hk h
        have hc := hF.c k (by omega)
        unfold okCut at hc
        have hvk := hv k (by omega)
        by_cases h0 : wq ws (mn cs) k = 0
        · have h : wq ws (mn cs) k + vv ws k * mn cs k ≠ 0 := h
          rw [h0, Int.zero_add] at h
          refine ⟨k, by omega, ?_, ?_⟩
          · rcases Int.lt_or_eq_of_le hvk with h' | h'
            · exact h'
            · rw [← h', Int.zero_mul] at h; exact absurd rfl h
          · rcases Int.lt_or_eq_of_le hc.2.2.1 with h' | h'
            · omega
            · rw [← h', Int.mul_zero] at h; exact absurd rfl h
        · obtain ⟨j, h1, h2⟩ := ih (by omega) h0
          exact ⟨j, by omega, h2⟩
    exact this _ (Nat.le_refl _) hne
  obtain ⟨j, hj, h1, h2⟩ := hone
  have hfj := hF.f j hj
  -- from there back
  have hback : ∀ d i, i + d = j → KV ((en db cs ws).drop i) (da + db) (vv ws j) := by
    intro d
    induction d with
    | zero =>
      intro i hi
      obtain rfl : i = j := by omega
      rw [en_drop hj]
      refine ⟨1, by omega, ?_⟩
      rw [show ((1 : Nat) : Int) * vv ws i = vv ws i by simp, Int.sub_self]
      exact KV_none (by simp; omega) (hm (i + 1))
    | succ d ih =>
      intro i hi
      rw [en_drop (by omega)]
      have hc := hF.c i (by omega)
      unfold okCut at hc
      exact ⟨0, hc.2.2.1, by simpa using ih (i + 1) (by omega)⟩
  refine ⟨vv ws j, h1, ?_⟩
  have := hback j 0 (by omega)
  rwa [List.drop_zero] at this
end Go.Proofs.Ytkdiaipaajgcbaa

set_option maxRecDepth 100000
set_option linter.unusedVariables false
namespace Go.Proofs.Ytkdiaipaajgcbaa
open Go Go.Ev
noncomputable def SA0 : Ev.Spec := insS 27 e55 (S0)
theorem SA0_ok : SpecOK Try.prog SA0 := insS_ok e55_ok (S0_ok)
end Go.Proofs.Ytkdiaipaajgcbaa

set_option maxRecDepth 100000
set_option maxHeartbeats 0
set_option linter.unusedVariables false
namespace Go.Proofs.Ytkdiaipaajgcbaa
open Go Go.Ev

noncomputable def c54 : Code := match Try.f26.body with | some c => c | _ => .skip
theorem lok54 : LOK Try.prog SA0 (ro 26) (fun _ _ => none) 0 false c54 [] :=
  lok_lo (fun _ _ _ _ _ _ _ h _ => by cases h) c54 [] false (locate_nil _) (by kernel_rfl)
noncomputable def t54 (x : Int) : Tr ((Bool)) :=
  .cn (g55 x 0 1000000) (.lf (!w55_0 x 0 1000000)) (.nn)
noncomputable def g54 (x : Int) : Bool := (t54 x).g
noncomputable def w54_0 (x : Int) : Bool := (t54 x).val
theorem eq54 (x : Int) : evF Try.prog SA0 (ro 26) (fun _ _ => none) Try.f26 [.i .i64 x] = (t54 x).opt (fun (x : (Bool)) => (.b x : AV)) := by kernel_rfl
theorem con54 (x : Int) (h : g54 x = true) : Con Try.prog 26 [.i .i64 x] [] (.b (w54_0 x)) [] :=
  con_of SA0_ok mixed Try.func26 (c := c54) rfl (names 26 _ Try.func26) lok54 ((eq54 x).trans (Tr.sound _ _ h))
noncomputable def e54 (args : List AV) (rows : List Blk) : Option (Bool × AV × List Blk) := match args, rows with
  | [.i .i64 x], [] => some (g54 x, .b (w54_0 x), [])
  | _, _ => none
theorem e54_ok (args : List AV) (rows : List Blk) (pre : Bool) (v : AV) (rows' : List Blk) (h : e54 args rows = some (pre, v, rows')) (hp : pre = true) : Con Try.prog 26 args rows v rows' := by
  unfold e54 at h
  split at h
  · cases h; exact con54 _ hp
  · cases h
-- SPEC 54
end Go.Proofs.Ytkdiaipaajgcbaa

set_option maxRecDepth 100000
set_option linter.unusedVariables false
namespace Go.Proofs.Ytkdiaipaajgcbaa
open Go Go.Ev
noncomputable def SA5 : Ev.Spec := insS 26 e54 (S0)
theorem SA5_ok : SpecOK Try.prog SA5 := insS_ok e54_ok (S0_ok)
end Go.Proofs.Ytkdiaipaajgcbaa

set_option maxRecDepth 100000
set_option maxHeartbeats 0
set_option linter.unusedVariables false
namespace Go.Proofs.Ytkdiaipaajgcbaa
open Go Go.Ev

noncomputable def c73 : Code := match Try.f19.body with | some c => c | _ => .skip
noncomputable def lp73a : Code := loopAt c73 [true, false, true, false]
noncomputable def s73a (xs : List (List AV)) (t4 t7 t8 : Int) : St :=
  { t := [(0, .rs 3 xs), (1, .fn 26 []), (4, .i .i64 t4), (7, .i .i64 t7), (8, .i .i64 t8)], m := [], nx := 0, nt := 19 }
structure S73a where
  t8 : Int
inductive T73a where
  | x0 (t4' : Int) (t8 : Int)
  | x1 (t8 : Int)
noncomputable def stp73a (xs : List (List AV)) (t4 t7 t8 : Int) : Lp S73a T73a :=
  cond (decide (t8 < t7)) (cond (inb t8 xs.length) (cond (g54 (fI (xs.getD t8.toNat []) 0)) (cond (w54_0 (fI (xs.getD t8.toNat []) 0)) (.out (.x0 t8 t8)) (.go ⟨IntKind.i64.wrap (t8 + 1)⟩)) (.bad)) (.bad)) (.out (.x1 t8))
noncomputable def o73a_0 (xs : List (List AV)) (t4 t7 t4' t8 : Int) : St :=
  { t := [(0, .rs 3 xs), (1, .fn 26 []), (4, .i .i64 t4'), (7, .i .i64 t7), (8, .i .i64 t8)], m := [], nx := 0, nt := 19 }
noncomputable def o73a_1 (xs : List (List AV)) (t4 t7 t8 : Int) : St :=
  { t := [(0, .rs 3 xs), (1, .fn 26 []), (4, .i .i64 t4), (7, .i .i64 t7), (8, .i .i64 t8)], m := [], nx := 0, nt := 19 }
noncomputable def ou73a (xs : List (List AV)) (t4 t7 : Int) : T73a → Ex × St
  | .x0 t4' t8 => (.ret, o73a_0 xs t4 t7 t4' t8)
  | .x1 t8 => (.ext 0, o73a_1 xs t4 t7 t8)
noncomputable def r73a (xs : List (List AV)) (t4 t7 t8 : Int) : Option T73a := run (fun x => stp73a xs t4 t7 x.t8) (⟨t8⟩ : S73a)
noncomputable def i73a_0 (xs : List (List AV)) (t4 t7 t8 : Int) : Bool := match r73a xs t4 t7 t8 with
  | some (.x0 _ _) => true
  | _ => false
noncomputable def v73a_0_t4' (xs : List (List AV)) (t4 t7 t8 : Int) : Int := match r73a xs t4 t7 t8 with
  | some (.x0 t4' _) => t4'
  | _ => default
noncomputable def v73a_0_t8 (xs : List (List AV)) (t4 t7 t8 : Int) : Int := match r73a xs t4 t7 t8 with
  | some (.x0 _ t8) => t8
  | _ => default
noncomputable def i73a_1 (xs : List (List AV)) (t4 t7 t8 : Int) : Bool := match r73a xs t4 t7 t8 with
  | some (.x1 _) => true
  | _ => false
noncomputable def v73a_1_t8 (xs : List (List AV)) (t4 t7 t8 : Int) : Int := match r73a xs t4 t7 t8 with
  | some (.x1 t8) => t8
  | _ => default
noncomputable def l73a (st : St) : Option (List (Bool × Ex × St)) := match normW Try.prog [(0, none), (1, none), (4, none), (7, none), (8, none)] 0 st with
  | some ([.rs 3 xs, .fn 26 [], .i .i64 t4, .i .i64 t7, .i .i64 t8], [], 0, 19) => some [(i73a_0 xs t4 t7 t8, .ret, o73a_0 xs t4 t7 (v73a_0_t4' xs t4 t7 t8) (v73a_0_t8 xs t4 t7 t8)), (i73a_1 xs t4 t7 t8, .ext 0, o73a_1 xs t4 t7 (v73a_1_t8 xs t4 t7 t8))]
  | _ => none
noncomputable def L73 : LSpec := fun p st => match p with
  | [false, true, false, true] => l73a st
  | _ => none
theorem is73a_0 (xs : List (List AV)) (t4 t7 t8 : Int) (h : i73a_0 xs t4 t7 t8 = true) : r73a xs t4 t7 t8 = some (.x0 (v73a_0_t4' xs t4 t7 t8) (v73a_0_t8 xs t4 t7 t8)) := by
  unfold i73a_0 at h
  unfold v73a_0_t4' v73a_0_t8
  generalize r73a xs t4 t7 t8 = r at h ⊢
  rcases r with _ | y
  · cases h
  · cases y <;> first | rfl | cases h
theorem is73a_1 (xs : List (List AV)) (t4 t7 t8 : Int) (h : i73a_1 xs t4 t7 t8 = true) : r73a xs t4 t7 t8 = some (.x1 (v73a_1_t8 xs t4 t7 t8)) := by
  unfold i73a_1 at h
  unfold v73a_1_t8
  generalize r73a xs t4 t7 t8 = r at h ⊢
  rcases r with _ | y
  · cases h
  · cases y <;> first | rfl | cases h
theorem round73a (xs : List (List AV)) (t4 t7 t8 : Int) : round Try.prog SA5 (ro 19) L73 lp73a [false, true, false, true] [(0, none), (1, none), (4, none), (7, none), (8, none)] 0 (s73a xs t4 t7 t8) =
    cond (decide (t8 < t7)) (cond (inb t8 xs.length) (cond (g54 (fI (xs.getD t8.toNat []) 0)) (cond (w54_0 (fI (xs.getD t8.toNat []) 0)) (some (.ret, o73a_0 xs t4 t7 t8 t8)) (some (.nrm, s73a xs t4 t7 (IntKind.i64.wrap (t8 + 1))))) (none)) (none)) (some (.ext 0, o73a_1 xs t4 t7 t8)) := by kernel_rfl
theorem rnd73a (xs : List (List AV)) (t4 t7 : Int) (x : S73a) : round Try.prog SA5 (ro 19) L73 lp73a [false, true, false, true] [(0, none), (1, none), (4, none), (7, none), (8, none)] 0 ((fun x => s73a xs t4 t7 x.t8) x) = toR (fun x => s73a xs t4 t7 x.t8) (ou73a xs t4 t7) (stp73a xs t4 t7 x.t8) := by
  refine (round73a _ _ _ _ ).trans ?_
  unfold stp73a
  simp only [toR_cond]
  rfl
theorem lok73a {st : St} {outs : List (Bool × Ex × St)} {e : Ex} {s : St} (hl : l73a st = some outs) (hch : Chosen outs e s) :
    ∃ keep nb, 0 ≤ nb ∧ LB Try.prog SA5 (ro 19) L73 lp73a [false, true, false, true] keep nb st e s := by
  unfold l73a at hl
  split at hl
  · rename_i xs t4 t7 t8 hno
    cases hl
    have hno := normW_norm hno
    refine ⟨_, _, ?_, .enter hno ?_⟩
    · decide
    have main := fun y h => LB_run (x := (⟨t8⟩ : S73a)) (y := y) (nb := 0) (fun y => by cases y <;> simp [ou73a]) (rnd73a xs t4 t7) h
    obtain ⟨x, hx, hg, rfl, rfl⟩ := chosen_any hch
    simp only [List.mem_cons, List.not_mem_nil, or_false] at hx
    rcases hx with rfl | rfl
    · exact main _ (is73a_0 xs t4 t7 t8 hg)
    · exact main _ (is73a_1 xs t4 t7 t8 hg)
  · cases hl
theorem L73_ok (q : Pl) (c : Code) (hq : locate c73 q.reverse = some (.loop c)) (st : St) (outs : List (Bool × Ex × St)) (e : Ex) (s : St) (hl : L73 q st = some outs) (hch : Chosen outs e s) :
    ∃ keep nb, 0 ≤ nb ∧ LB Try.prog SA5 (ro 19) L73 c q keep nb st e s := by
  unfold L73 at hl
  split at hl
  · have : locate c73 ([false, true, false, true] : Pl).reverse = some (.loop lp73a) := by kernel_rfl
    rw [this] at hq
    cases hq
    exact lok73a hl hch
  · cases hl
theorem lok73 : LOK Try.prog SA5 (ro 19) L73 0 false c73 [] :=
  lok_lo L73_ok c73 [] false (locate_nil _) (by kernel_rfl)
noncomputable def t73 (xs : List (List AV)) : Tr ((Int)) :=
  .cn (i73a_0 xs 0 (↑xs.length : Int) 0) (.lf (v73a_0_t4' xs 0 (↑xs.length : Int) 0)) (.cn (i73a_1 xs 0 (↑xs.length : Int) 0) (.lf (-1)) (.nn))
noncomputable def g73 (xs : List (List AV)) : Bool := (t73 xs).g
noncomputable def w73_0 (xs : List (List AV)) : Int := (t73 xs).val
theorem eq73 (xs : List (List AV)) : evF Try.prog SA5 (ro 19) L73 Try.f19 [.rs 3 xs, .fn 26 []] = (t73 xs).opt (fun (x : (Int)) => (.i .i64 x : AV)) := by kernel_rfl
theorem con73 (xs : List (List AV)) (h : g73 xs = true) : Con Try.prog 19 [.rs 3 xs, .fn 26 []] [] (.i .i64 (w73_0 xs)) [] :=
  con_of SA5_ok mixed Try.func19 (c := c73) rfl (names 19 _ Try.func19) lok73 ((eq73 xs).trans (Tr.sound _ _ h))
noncomputable def e73 (args : List AV) (rows : List Blk) : Option (Bool × AV × List Blk) := match args, rows with
  | [.rs 3 xs, .fn 26 []], [] => some (g73 xs, .i .i64 (w73_0 xs), [])
  | _, _ => none
theorem e73_ok (args : List AV) (rows : List Blk) (pre : Bool) (v : AV) (rows' : List Blk) (h : e73 args rows = some (pre, v, rows')) (hp : pre = true) : Con Try.prog 19 args rows v rows' := by
  unfold e73 at h
  split at h
  · cases h; exact con73 _ hp
  · cases h
-- SPEC 73
end Go.Proofs.Ytkdiaipaajgcbaa

set_option maxRecDepth 100000
set_option linter.unusedVariables false
namespace Go.Proofs.Ytkdiaipaajgcbaa
open Go Go.Ev
noncomputable def SA6 : Ev.Spec := insS 19 e73 (S0)
theorem SA6_ok : SpecOK Try.prog SA6 := insS_ok e73_ok (S0_ok)
end Go.Proofs.Ytkdiaipaajgcbaa

set_option maxRecDepth 100000
set_option maxHeartbeats 0
set_option linter.unusedVariables false
namespace Go.Proofs.Ytkdiaipaajgcbaa
open Go Go.Ev

noncomputable def c53 : Code := match Try.f25.body with | some c => c | _ => .skip
theorem lok53 : LOK Try.prog SA6 (ro 25) (fun _ _ => none) 0 false c53 [] :=
  lok_lo (fun _ _ _ _ _ _ _ h _ => by cases h) c53 [] false (locate_nil _) (by kernel_rfl)
noncomputable def t53 (xs : List (List AV)) : Tr ((Bool)) :=
  .cn (g73 xs) (.lf (decide (w73_0 xs ≥ 0))) (.nn)
noncomputable def g53 (xs : List (List AV)) : Bool := (t53 xs).g
noncomputable def w53_0 (xs : List (List AV)) : Bool := (t53 xs).val
theorem eq53 (xs : List (List AV)) : evF Try.prog SA6 (ro 25) (fun _ _ => none) Try.f25 [.rs 3 xs, .fn 26 []] = (t53 xs).opt (fun (x : (Bool)) => (.b x : AV)) := by kernel_rfl
theorem con53 (xs : List (List AV)) (h : g53 xs = true) : Con Try.prog 25 [.rs 3 xs, .fn 26 []] [] (.b (w53_0 xs)) [] :=
  con_of SA6_ok mixed Try.func25 (c := c53) rfl (names 25 _ Try.func25) lok53 ((eq53 xs).trans (Tr.sound _ _ h))
noncomputable def e53 (args : List AV) (rows : List Blk) : Option (Bool × AV × List Blk) := match args, rows with
  | [.rs 3 xs, .fn 26 []], [] => some (g53 xs, .b (w53_0 xs), [])
  | _, _ => none
theorem e53_ok (args : List AV) (rows : List Blk) (pre : Bool) (v : AV) (rows' : List Blk) (h : e53 args rows = some (pre, v, rows')) (hp : pre = true) : Con Try.prog 25 args rows v rows' := by
  unfold e53 at h
  split at h
  · cases h; exact con53 _ hp
  · cases h
-- SPEC 53
end Go.Proofs.Ytkdiaipaajgcbaa

set_option maxRecDepth 100000
set_option linter.unusedVariables false
namespace Go.Proofs.Ytkdiaipaajgcbaa
open Go Go.Ev
noncomputable def SA8 : Ev.Spec := insS 28 e56 (insS 25 e53 (insS 17 e24 (S0)))
theorem SA8_ok : SpecOK Try.prog SA8 := insS_ok e56_ok (insS_ok e53_ok (insS_ok e24_ok (S0_ok)))
end Go.Proofs.Ytkdiaipaajgcbaa

set_option maxRecDepth 100000
set_option maxHeartbeats 0
set_option linter.unusedVariables false
namespace Go.Proofs.Ytkdiaipaajgcbaa
open Go Go.Ev

structure S26aa where
  t7 : List (List AV)
  t23 : Int
inductive T26aa where
  | x0 (t7 : List (List AV)) (t23 : Int)
structure S26a where
  t2 : Int
  t3 : List (List AV)
  t6 : Int
inductive T26a where
  | x0 (t2 : Int) (t3 : List (List AV)) (t6 : Int)
-- SPEC 26
end Go.Proofs.Ytkdiaipaajgcbaa

set_option maxRecDepth 100000
set_option linter.unusedVariables false
namespace Go.Proofs.Ytkdiaipaajgcbaa
open Go Go.Ev
end Go.Proofs.Ytkdiaipaajgcbaa

set_option maxRecDepth 100000
set_option maxHeartbeats 0
set_option linter.unusedVariables false
namespace Go.Proofs.Ytkdiaipaajgcbaa
open Go Go.Ev

noncomputable def c22 : Code := match Try.f8.body with | some c => c | _ => .skip
theorem lok22 : LOK Try.prog SA8 (ro 8) (fun _ _ => none) 0 false c22 [] :=
  lok_lo (fun _ _ _ _ _ _ _ h _ => by cases h) c22 [] false (locate_nil _) (by kernel_rfl)
noncomputable def t22 (da db : Int) (cs ws : List (List AV)) : Tr ((Int) × (Int)) :=
  .cn (g24 da db cs) (.cn (w24_0 da db cs != 0) (.lf (0, w24_0 da db cs)) (.cn ((↑ws.length : Int) != (↑cs.length : Int)) (.lf (0, 1)) (.cn (g53 ws) (.cn (w53_0 ws) (.lf (0, 1)) (.cn (g56 da db cs ws) (.lf (w56_0 da db cs ws, 0)) (.nn))) (.nn)))) (.nn)
noncomputable def g22 (da db : Int) (cs ws : List (List AV)) : Bool := (t22 da db cs ws).g
noncomputable def w22_0 (da db : Int) (cs ws : List (List AV)) : Int := (t22 da db cs ws).val.1
noncomputable def w22_1 (da db : Int) (cs ws : List (List AV)) : Int := (t22 da db cs ws).val.2
theorem eq22 (da db : Int) (cs ws : List (List AV)) : evF Try.prog SA8 (ro 8) (fun _ _ => none) Try.f8 [.agg [.i .i64 da, .i .i64 db, .rs 44 cs], .rs 3 ws] = (t22 da db cs ws).opt (fun (x : (Int) × (Int)) => (.tup [.i .i64 x.1, .i .i64 x.2] : AV)) := by kernel_rfl
theorem con22 (da db : Int) (cs ws : List (List AV)) (h : g22 da db cs ws = true) : Con Try.prog 8 [.agg [.i .i64 da, .i .i64 db, .rs 44 cs], .rs 3 ws] [] (.tup [.i .i64 (w22_0 da db cs ws), .i .i64 (w22_1 da db cs ws)]) [] :=
  con_of SA8_ok mixed Try.func8 (c := c22) rfl (names 8 _ Try.func8) lok22 ((eq22 da db cs ws).trans (Tr.sound _ _ h))
noncomputable def e22 (args : List AV) (rows : List Blk) : Option (Bool × AV × List Blk) := match args, rows with
  | [.agg [.i .i64 da, .i .i64 db, .rs 44 cs], .rs 3 ws], [] => some (g22 da db cs ws, .tup [.i .i64 (w22_0 da db cs ws), .i .i64 (w22_1 da db cs ws)], [])
  | _, _ => none
theorem e22_ok (args : List AV) (rows : List Blk) (pre : Bool) (v : AV) (rows' : List Blk) (h : e22 args rows = some (pre, v, rows')) (hp : pre = true) : Con Try.prog 8 args rows v rows' := by
  unfold e22 at h
  split at h
  · cases h; exact con22 _ _ _ _ hp
  · cases h
-- SPEC 22
end Go.Proofs.Ytkdiaipaajgcbaa

set_option maxRecDepth 100000
set_option linter.unusedVariables false
namespace Go.Proofs.Ytkdiaipaajgcbaa
open Go Go.Ev
section
variable {da db : Int} {cs ws : List (List AV)}
theorem KV_vec (hF : RFine da db cs) {p : Nat → Int} (hp : ∀ i, i < cs.length → 0 ≤ p i ∧ p i ≤ mn cs i) (hd : DD db cs p cs.length ≤ da + db) : KV (en db cs ws) (da + db) (wq ws p cs.length) := by
  have key : ∀ d j, j + d = cs.length → KV ((en db cs ws).drop j) (da + db - DD db cs p j) (wq ws p cs.length - wq ws p j) := by
    intro d
    induction d with
    | zero =>
      intro j hj
      obtain rfl : j = cs.length := by omega
      rw [en_end]
      exact ⟨by omega, by omega⟩
    | succ d ih =>
      intro j hj
      have hpj := hp j (by omega)
      rw [en_drop (by omega)]
      refine ⟨(p j).toNat, by omega, ?_⟩
      have h := ih (j + 1) (by omega)
      have e1 : (((p j).toNat : Nat) : Int) = p j := by omega
      have e2 : DD db cs p (j + 1) = DD db cs p j + p j * (ln cs j + db) := rfl
      have e3 : wq ws p (j + 1) = wq ws p j + vv ws j * p j := rfl
      have e4 : vv ws j * p j = p j * vv ws j := Int.mul_comm _ _
      rw [e1, show da + db - DD db cs p j - p j * (ln cs j + db) = da + db - DD db cs p (j + 1) by omega, show wq ws p cs.length - wq ws p j - p j * vv ws j = wq ws p cs.length - wq ws p (j + 1) by omega]
      exact h
  have := key cs.length 0 (by omega)
  rw [List.drop_zero] at this
  have e1 : DD db cs p 0 = 0 := rfl
  have e2 : wq ws p 0 = 0 := rfl
  rw [e1, e2, Int.sub_zero, Int.sub_zero] at this
  exact this
theorem wq_sub (ws : List (List AV)) (q p : Nat → Int) : ∀ n, wq ws (fun i => q i - p i) n = wq ws q n - wq ws p n
  | 0 => rfl
  | n + 1 => by
    show wq ws _ n + vv ws n * (q n - p n) = wq ws q n + vv ws n * q n - (wq ws p n + vv ws n * p n)
    rw [wq_sub ws q p n, Int.mul_sub]
    omega
theorem wq_nil (ws : List (List AV)) {q : Nat → Int} : ∀ {n : Nat}, (∀ i, i < n → q i = 0) → wq ws q n = 0
  | 0, _ => rfl
  | n + 1, h => by
    show wq ws q n + vv ws n * q n = 0
    rw [wq_nil ws (n := n) fun i hi => h i (by omega), h n (by omega), Int.mul_zero]; rfl
theorem Cov.weigh (hF : RFine da db cs) {M : Int} (hM : IsMax (fun s => KV (en db cs ws) (da + db) s) M) {k : Nat} {q : Nat → Int} (h : Cov da db cs k q) : (∀ i, i < cs.length → q i ≤ mn cs i) → wq ws q cs.length ≤ (k : Int) * M := by
  induction h with
  | nil h => intro _; rw [wq_nil ws h]; omega
  | @cons k q p h1 h2 h3 ih =>
    intro hq
    have i1 := ih fun i hi => by have := h1 i hi; have := hq i hi; show q i - p i ≤ _; omega
    rw [wq_sub] at i1
    have i2 := hM.le _ (KV_vec (ws := ws) hF (p := p) (fun i hi => by have := h1 i hi; have := hq i hi; omega) h2)
    rw [Int.natCast_succ, Int.add_mul, Int.one_mul]
    omega
theorem Cov.room (hF : RFine da db cs) {k : Nat} {q : Nat → Int} (h : Cov da db cs k q) : DD db cs q cs.length ≤ (k : Int) * (da + db) := by
  induction h with
  | nil h => rw [DD_zero h]; omega
  | @cons k q p h1 h2 h3 ih =>
    have e : DD db cs q cs.length = DD db cs (fun i => p i + (q i - p i)) cs.length := DD_congr fun i _ => by omega
    rw [e, DD_add, Int.natCast_succ, Int.add_mul, Int.one_mul]
    omega
theorem bnd56 (hF : RFine da db cs) (hl : ws.length = cs.length) (hv : ∀ i, i < ws.length → 0 ≤ vv ws i ∧ vv ws i ≤ 1000000) : g56 da db cs ws = true ∧ w56_0 da db cs ws ≤ (mq da db cs (mn cs) : Int) := by
  obtain ⟨M, m1, m2⟩ := bound_val hF hl hv
  have hne : wq ws (mn cs) cs.length ≠ 0 → M ≠ 0 := fun h => by
    obtain ⟨s, h1, h2⟩ := KV_pos (db := db) hF (fun i hi => (hv i (by omega)).1) h
    have := m1.le s h2
    omega
  obtain ⟨a1, a2⟩ := m2 hne
  refine ⟨a1, ?_⟩
  have hmn : ∀ i, i < cs.length → 0 ≤ mn cs i := fun i hi => by
    have := hF.c i hi
    unfold okCut at this
    omega
  obtain ⟨c1, _, _⟩ := mq_ok hF hmn
  have hw := c1.weigh hF m1 fun i _ => Int.le_refl _
  rw [a2]
  unfold bndV
  have hM0 := m1.nn
  split
  · omega
  · rename_i h
    have := hne h
    have h2 : (wq ws (mn cs) cs.length + M - 1).tdiv M < (mq da db cs (mn cs) : Int) + 1 := by
      rcases Int.lt_or_le (wq ws (mn cs) cs.length + M - 1) 0 with hneg | hpos
      · have : (wq ws (mn cs) cs.length + M - 1).tdiv M ≤ 0 := by
          have e : wq ws (mn cs) cs.length + M - 1 = -(-(wq ws (mn cs) cs.length + M - 1)) := by omega
          rw [e, Int.neg_tdiv]
          have := Int.tdiv_nonneg (a := -(wq ws (mn cs) cs.length + M - 1)) (b := M) (by omega) (by omega)
          omega
        omega
      · rw [Int.tdiv_eq_ediv_of_nonneg hpos]
        refine Int.ediv_lt_of_lt_mul (by omega) ?_
        rw [Int.add_mul, Int.one_mul]
        omega
    omega
theorem bound22 (hF : RFine da db cs) (h0 : w24_0 da db cs = 0) (hl : ws.length = cs.length) (hv : ∀ i, i < ws.length → 0 ≤ vv ws i ∧ vv ws i ≤ 1000000) : g22 da db cs ws = true ∧ w22_0 da db cs ws = w56_0 da db cs ws ∧ w22_1 da db cs ws = 0 := by
  obtain ⟨c1, _, _, _⟩ := rods_eq da db cs
  have hn := hF.l
  have run : ∃ a, r73a ws 0 (ws.length : Int) 0 = some (.x1 a) := by
    have run := run_for (S := Unit) (step := fun x : S73a => stp73a ws 0 (ws.length : Int) x.t8) ws.length (fun k _ => (⟨(k : Int)⟩ : S73a)) (fun _ _ => True) (fun _ _ (y : T73a) => ∃ a, y = .x1 a)
      (fun k _ hk _ => by
        left
        refine ⟨(), ?_, trivial, fun y hy => hy⟩
        have e0 : w54_0 (fI (ws.getD k []) 0) = false := by
          have := hv k hk
          unfold vv at this
          unfold w54_0 t54
          rw [g55_true, w55_eq, decide_eq_true this.1, decide_eq_true this.2]
          rfl
        have e1 : g54 (fI (ws.getD k []) 0) = true := by
          unfold g54 t54
          rw [g55_true]; rfl
        unfold stp73a
        dsimp only
        rw [lt_true hk, inb_true hk, Int.toNat_natCast, e0, e1, wrap_succ (by omega)]
        rfl)
      (fun _ _ => by
        refine ⟨.x1 (ws.length : Int), ?_, _, rfl⟩
        unfold stp73a
        dsimp only
        rw [lt_false]
        rfl)
      0 () (by omega) trivial
    obtain ⟨y, h1, a, h2⟩ := run
    exact ⟨a, by rw [← h2]; exact h1⟩
  obtain ⟨a, hr⟩ := run
  have h73 : g73 ws = true ∧ w73_0 ws = -1 := by
    unfold g73 w73_0 t73 i73a_0 i73a_1
    rw [hr]
    exact ⟨rfl, rfl⟩
  have h53 : g53 ws = true ∧ w53_0 ws = false := by
    unfold g53 w53_0 t53
    rw [h73.1, h73.2]
    exact ⟨rfl, rfl⟩
  obtain ⟨b1, b2⟩ := bnd56 hF hl hv
  have e : ((ws.length : Int) != (cs.length : Int)) = false := by simp [hl]
  have hz : (w24_0 da db cs != 0) = false := by simp [h0]
  unfold g22 w22_0 w22_1 t22
  rw [c1, hz, e, h53.1, h53.2, b1]
  exact ⟨rfl, rfl, rfl⟩
end
end Go.Proofs.Ytkdiaipaajgcbaa

set_option maxRecDepth 100000
set_option linter.unusedVariables false
namespace Go.Proofs.Ytkdiaipaajgcbaa
open Go Go.Ev
end Go.Proofs.Ytkdiaipaajgcbaa

set_option maxRecDepth 100000
set_option linter.unusedVariables false
namespace Go.Proofs.Ytkdiaipaajgcbaa
open Go Go.Ev
def one (L m : Int) : List (List AV) := [[.i .i64 L, .i .i64 m]]
theorem one_fine {da db L m : Int} (ha : 1 ≤ da ∧ da ≤ 100000) (hb : 0 ≤ db ∧ db ≤ 100000) (hL : 1 ≤ L ∧ L ≤ da) (hm : 0 ≤ m ∧ m ≤ 12) : RFine da db (one L m) := by
  refine ⟨ha, hb, by show 1 ≤ 8; omega, fun j hj => ?_, ?_, fun j hj => ?_⟩
  · have : j = 0 := by have : j < 1 := hj; omega
    subst this
    exact ⟨hL.1, by show L ≤ 100000; omega, hm.1, hm.2⟩
  · show 0 + m ≤ 12
    omega
  · have : j = 0 := by have : j < 1 := hj; omega
    subst this
    exact hL.2
theorem one_up {da db L m H : Int} (hz : 0 < L + db) (hH : 0 ≤ H) (hfit : H * (L + db) ≤ da + db) : ∀ (k : Nat) (q : Nat → Int), 0 ≤ q 0 → q 0 ≤ (k : Int) * H → Cov da db (one L m) k q
  | 0, q, h0, h1 => .nil fun i hi => by
    have : i = 0 := by have : i < 1 := hi; omega
    subst this
    omega
  | k + 1, q, h0, h1 => by
    rw [Int.natCast_succ, Int.add_mul, Int.one_mul] at h1
    refine .cons (fun _ => if q 0 ≤ H then q 0 else H) (fun i hi => ?_) ?_ (one_up hz hH hfit k _ ?_ ?_)
    · have : i = 0 := by have : i < 1 := hi; omega
      subst this
      split <;> omega
    · show 0 + (if q 0 ≤ H then q 0 else H) * (L + db) ≤ da + db
      have : (if q 0 ≤ H then q 0 else H) * (L + db) ≤ H * (L + db) := Int.mul_le_mul_of_nonneg_right (by split <;> omega) (by omega)
      omega
    · show 0 ≤ q 0 - (if q 0 ≤ H then q 0 else H)
      split <;> omega
    · show q 0 - (if q 0 ≤ H then q 0 else H) ≤ _
      have : 0 ≤ (k : Int) * H := Int.mul_nonneg (by omega) hH
      split <;> omega
theorem one_down {da db L m H : Int} (hz : 0 < L + db) (hfit : da + db < (H + 1) * (L + db)) {k : Nat} {q : Nat → Int} (h : Cov da db (one L m) k q) : q 0 ≤ (k : Int) * H := by
  induction h with
  | nil h => rw [h 0 (by show 0 < 1; omega)]; omega
  | @cons k q p h1 h2 h3 ih =>
    have h2 : 0 + p 0 * (L + db) ≤ da + db := h2
    have hp : p 0 < H + 1 := Int.lt_of_mul_lt_mul_right (a := L + db) (by omega) (by omega)
    have ih : q 0 - p 0 ≤ (k : Int) * H := ih
    rw [Int.natCast_succ, Int.add_mul, Int.one_mul]
    omega
theorem alike_gen {s z L m H W : Int} (hsb : 1 ≤ s ∧ s ≤ 100000) (hz : 0 ≤ z ∧ z ≤ 255) (hLb : 1 ≤ L ∧ L ≤ s) (hvb : 0 ≤ m ∧ m < 10) (hH : (s + z) / (L + z) = H) (hW : (m + H - 1) / H = W) :
    (1 ≤ H ∧ H ≤ s + z ∧ 0 ≤ W ∧ W ≤ m + H - 1) ∧ g45 s z (one L m) = true ∧ w45_1 s z (one L m) = 0 ∧ ((w45_0 s z (one L m)).length : Int) = W ∧ g22 s z (one L m) [[AV.i IntKind.i64 1]] = true ∧ w22_1 s z (one L m) [[AV.i IntKind.i64 1]] = 0 ∧ w22_0 s z (one L m) [[AV.i IntKind.i64 1]] = W := by
  have hH1 : (s + z) / (L + z) * (L + z) ≤ s + z := Int.ediv_mul_le _ (by omega)
  have hH2 : s + z < ((s + z) / (L + z) + 1) * (L + z) := Int.lt_ediv_add_one_mul_self _ (by omega)
  have hH3 : 1 ≤ (s + z) / (L + z) := by
    have : 1 * (L + z) ≤ s + z := by omega
    exact (Int.le_ediv_iff_mul_le (by omega)).2 this
  have hH4 : (s + z) / (L + z) ≤ s + z := Int.ediv_le_self _ (by omega)
  rw [hH] at hH1 hH2 hH3 hH4
  have hW1 : (m + H - 1) / H * H ≤ m + H - 1 := Int.ediv_mul_le _ (by omega)
  have hW2 : m + H - 1 < ((m + H - 1) / H + 1) * H := Int.lt_ediv_add_one_mul_self _ (by omega)
  have hW3 : 0 ≤ (m + H - 1) / H := Int.ediv_nonneg (by omega) (by omega)
  have hW4 : (m + H - 1) / H ≤ m + H - 1 := Int.ediv_le_self _ (by omega)
  rw [hW] at hW1 hW2 hW3 hW4
  have hF : RFine s z (one L m) := one_fine (by omega) (by omega) hLb (by omega)
  have h0 := fine_ok hF
  obtain ⟨p1, p2, _, p4⟩ := plan_val s z (one L m)
  obtain ⟨_, rs, q1, q2, q3⟩ := p4 h0
  have hmn : ∀ i, i < (one L m).length → 0 ≤ mn (one L m) i := fun i hi => by
    have := hF.c i hi
    unfold okCut at this
    omega
  have emn : mn (one L m) 0 = m := rfl
  obtain ⟨c1, c2, _⟩ := mq_ok hF hmn
  have hdown := one_down (by omega) hH2 c1
  rw [emn] at hdown
  have hup : Cov s z (one L m) W.toNat (mn (one L m)) := by
    refine one_up (by omega) (by omega) hH1 _ _ (by rw [emn]; omega) ?_
    rw [emn, show ((W.toNat : Nat) : Int) = W by omega]
    rw [Int.add_mul, Int.one_mul] at hW2
    omega
  have hle := c2 _ hup
  have hge : W < (mq s z (one L m) (mn (one L m)) : Int) + 1 := by
    refine Int.lt_of_mul_lt_mul_right (a := H) ?_ (by omega)
    rw [Int.add_mul, Int.one_mul]
    omega
  have hmq : (mq s z (one L m) (mn (one L m)) : Int) = W := by omega
  have hlen : ((plAV rs).length : Int) = W := by rw [plAV_len, q1.len, hmq]
  -- the bound
  have hvv : ∀ i, i < ([[AV.i IntKind.i64 1]] : List (List AV)).length → 0 ≤ vv [[AV.i IntKind.i64 1]] i ∧ vv [[AV.i IntKind.i64 1]] i ≤ 1000000 := fun i hi => by
    have : i = 0 := by have : i < 1 := hi; omega
    subst this
    exact ⟨by decide, by decide⟩
  obtain ⟨b1, b2, b3⟩ := bound22 (ws := [[AV.i IntKind.i64 1]]) hF h0 rfl hvv
  obtain ⟨M, m1, m2⟩ := bound_val (ws := [[AV.i IntKind.i64 1]]) hF rfl hvv
  have hKV : ∀ t, KV (en z (one L m) [[AV.i IntKind.i64 1]]) (s + z) t ↔ 0 ≤ t ∧ t ≤ m ∧ t ≤ H := by
    intro t
    show (∃ k : Nat, (k : Int) ≤ m ∧ 0 ≤ s + z - (k : Int) * (L + z) ∧ t - (k : Int) * 1 = 0) ↔ _
    constructor
    · rintro ⟨k, k1, k2, k3⟩
      have : (k : Int) < H + 1 := Int.lt_of_mul_lt_mul_right (a := L + z) (by omega) (by omega)
      omega
    · rintro ⟨t1, t2, t3⟩
      refine ⟨t.toNat, by omega, ?_, by omega⟩
      have : t * (L + z) ≤ H * (L + z) := Int.mul_le_mul_of_nonneg_right t3 (by omega)
      rw [show ((t.toNat : Nat) : Int) = t by omega]
      omega
  have hwq : wq [[AV.i IntKind.i64 1]] (mn (one L m)) (one L m).length = m := by
    show 0 + 1 * m = m
    omega
  have hM : (m = 0 → W = 0) ∧ (0 < m → M ≠ 0 ∧ (m + M - 1).tdiv M = W) := by
    refine ⟨fun h => ?_, fun h => ?_⟩
    · subst h
      have : W * H < 1 * H := by omega
      have := Int.lt_of_mul_lt_mul_right this (by omega)
      omega
    · have hMle := m1.le (if m ≤ H then m else H) ((hKV _).2 (by split <;> omega))
      have hMin : M = 0 ∨ (0 ≤ M ∧ M ≤ m ∧ M ≤ H) := by
        rcases m1.is with e | e
        · exact .inl e
        · exact .inr ((hKV M).1 e)
      have hMe : M = if m ≤ H then m else H := by
        by_cases hc : m ≤ H
        · rw [if_pos hc] at hMle ⊢; omega
        · rw [if_neg hc] at hMle ⊢; omega
      refine ⟨by rw [hMe]; split <;> omega, ?_⟩
      rw [Int.tdiv_eq_ediv_of_nonneg (by rw [hMe]; split <;> omega)]
      by_cases hc : m ≤ H
      · rw [hMe, if_pos hc]
        have e5 : (m + m - 1) / m = 1 := by
          have a1 : 1 ≤ (m + m - 1) / m := (Int.le_ediv_iff_mul_le (by omega)).2 (by omega)
          have a2 : (m + m - 1) / m < 2 := Int.ediv_lt_of_lt_mul (by omega) (by omega)
          omega
        rw [e5]
        have a3 : W < 2 := by
          refine Int.lt_of_mul_lt_mul_right (a := H) ?_ (by omega)
          omega
        have a4 : 0 < W := by
          have : 0 * H < (W + 1 - 1) * H := by
            rw [Int.add_mul, Int.one_mul] at hW2
            have : (W + 1 - 1) * H = W * H := by rw [show W + 1 - 1 = W by omega]
            omega
          have := Int.lt_of_mul_lt_mul_right this (by omega)
          omega
        omega
      · rw [hMe, if_neg hc, ← hW]
  obtain ⟨_, a2⟩ := m2 (fun hne => by
    rw [hwq] at hne
    exact (hM.2 (by omega)).1)
  have hb : w56_0 s z (one L m) [[AV.i IntKind.i64 1]] = W := by
    rw [a2, hwq]
    unfold bndV
    by_cases hm0 : m = 0
    · rw [if_pos hm0, hM.1 hm0]
    · rw [if_neg hm0]
      exact (hM.2 (by omega)).2
  refine ⟨⟨hH3, hH4, hW3, hW4⟩, p1, p2.trans h0, by rw [q3]; exact hlen, b1, b3, b2.trans hb⟩
end Go.Proofs.Ytkdiaipaajgcbaa
