/-
  The law RidgeAlike of the roofer's ridges answers true whatever numbers it is handed; no conditions.
-/
import Derived.Test.YtgifjphinkbcaaaPd
import Derived.Test.YtgifjphinkbcaaaPe
import Derived.Test.YtgifjphinkbcaaaPf
set_option linter.unusedVariables false
set_option maxRecDepth 100000
set_option maxHeartbeats 0
set_option linter.unusedVariables false
namespace Go.Proofs.Ytgifjphinkbcaaa
open Go Go.Ev

/-! ### bound$1 -/
noncomputable def c82 : Code := match Try.f82.body with | some c => c | _ => .skip
noncomputable def lp82a : Code := loopAt c82 [true, true, false, true, false]
noncomputable def s82a (q0 : Int) (q1 : Int) (q2 : Int) (q3 : Int) (q4 : Int) (q5 : Int) (q6 : Int) (q7 : Int) (t3 : Int) (t4 : Int) (ws : List (List AV)) (t8 : Int) (t9 : Int) : St :=
  { t := [(2, .rp [.int .i64, .int .i64, .int .i64, .int .i64, .int .i64, .int .i64, .int .i64, .int .i64] [.i .i64 q0, .i .i64 q1, .i .i64 q2, .i .i64 q3, .i .i64 q4, .i .i64 q5, .i .i64 q6, .i .i64 q7] 0), (3, .i .i64 t3), (4, .i .i64 t4), (7, .rs 3 ws), (8, .i .i64 t8), (9, .i .i64 t9)], m := [], nx := 0, nt := 23 }
structure S82a where
  t4 : Int
  t9 : Int
inductive T82a where
  | x0 (t4 : Int) (t9 : Int)
noncomputable def stp82a (q0 : Int) (q1 : Int) (q2 : Int) (q3 : Int) (q4 : Int) (q5 : Int) (q6 : Int) (q7 : Int) (t3 : Int) (ws : List (List AV)) (t8 : Int) (t4 : Int) (t9 : Int) : Lp S82a T82a :=
  cond (decide (t9 < t8)) (cond (inb t9 ws.length) (cond (inb t9 8) (cond (ctsAt [CT.int IntKind.i64, CT.int IntKind.i64, CT.int IntKind.i64, CT.int IntKind.i64, CT.int IntKind.i64, CT.int IntKind.i64, CT.int IntKind.i64, CT.int IntKind.i64] (0 + t9.toNat * 1) (cts Try.prog 3)) (.go ⟨IntKind.i64.wrap (t4 + IntKind.i64.wrap (fI (ws.getD t9.toNat []) 0 * toI ([AV.i IntKind.i64 q0, AV.i IntKind.i64 q1, AV.i IntKind.i64 q2, AV.i IntKind.i64 q3, AV.i IntKind.i64 q4, AV.i IntKind.i64 q5, AV.i IntKind.i64 q6, AV.i IntKind.i64 q7].getD (0 + t9.toNat * 1) AV.u))), IntKind.i64.wrap (t9 + 1)⟩) (.bad)) (.bad)) (.bad)) (.out (.x0 t4 t9))
noncomputable def o82a_0 (q0 : Int) (q1 : Int) (q2 : Int) (q3 : Int) (q4 : Int) (q5 : Int) (q6 : Int) (q7 : Int) (t3 : Int) (ws : List (List AV)) (t8 : Int) (t4 : Int) (t9 : Int) : St :=
  { t := [(2, .rp [.int .i64, .int .i64, .int .i64, .int .i64, .int .i64, .int .i64, .int .i64, .int .i64] [.i .i64 q0, .i .i64 q1, .i .i64 q2, .i .i64 q3, .i .i64 q4, .i .i64 q5, .i .i64 q6, .i .i64 q7] 0), (3, .i .i64 t3), (4, .i .i64 t4), (7, .rs 3 ws), (8, .i .i64 t8), (9, .i .i64 t9)], m := [], nx := 0, nt := 23 }
noncomputable def ou82a (q0 : Int) (q1 : Int) (q2 : Int) (q3 : Int) (q4 : Int) (q5 : Int) (q6 : Int) (q7 : Int) (t3 : Int) (ws : List (List AV)) (t8 : Int) : T82a → Ex × St
  | .x0 t4 t9 => (.ext 0, o82a_0 q0 q1 q2 q3 q4 q5 q6 q7 t3 ws t8 t4 t9)
noncomputable def r82a (q0 : Int) (q1 : Int) (q2 : Int) (q3 : Int) (q4 : Int) (q5 : Int) (q6 : Int) (q7 : Int) (t3 : Int) (ws : List (List AV)) (t8 : Int) (t4 : Int) (t9 : Int) : Option T82a := run (fun x => stp82a q0 q1 q2 q3 q4 q5 q6 q7 t3 ws t8 x.t4 x.t9) (⟨t4, t9⟩ : S82a)
noncomputable def i82a_0 (q0 : Int) (q1 : Int) (q2 : Int) (q3 : Int) (q4 : Int) (q5 : Int) (q6 : Int) (q7 : Int) (t3 : Int) (ws : List (List AV)) (t8 : Int) (t4 : Int) (t9 : Int) : Bool := match r82a q0 q1 q2 q3 q4 q5 q6 q7 t3 ws t8 t4 t9 with
  | some (.x0 _ _) => true
  | _ => false
noncomputable def v82a_0_t4 (q0 : Int) (q1 : Int) (q2 : Int) (q3 : Int) (q4 : Int) (q5 : Int) (q6 : Int) (q7 : Int) (t3 : Int) (ws : List (List AV)) (t8 : Int) (t4 : Int) (t9 : Int) : Int := match r82a q0 q1 q2 q3 q4 q5 q6 q7 t3 ws t8 t4 t9 with
  | some (.x0 t4 _) => t4
  | _ => default
noncomputable def v82a_0_t9 (q0 : Int) (q1 : Int) (q2 : Int) (q3 : Int) (q4 : Int) (q5 : Int) (q6 : Int) (q7 : Int) (t3 : Int) (ws : List (List AV)) (t8 : Int) (t4 : Int) (t9 : Int) : Int := match r82a q0 q1 q2 q3 q4 q5 q6 q7 t3 ws t8 t4 t9 with
  | some (.x0 _ t9) => t9
  | _ => default
noncomputable def l82a (st : St) : Option (List (Bool × Ex × St)) := match normW Try.prog [(2, none), (3, none), (4, none), (7, none), (8, none), (9, none)] 0 st with
  | some ([.rp [.int .i64, .int .i64, .int .i64, .int .i64, .int .i64, .int .i64, .int .i64, .int .i64] [.i .i64 q0, .i .i64 q1, .i .i64 q2, .i .i64 q3, .i .i64 q4, .i .i64 q5, .i .i64 q6, .i .i64 q7] 0, .i .i64 t3, .i .i64 t4, .rs 3 ws, .i .i64 t8, .i .i64 t9], [], 0, 23) => some [(i82a_0 q0 q1 q2 q3 q4 q5 q6 q7 t3 ws t8 t4 t9, .ext 0, o82a_0 q0 q1 q2 q3 q4 q5 q6 q7 t3 ws t8 (v82a_0_t4 q0 q1 q2 q3 q4 q5 q6 q7 t3 ws t8 t4 t9) (v82a_0_t9 q0 q1 q2 q3 q4 q5 q6 q7 t3 ws t8 t4 t9))]
  | _ => none
noncomputable def L82 : LSpec := fun p st => match p with
  | [false, true, false, true, true] => l82a st
  | _ => none
theorem is82a_0 (q0 : Int) (q1 : Int) (q2 : Int) (q3 : Int) (q4 : Int) (q5 : Int) (q6 : Int) (q7 : Int) (t3 : Int) (ws : List (List AV)) (t8 : Int) (t4 : Int) (t9 : Int) (h : i82a_0 q0 q1 q2 q3 q4 q5 q6 q7 t3 ws t8 t4 t9 = true) : r82a q0 q1 q2 q3 q4 q5 q6 q7 t3 ws t8 t4 t9 = some (.x0 (v82a_0_t4 q0 q1 q2 q3 q4 q5 q6 q7 t3 ws t8 t4 t9) (v82a_0_t9 q0 q1 q2 q3 q4 q5 q6 q7 t3 ws t8 t4 t9)) := by
  unfold i82a_0 at h
  unfold v82a_0_t4 v82a_0_t9
  generalize r82a q0 q1 q2 q3 q4 q5 q6 q7 t3 ws t8 t4 t9 = r at h ⊢
  rcases r with _ | y
  · cases h
  · cases y <;> first | rfl | cases h
theorem round82a (q0 : Int) (q1 : Int) (q2 : Int) (q3 : Int) (q4 : Int) (q5 : Int) (q6 : Int) (q7 : Int) (t3 : Int) (t4 : Int) (ws : List (List AV)) (t8 : Int) (t9 : Int) : round Try.prog S0 (ro 82) L82 lp82a [false, true, false, true, true] [(2, none), (3, none), (4, none), (7, none), (8, none), (9, none)] 0 (s82a q0 q1 q2 q3 q4 q5 q6 q7 t3 t4 ws t8 t9) =
    cond (decide (t9 < t8)) (cond (inb t9 ws.length) (cond (inb t9 8) (cond (ctsAt [CT.int IntKind.i64, CT.int IntKind.i64, CT.int IntKind.i64, CT.int IntKind.i64, CT.int IntKind.i64, CT.int IntKind.i64, CT.int IntKind.i64, CT.int IntKind.i64] (0 + t9.toNat * 1) (cts Try.prog 3)) (some (.nrm, s82a q0 q1 q2 q3 q4 q5 q6 q7 t3 (IntKind.i64.wrap (t4 + IntKind.i64.wrap (fI (ws.getD t9.toNat []) 0 * toI ([AV.i IntKind.i64 q0, AV.i IntKind.i64 q1, AV.i IntKind.i64 q2, AV.i IntKind.i64 q3, AV.i IntKind.i64 q4, AV.i IntKind.i64 q5, AV.i IntKind.i64 q6, AV.i IntKind.i64 q7].getD (0 + t9.toNat * 1) AV.u)))) ws t8 (IntKind.i64.wrap (t9 + 1)))) (none)) (none)) (none)) (some (.ext 0, o82a_0 q0 q1 q2 q3 q4 q5 q6 q7 t3 ws t8 t4 t9)) := by kernel_rfl
theorem rnd82a (q0 : Int) (q1 : Int) (q2 : Int) (q3 : Int) (q4 : Int) (q5 : Int) (q6 : Int) (q7 : Int) (t3 : Int) (ws : List (List AV)) (t8 : Int) (x : S82a) : round Try.prog S0 (ro 82) L82 lp82a [false, true, false, true, true] [(2, none), (3, none), (4, none), (7, none), (8, none), (9, none)] 0 ((fun x => s82a q0 q1 q2 q3 q4 q5 q6 q7 t3 x.t4 ws t8 x.t9) x) = toR (fun x => s82a q0 q1 q2 q3 q4 q5 q6 q7 t3 x.t4 ws t8 x.t9) (ou82a q0 q1 q2 q3 q4 q5 q6 q7 t3 ws t8) (stp82a q0 q1 q2 q3 q4 q5 q6 q7 t3 ws t8 x.t4 x.t9) := by
  refine (round82a _ _ _ _ _ _ _ _ _ _ _ _ _ ).trans ?_
  unfold stp82a
  simp only [toR_cond]
  rfl
theorem lok82a {st : St} {outs : List (Bool × Ex × St)} {e : Ex} {s : St} (hl : l82a st = some outs) (hch : Chosen outs e s) :
    ∃ keep nb, 0 ≤ nb ∧ LB Try.prog S0 (ro 82) L82 lp82a [false, true, false, true, true] keep nb st e s := by
  unfold l82a at hl
  split at hl
  · rename_i q0 q1 q2 q3 q4 q5 q6 q7 t3 t4 ws t8 t9 hno
    cases hl
    have hno := normW_norm hno
    refine ⟨_, _, ?_, .enter hno ?_⟩
    · decide
    have main := fun y h => LB_run (x := (⟨t4, t9⟩ : S82a)) (y := y) (nb := 0) (fun y => by cases y <;> simp [ou82a]) (rnd82a q0 q1 q2 q3 q4 q5 q6 q7 t3 ws t8) h
    obtain ⟨x, hx, hg, rfl, rfl⟩ := chosen_any hch
    simp only [List.mem_cons, List.not_mem_nil, or_false] at hx
    subst hx
    exact main _ (is82a_0 q0 q1 q2 q3 q4 q5 q6 q7 t3 ws t8 t4 t9 hg)
  · cases hl
theorem L82_ok (q : Pl) (c : Code) (hq : locate c82 q.reverse = some (.loop c)) (st : St) (outs : List (Bool × Ex × St)) (e : Ex) (s : St) (hl : L82 q st = some outs) (hch : Chosen outs e s) :
    ∃ keep nb, 0 ≤ nb ∧ LB Try.prog S0 (ro 82) L82 c q keep nb st e s := by
  unfold L82 at hl
  split at hl
  · have : locate c82 ([false, true, false, true, true] : Pl).reverse = some (.loop lp82a) := by kernel_rfl
    rw [this] at hq
    cases hq
    exact lok82a hl hch
  · cases hl
theorem lok82 : LOK Try.prog S0 (ro 82) L82 0 false c82 [] :=
  lok_lo L82_ok c82 [] false (locate_nil _) (by kernel_rfl)
noncomputable def t82 (ws : List (List AV)) (q0 q1 q2 q3 q4 q5 q6 q7 : Int) : Tr ((Int)) :=
  .cn (i82a_0 q0 q1 q2 q3 q4 q5 q6 q7 0 ws (↑ws.length : Int) 0 0) (.lf (v82a_0_t4 q0 q1 q2 q3 q4 q5 q6 q7 0 ws (↑ws.length : Int) 0 0)) (.nn)
noncomputable def g82 (ws : List (List AV)) (q0 q1 q2 q3 q4 q5 q6 q7 : Int) : Bool := (t82 ws q0 q1 q2 q3 q4 q5 q6 q7).g
noncomputable def w82_0 (ws : List (List AV)) (q0 q1 q2 q3 q4 q5 q6 q7 : Int) : Int := (t82 ws q0 q1 q2 q3 q4 q5 q6 q7).val
theorem eq82 (ws : List (List AV)) (q0 q1 q2 q3 q4 q5 q6 q7 : Int) : evF Try.prog S0 (ro 82) L82 Try.f82 [.agg [.i .i64 q0, .i .i64 q1, .i .i64 q2, .i .i64 q3, .i .i64 q4, .i .i64 q5, .i .i64 q6, .i .i64 q7], .rp [.sl 3] [.rs 3 ws] 0] = (t82 ws q0 q1 q2 q3 q4 q5 q6 q7).opt (fun (x : (Int)) => (.i .i64 x : AV)) := by kernel_rfl
theorem con82 (ws : List (List AV)) (q0 q1 q2 q3 q4 q5 q6 q7 : Int) (h : g82 ws q0 q1 q2 q3 q4 q5 q6 q7 = true) : Con Try.prog 82 [.agg [.i .i64 q0, .i .i64 q1, .i .i64 q2, .i .i64 q3, .i .i64 q4, .i .i64 q5, .i .i64 q6, .i .i64 q7], .rp [.sl 3] [.rs 3 ws] 0] [] (.i .i64 (w82_0 ws q0 q1 q2 q3 q4 q5 q6 q7)) [] :=
  con_of S0_ok mixed Try.func82 (c := c82) rfl (names 82 _ Try.func82) lok82 ((eq82 ws q0 q1 q2 q3 q4 q5 q6 q7).trans (Tr.sound _ _ h))
noncomputable def e82 (args : List AV) (rows : List Blk) : Option (Bool × AV × List Blk) := match args, rows with
  | [.agg [.i .i64 q0, .i .i64 q1, .i .i64 q2, .i .i64 q3, .i .i64 q4, .i .i64 q5, .i .i64 q6, .i .i64 q7], .rp [.sl 3] [.rs 3 ws] 0], [] => some (g82 ws q0 q1 q2 q3 q4 q5 q6 q7, .i .i64 (w82_0 ws q0 q1 q2 q3 q4 q5 q6 q7), [])
  | _, _ => none
theorem e82_ok (args : List AV) (rows : List Blk) (pre : Bool) (v : AV) (rows' : List Blk) (h : e82 args rows = some (pre, v, rows')) (hp : pre = true) : Con Try.prog 82 args rows v rows' := by
  unfold e82 at h
  split at h
  · cases h; exact con82 _ _ _ _ _ _ _ _ _ hp
  · cases h
-- SPEC 82
end Go.Proofs.Ytgifjphinkbcaaa

set_option maxRecDepth 100000
set_option linter.unusedVariables false
namespace Go.Proofs.Ytgifjphinkbcaaa
open Go Go.Ev
noncomputable def SA7 : Ev.Spec := insS 75 e75 (insS 82 e82 (insS 77 e77 (S0)))
theorem SA7_ok : SpecOK Try.prog SA7 := insS_ok e75_ok (insS_ok e82_ok (insS_ok e77_ok (S0_ok)))
end Go.Proofs.Ytgifjphinkbcaaa

set_option maxRecDepth 100000
set_option maxHeartbeats 0
set_option linter.unusedVariables false
namespace Go.Proofs.Ytgifjphinkbcaaa
open Go Go.Ev

/-! ### ridge.bound -/
noncomputable def c56 : Code := match Try.f56.body with | some c => c | _ => .skip
noncomputable def as56a : Code := rangeA c56 [true, true, true, true, true, false, true, false]
noncomputable def bd56a : Code := rangeB c56 [true, true, true, true, true, false, true, false]
noncomputable def s56a (t4 : Int) (t6 : Int) (t19_0 : Int) (t19_1 : Int) (t19_2 : List (List AV)) (t19_3 : Int) (t19_4 : Int) (t19_5 : Int) (t19_6 : Int) (t19_7 : Int) (t19_8 : Int) (t19_9 : Int) (t19_10 : Int) (ws : List (List AV)) (m13 : Int) : St :=
  { t := [(4, .i .i64 t4), (5, .p 4 0 0), (6, .i .i64 t6), (7, .p 13 0 0), (19, .fn 88 [.rp [.int .i64, .int .i64, .sl 64] [.i .i64 t19_0, .i .i64 t19_1, .rs 64 t19_2] 0, .rp [.int .i64, .int .i64, .int .i64, .int .i64, .int .i64, .int .i64, .int .i64, .int .i64] [.i .i64 t19_3, .i .i64 t19_4, .i .i64 t19_5, .i .i64 t19_6, .i .i64 t19_7, .i .i64 t19_8, .i .i64 t19_9, .i .i64 t19_10] 0])], m := [(0, .dead), (1, .dead), (2, .dead), (3, .dead), (4, .row 118 [[.fn 82 [.rp [.sl 3] [.rs 3 ws] 0]]]), (5, .dead), (6, .dead), (7, .dead), (8, .dead), (9, .dead), (10, .dead), (11, .dead), (12, .dead), (13, .row 3 [[.i .i64 m13]]), (14, .dead), (15, .dead), (16, .dead), (17, .dead), (18, .dead)], nx := 19, nt := 32 }
structure S56a where
  m13 : Int
inductive T56a where
noncomputable def stp56a (t4 : Int) (t6 : Int) (t19_0 : Int) (t19_1 : Int) (t19_2 : List (List AV)) (t19_3 : Int) (t19_4 : Int) (t19_5 : Int) (t19_6 : Int) (t19_7 : Int) (t19_8 : Int) (t19_9 : Int) (t19_10 : Int) (ws : List (List AV)) (m13 : Int) (it : List AV) : Lp S56a T56a :=
  cond (g82 ws (fI it 0) (fI it 1) (fI it 2) (fI it 3) (fI it 4) (fI it 5) (fI it 6) (fI it 7)) (.go ⟨bmax m13 (w82_0 ws (fI it 0) (fI it 1) (fI it 2) (fI it 3) (fI it 4) (fI it 5) (fI it 6) (fI it 7))⟩) (.bad)
noncomputable def ou56a (t4 : Int) (t6 : Int) (t19_0 : Int) (t19_1 : Int) (t19_2 : List (List AV)) (t19_3 : Int) (t19_4 : Int) (t19_5 : Int) (t19_6 : Int) (t19_7 : Int) (t19_8 : Int) (t19_9 : Int) (t19_10 : Int) (ws : List (List AV)) : T56a → Ex × St := fun y => nomatch y
noncomputable def r56a (t4 : Int) (t6 : Int) (t19_0 : Int) (t19_1 : Int) (t19_2 : List (List AV)) (t19_3 : Int) (t19_4 : Int) (t19_5 : Int) (t19_6 : Int) (t19_7 : Int) (t19_8 : Int) (t19_9 : Int) (t19_10 : Int) (ws : List (List AV)) (m13 : Int) (da' db' : Int) (cs' : List (List AV)) (q0 q1 q2 q3 q4 q5 q6 q7 : Int) : Option (Sum S56a T56a) := iterR (fun x it => stp56a t4 t6 t19_0 t19_1 t19_2 t19_3 t19_4 t19_5 t19_6 t19_7 t19_8 t19_9 t19_10 ws x.m13 it) (patX da' db' cs' q0 q1 q2 q3 q4 q5 q6 q7) (⟨m13⟩ : S56a)
noncomputable def i56a_0 (t4 : Int) (t6 : Int) (t19_0 : Int) (t19_1 : Int) (t19_2 : List (List AV)) (t19_3 : Int) (t19_4 : Int) (t19_5 : Int) (t19_6 : Int) (t19_7 : Int) (t19_8 : Int) (t19_9 : Int) (t19_10 : Int) (ws : List (List AV)) (m13 : Int) (da' db' : Int) (cs' : List (List AV)) (q0 q1 q2 q3 q4 q5 q6 q7 : Int) : Bool := match r56a t4 t6 t19_0 t19_1 t19_2 t19_3 t19_4 t19_5 t19_6 t19_7 t19_8 t19_9 t19_10 ws m13 da' db' cs' q0 q1 q2 q3 q4 q5 q6 q7 with
  | some (.inl ⟨_⟩) => true
  | _ => false
noncomputable def v56a_0_m13 (t4 : Int) (t6 : Int) (t19_0 : Int) (t19_1 : Int) (t19_2 : List (List AV)) (t19_3 : Int) (t19_4 : Int) (t19_5 : Int) (t19_6 : Int) (t19_7 : Int) (t19_8 : Int) (t19_9 : Int) (t19_10 : Int) (ws : List (List AV)) (m13 : Int) (da' db' : Int) (cs' : List (List AV)) (q0 q1 q2 q3 q4 q5 q6 q7 : Int) : Int := match r56a t4 t6 t19_0 t19_1 t19_2 t19_3 t19_4 t19_5 t19_6 t19_7 t19_8 t19_9 t19_10 ws m13 da' db' cs' q0 q1 q2 q3 q4 q5 q6 q7 with
  | some (.inl ⟨m13⟩) => m13
  | _ => default
noncomputable def l56a (st : St) : Option (List (Bool × Ex × St)) := match normV Try.prog [(4, none), (5, none), (6, none), (7, none), (19, none)] 19 st, gt st.t 19 with
  | some ([.i .i64 t4, .p 4 0 0, .i .i64 t6, .p 13 0 0, .fn 88 [.rp [.int .i64, .int .i64, .sl 64] [.i .i64 t19_0, .i .i64 t19_1, .rs 64 t19_2] 0, .rp [.int .i64, .int .i64, .int .i64, .int .i64, .int .i64, .int .i64, .int .i64, .int .i64] [.i .i64 t19_3, .i .i64 t19_4, .i .i64 t19_5, .i .i64 t19_6, .i .i64 t19_7, .i .i64 t19_8, .i .i64 t19_9, .i .i64 t19_10] 0]], [(0, .dead), (1, .dead), (2, .dead), (3, .dead), (4, .row 118 [[.fn 82 [.rp [.sl 3] [.rs 3 ws] 0]]]), (5, .dead), (6, .dead), (7, .dead), (8, .dead), (9, .dead), (10, .dead), (11, .dead), (12, .dead), (13, .row 3 [[.i .i64 m13]]), (14, .dead), (15, .dead), (16, .dead), (17, .dead), (18, .dead)], 19, 32), .fn 88 [.rp [.int .i64, .int .i64, .sl 64] [.i .i64 da', .i .i64 db', .rs 64 cs'] 0, .rp [.int .i64, .int .i64, .int .i64, .int .i64, .int .i64, .int .i64, .int .i64, .int .i64] [.i .i64 q0, .i .i64 q1, .i .i64 q2, .i .i64 q3, .i .i64 q4, .i .i64 q5, .i .i64 q6, .i .i64 q7] 0] => some [(okP da' db' cs' q0 q1 q2 q3 q4 q5 q6 q7 && i56a_0 t4 t6 t19_0 t19_1 t19_2 t19_3 t19_4 t19_5 t19_6 t19_7 t19_8 t19_9 t19_10 ws m13 da' db' cs' q0 q1 q2 q3 q4 q5 q6 q7, .nrm, s56a t4 t6 t19_0 t19_1 t19_2 t19_3 t19_4 t19_5 t19_6 t19_7 t19_8 t19_9 t19_10 ws (v56a_0_m13 t4 t6 t19_0 t19_1 t19_2 t19_3 t19_4 t19_5 t19_6 t19_7 t19_8 t19_9 t19_10 ws m13 da' db' cs' q0 q1 q2 q3 q4 q5 q6 q7))]
  | _, _ => none
noncomputable def L56 : LSpec := fun p st => match p with
  | [false, true, false, true, true, true, true, true] => l56a st
  | _ => none
theorem is56a_0 (t4 : Int) (t6 : Int) (t19_0 : Int) (t19_1 : Int) (t19_2 : List (List AV)) (t19_3 : Int) (t19_4 : Int) (t19_5 : Int) (t19_6 : Int) (t19_7 : Int) (t19_8 : Int) (t19_9 : Int) (t19_10 : Int) (ws : List (List AV)) (m13 : Int) (da' db' : Int) (cs' : List (List AV)) (q0 q1 q2 q3 q4 q5 q6 q7 : Int) (h : i56a_0 t4 t6 t19_0 t19_1 t19_2 t19_3 t19_4 t19_5 t19_6 t19_7 t19_8 t19_9 t19_10 ws m13 da' db' cs' q0 q1 q2 q3 q4 q5 q6 q7 = true) : r56a t4 t6 t19_0 t19_1 t19_2 t19_3 t19_4 t19_5 t19_6 t19_7 t19_8 t19_9 t19_10 ws m13 da' db' cs' q0 q1 q2 q3 q4 q5 q6 q7 = some (.inl ⟨(v56a_0_m13 t4 t6 t19_0 t19_1 t19_2 t19_3 t19_4 t19_5 t19_6 t19_7 t19_8 t19_9 t19_10 ws m13 da' db' cs' q0 q1 q2 q3 q4 q5 q6 q7)⟩) := by
  unfold i56a_0 at h
  unfold v56a_0_m13
  generalize r56a t4 t6 t19_0 t19_1 t19_2 t19_3 t19_4 t19_5 t19_6 t19_7 t19_8 t19_9 t19_10 ws m13 da' db' cs' q0 q1 q2 q3 q4 q5 q6 q7 = r at h ⊢
  rcases r with _ | y
  · cases h
  · rcases y with y | y <;> first | rfl | (cases h; done) | (cases y <;> first | rfl | cases h)
theorem round56a (t4 : Int) (t6 : Int) (t19_0 : Int) (t19_1 : Int) (t19_2 : List (List AV)) (t19_3 : Int) (t19_4 : Int) (t19_5 : Int) (t19_6 : Int) (t19_7 : Int) (t19_8 : Int) (t19_9 : Int) (t19_10 : Int) (ws : List (List AV)) (m13 : Int) (it : List AV) : roundF Try.prog SA7 (ro 56) L56 [20] as56a bd56a [false, true, false, true, true, true, true, true] 19 (s56a t4 t6 t19_0 t19_1 t19_2 t19_3 t19_4 t19_5 t19_6 t19_7 t19_8 t19_9 t19_10 ws m13) (enc8 it) =
    cond (g82 ws (fI it 0) (fI it 1) (fI it 2) (fI it 3) (fI it 4) (fI it 5) (fI it 6) (fI it 7)) (some (.nrm, s56a t4 t6 t19_0 t19_1 t19_2 t19_3 t19_4 t19_5 t19_6 t19_7 t19_8 t19_9 t19_10 ws (bmax m13 (w82_0 ws (fI it 0) (fI it 1) (fI it 2) (fI it 3) (fI it 4) (fI it 5) (fI it 6) (fI it 7))))) (none) := by kernel_rfl
theorem rnd56a (t4 : Int) (t6 : Int) (t19_0 : Int) (t19_1 : Int) (t19_2 : List (List AV)) (t19_3 : Int) (t19_4 : Int) (t19_5 : Int) (t19_6 : Int) (t19_7 : Int) (t19_8 : Int) (t19_9 : Int) (t19_10 : Int) (ws : List (List AV)) (x : S56a) (it : List AV) : roundF Try.prog SA7 (ro 56) L56 [20] as56a bd56a [false, true, false, true, true, true, true, true] 19 ((fun x => s56a t4 t6 t19_0 t19_1 t19_2 t19_3 t19_4 t19_5 t19_6 t19_7 t19_8 t19_9 t19_10 ws x.m13) x) (enc8 it) = toR (fun x => s56a t4 t6 t19_0 t19_1 t19_2 t19_3 t19_4 t19_5 t19_6 t19_7 t19_8 t19_9 t19_10 ws x.m13) (ou56a t4 t6 t19_0 t19_1 t19_2 t19_3 t19_4 t19_5 t19_6 t19_7 t19_8 t19_9 t19_10 ws) (stp56a t4 t6 t19_0 t19_1 t19_2 t19_3 t19_4 t19_5 t19_6 t19_7 t19_8 t19_9 t19_10 ws x.m13 it) := by
  refine (round56a _ _ _ _ _ _ _ _ _ _ _ _ _ _ _ _ ).trans ?_
  unfold stp56a
  simp only [toR_cond]
  rfl
theorem lok56a {st : St} {outs : List (Bool × Ex × St)} {e : Ex} {s : St} {lo : Nat} (hlo : lo ≤ st.nx) (hl : l56a st = some outs) (hch : Chosen outs e s) :
    ∃ keep nb, lo ≤ nb ∧ RB Try.prog SA7 (ro 56) L56 (.tmp 19) [20] as56a bd56a [false, true, false, true, true, true, true, true] keep nb st e s := by
  unfold l56a at hl
  split at hl
  · rename_i t4 t6 t19_0 t19_1 t19_2 t19_3 t19_4 t19_5 t19_6 t19_7 t19_8 t19_9 t19_10 ws m13 da' db' cs' q0 q1 q2 q3 q4 q5 q6 q7 hno hgf
    cases hl
    obtain ⟨hnx, hno⟩ := normV_norm hno
    obtain ⟨x, hx, hg, rfl, rfl⟩ := chosen_any hch
    simp only [List.mem_cons, List.not_mem_nil, or_false] at hx
    subst hx
    have hgg := (Bool.and_eq_true_iff.1 hg).1
    have main := fun y h => rounds_iter (x := (⟨m13⟩ : S56a)) (y := y) (nb := 19) (fun y => by cases y <;> simp [ou56a]) (rnd56a t4 t6 t19_0 t19_1 t19_2 t19_3 t19_4 t19_5 t19_6 t19_7 t19_8 t19_9 t19_10 ws) (xs := patX da' db' cs' q0 q1 q2 q3 q4 q5 q6 q7) h
    refine ⟨_, _, hnx ▸ hlo, _, _, (patX da' db' cs' q0 q1 q2 q3 q4 q5 q6 q7).map enc8, _, hgf, by kernel_rfl, patX_con hgg, fun x hx => enc8_len hx, fun q hq => ?_, hno, rfl, ?_⟩
    · have hn := norm_nt hno
      simp only [List.mem_cons, List.not_mem_nil, or_false] at hq
      subst hq
      rw [← hn]
      exact Nat.le_of_ble_eq_true rfl
    rw [show liveOnly Try.prog { t := (([(4, none), (5, none), (6, none), (7, none), (19, none)] : List (Nat × Option TypeId)).map Prod.fst).zip [.i .i64 t4, .p 4 0 0, .i .i64 t6, .p 13 0 0, .fn 88 [.rp [.int .i64, .int .i64, .sl 64] [.i .i64 t19_0, .i .i64 t19_1, .rs 64 t19_2] 0, .rp [.int .i64, .int .i64, .int .i64, .int .i64, .int .i64, .int .i64, .int .i64, .int .i64] [.i .i64 t19_3, .i .i64 t19_4, .i .i64 t19_5, .i .i64 t19_6, .i .i64 t19_7, .i .i64 t19_8, .i .i64 t19_9, .i .i64 t19_10] 0]], m := [(0, .dead), (1, .dead), (2, .dead), (3, .dead), (4, .row 118 [[.fn 82 [.rp [.sl 3] [.rs 3 ws] 0]]]), (5, .dead), (6, .dead), (7, .dead), (8, .dead), (9, .dead), (10, .dead), (11, .dead), (12, .dead), (13, .row 3 [[.i .i64 m13]]), (14, .dead), (15, .dead), (16, .dead), (17, .dead), (18, .dead)], nx := 19, nt := 32 } = s56a t4 t6 t19_0 t19_1 t19_2 t19_3 t19_4 t19_5 t19_6 t19_7 t19_8 t19_9 t19_10 ws m13 from by kernel_rfl]
    exact main _ (is56a_0 t4 t6 t19_0 t19_1 t19_2 t19_3 t19_4 t19_5 t19_6 t19_7 t19_8 t19_9 t19_10 ws m13 da' db' cs' q0 q1 q2 q3 q4 q5 q6 q7 (Bool.and_eq_true_iff.1 hg).2)
  · cases hl
theorem L56_ok (q : Pl) (c : Code) (hq : locate c56 q.reverse = some (.loop c)) (lo : Nat) (st : St) (outs : List (Bool × Ex × St)) (e : Ex) (s : St) (hlo : lo ≤ st.nx) (hl : L56 q st = some outs) (hch : Chosen outs e s) :
    ∃ keep nb, lo ≤ nb ∧ LB Try.prog SA7 (ro 56) L56 c q keep nb st e s := by
  unfold L56 at hl
  split at hl
  · have : locate c56 ([false, true, false, true, true, true, true, true] : Pl).reverse = some (.rangeFunc (.tmp 19) #[20] as56a bd56a) := by kernel_rfl
    rw [this] at hq
    cases hq
  · cases hl
theorem L56_okR (q : Pl) (g : Operand) (ps : Array Nat) (a b : Code) (hq : locate c56 q.reverse = some (.rangeFunc g ps a b)) (lo : Nat) (st : St) (outs : List (Bool × Ex × St)) (e : Ex) (s : St) (hlo : lo ≤ st.nx) (hl : L56 q st = some outs) (hch : Chosen outs e s) :
    ∃ keep nb, lo ≤ nb ∧ RB Try.prog SA7 (ro 56) L56 g ps.toList a b q keep nb st e s := by
  unfold L56 at hl
  split at hl
  · have : locate c56 ([false, true, false, true, true, true, true, true] : Pl).reverse = some (.rangeFunc (.tmp 19) #[20] as56a bd56a) := by kernel_rfl
    rw [this] at hq
    cases hq
    exact lok56a hlo hl hch
  · cases hl
theorem lok56 : LOK Try.prog SA7 (ro 56) L56 0 false c56 [] :=
  lok_gen L56_ok L56_okR c56 [] 0 false (locate_nil _) (by kernel_rfl)
noncomputable def t56 (da db : Int) (cs : List (List AV)) (ws : List (List AV)) : Tr ((Int)) :=
  .cn (g77 da db cs) (.cn (g82 ws (w77_0 da db cs) (w77_1 da db cs) (w77_2 da db cs) (w77_3 da db cs) (w77_4 da db cs) (w77_5 da db cs) (w77_6 da db cs) (w77_7 da db cs)) (.cn (w82_0 ws (w77_0 da db cs) (w77_1 da db cs) (w77_2 da db cs) (w77_3 da db cs) (w77_4 da db cs) (w77_5 da db cs) (w77_6 da db cs) (w77_7 da db cs) == 0) (.lf (0)) (.cn (g77 da db cs) (.cn (okP (w75_0 da db cs (w77_0 da db cs) (w77_1 da db cs) (w77_2 da db cs) (w77_3 da db cs) (w77_4 da db cs) (w77_5 da db cs) (w77_6 da db cs) (w77_7 da db cs)) (w75_1 da db cs (w77_0 da db cs) (w77_1 da db cs) (w77_2 da db cs) (w77_3 da db cs) (w77_4 da db cs) (w77_5 da db cs) (w77_6 da db cs) (w77_7 da db cs)) (w75_2 da db cs (w77_0 da db cs) (w77_1 da db cs) (w77_2 da db cs) (w77_3 da db cs) (w77_4 da db cs) (w77_5 da db cs) (w77_6 da db cs) (w77_7 da db cs)) (w75_3 da db cs (w77_0 da db cs) (w77_1 da db cs) (w77_2 da db cs) (w77_3 da db cs) (w77_4 da db cs) (w77_5 da db cs) (w77_6 da db cs) (w77_7 da db cs)) (w75_4 da db cs (w77_0 da db cs) (w77_1 da db cs) (w77_2 da db cs) (w77_3 da db cs) (w77_4 da db cs) (w77_5 da db cs) (w77_6 da db cs) (w77_7 da db cs)) (w75_5 da db cs (w77_0 da db cs) (w77_1 da db cs) (w77_2 da db cs) (w77_3 da db cs) (w77_4 da db cs) (w77_5 da db cs) (w77_6 da db cs) (w77_7 da db cs)) (w75_6 da db cs (w77_0 da db cs) (w77_1 da db cs) (w77_2 da db cs) (w77_3 da db cs) (w77_4 da db cs) (w77_5 da db cs) (w77_6 da db cs) (w77_7 da db cs)) (w75_7 da db cs (w77_0 da db cs) (w77_1 da db cs) (w77_2 da db cs) (w77_3 da db cs) (w77_4 da db cs) (w77_5 da db cs) (w77_6 da db cs) (w77_7 da db cs)) (w75_8 da db cs (w77_0 da db cs) (w77_1 da db cs) (w77_2 da db cs) (w77_3 da db cs) (w77_4 da db cs) (w77_5 da db cs) (w77_6 da db cs) (w77_7 da db cs)) (w75_9 da db cs (w77_0 da db cs) (w77_1 da db cs) (w77_2 da db cs) (w77_3 da db cs) (w77_4 da db cs) (w77_5 da db cs) (w77_6 da db cs) (w77_7 da db cs)) (w75_10 da db cs (w77_0 da db cs) (w77_1 da db cs) (w77_2 da db cs) (w77_3 da db cs) (w77_4 da db cs) (w77_5 da db cs) (w77_6 da db cs) (w77_7 da db cs)) && i56a_0 0 (w82_0 ws (w77_0 da db cs) (w77_1 da db cs) (w77_2 da db cs) (w77_3 da db cs) (w77_4 da db cs) (w77_5 da db cs) (w77_6 da db cs) (w77_7 da db cs)) (w75_0 da db cs (w77_0 da db cs) (w77_1 da db cs) (w77_2 da db cs) (w77_3 da db cs) (w77_4 da db cs) (w77_5 da db cs) (w77_6 da db cs) (w77_7 da db cs)) (w75_1 da db cs (w77_0 da db cs) (w77_1 da db cs) (w77_2 da db cs) (w77_3 da db cs) (w77_4 da db cs) (w77_5 da db cs) (w77_6 da db cs) (w77_7 da db cs)) (w75_2 da db cs (w77_0 da db cs) (w77_1 da db cs) (w77_2 da db cs) (w77_3 da db cs) (w77_4 da db cs) (w77_5 da db cs) (w77_6 da db cs) (w77_7 da db cs)) (w75_3 da db cs (w77_0 da db cs) (w77_1 da db cs) (w77_2 da db cs) (w77_3 da db cs) (w77_4 da db cs) (w77_5 da db cs) (w77_6 da db cs) (w77_7 da db cs)) (w75_4 da db cs (w77_0 da db cs) (w77_1 da db cs) (w77_2 da db cs) (w77_3 da db cs) (w77_4 da db cs) (w77_5 da db cs) (w77_6 da db cs) (w77_7 da db cs)) (w75_5 da db cs (w77_0 da db cs) (w77_1 da db cs) (w77_2 da db cs) (w77_3 da db cs) (w77_4 da db cs) (w77_5 da db cs) (w77_6 da db cs) (w77_7 da db cs)) (w75_6 da db cs (w77_0 da db cs) (w77_1 da db cs) (w77_2 da db cs) (w77_3 da db cs) (w77_4 da db cs) (w77_5 da db cs) (w77_6 da db cs) (w77_7 da db cs)) (w75_7 da db cs (w77_0 da db cs) (w77_1 da db cs) (w77_2 da db cs) (w77_3 da db cs) (w77_4 da db cs) (w77_5 da db cs) (w77_6 da db cs) (w77_7 da db cs)) (w75_8 da db cs (w77_0 da db cs) (w77_1 da db cs) (w77_2 da db cs) (w77_3 da db cs) (w77_4 da db cs) (w77_5 da db cs) (w77_6 da db cs) (w77_7 da db cs)) (w75_9 da db cs (w77_0 da db cs) (w77_1 da db cs) (w77_2 da db cs) (w77_3 da db cs) (w77_4 da db cs) (w77_5 da db cs) (w77_6 da db cs) (w77_7 da db cs)) (w75_10 da db cs (w77_0 da db cs) (w77_1 da db cs) (w77_2 da db cs) (w77_3 da db cs) (w77_4 da db cs) (w77_5 da db cs) (w77_6 da db cs) (w77_7 da db cs)) ws 0 (w75_0 da db cs (w77_0 da db cs) (w77_1 da db cs) (w77_2 da db cs) (w77_3 da db cs) (w77_4 da db cs) (w77_5 da db cs) (w77_6 da db cs) (w77_7 da db cs)) (w75_1 da db cs (w77_0 da db cs) (w77_1 da db cs) (w77_2 da db cs) (w77_3 da db cs) (w77_4 da db cs) (w77_5 da db cs) (w77_6 da db cs) (w77_7 da db cs)) (w75_2 da db cs (w77_0 da db cs) (w77_1 da db cs) (w77_2 da db cs) (w77_3 da db cs) (w77_4 da db cs) (w77_5 da db cs) (w77_6 da db cs) (w77_7 da db cs)) (w75_3 da db cs (w77_0 da db cs) (w77_1 da db cs) (w77_2 da db cs) (w77_3 da db cs) (w77_4 da db cs) (w77_5 da db cs) (w77_6 da db cs) (w77_7 da db cs)) (w75_4 da db cs (w77_0 da db cs) (w77_1 da db cs) (w77_2 da db cs) (w77_3 da db cs) (w77_4 da db cs) (w77_5 da db cs) (w77_6 da db cs) (w77_7 da db cs)) (w75_5 da db cs (w77_0 da db cs) (w77_1 da db cs) (w77_2 da db cs) (w77_3 da db cs) (w77_4 da db cs) (w77_5 da db cs) (w77_6 da db cs) (w77_7 da db cs)) (w75_6 da db cs (w77_0 da db cs) (w77_1 da db cs) (w77_2 da db cs) (w77_3 da db cs) (w77_4 da db cs) (w77_5 da db cs) (w77_6 da db cs) (w77_7 da db cs)) (w75_7 da db cs (w77_0 da db cs) (w77_1 da db cs) (w77_2 da db cs) (w77_3 da db cs) (w77_4 da db cs) (w77_5 da db cs) (w77_6 da db cs) (w77_7 da db cs)) (w75_8 da db cs (w77_0 da db cs) (w77_1 da db cs) (w77_2 da db cs) (w77_3 da db cs) (w77_4 da db cs) (w77_5 da db cs) (w77_6 da db cs) (w77_7 da db cs)) (w75_9 da db cs (w77_0 da db cs) (w77_1 da db cs) (w77_2 da db cs) (w77_3 da db cs) (w77_4 da db cs) (w77_5 da db cs) (w77_6 da db cs) (w77_7 da db cs)) (w75_10 da db cs (w77_0 da db cs) (w77_1 da db cs) (w77_2 da db cs) (w77_3 da db cs) (w77_4 da db cs) (w77_5 da db cs) (w77_6 da db cs) (w77_7 da db cs))) (.cn (decide (v56a_0_m13 0 (w82_0 ws (w77_0 da db cs) (w77_1 da db cs) (w77_2 da db cs) (w77_3 da db cs) (w77_4 da db cs) (w77_5 da db cs) (w77_6 da db cs) (w77_7 da db cs)) (w75_0 da db cs (w77_0 da db cs) (w77_1 da db cs) (w77_2 da db cs) (w77_3 da db cs) (w77_4 da db cs) (w77_5 da db cs) (w77_6 da db cs) (w77_7 da db cs)) (w75_1 da db cs (w77_0 da db cs) (w77_1 da db cs) (w77_2 da db cs) (w77_3 da db cs) (w77_4 da db cs) (w77_5 da db cs) (w77_6 da db cs) (w77_7 da db cs)) (w75_2 da db cs (w77_0 da db cs) (w77_1 da db cs) (w77_2 da db cs) (w77_3 da db cs) (w77_4 da db cs) (w77_5 da db cs) (w77_6 da db cs) (w77_7 da db cs)) (w75_3 da db cs (w77_0 da db cs) (w77_1 da db cs) (w77_2 da db cs) (w77_3 da db cs) (w77_4 da db cs) (w77_5 da db cs) (w77_6 da db cs) (w77_7 da db cs)) (w75_4 da db cs (w77_0 da db cs) (w77_1 da db cs) (w77_2 da db cs) (w77_3 da db cs) (w77_4 da db cs) (w77_5 da db cs) (w77_6 da db cs) (w77_7 da db cs)) (w75_5 da db cs (w77_0 da db cs) (w77_1 da db cs) (w77_2 da db cs) (w77_3 da db cs) (w77_4 da db cs) (w77_5 da db cs) (w77_6 da db cs) (w77_7 da db cs)) (w75_6 da db cs (w77_0 da db cs) (w77_1 da db cs) (w77_2 da db cs) (w77_3 da db cs) (w77_4 da db cs) (w77_5 da db cs) (w77_6 da db cs) (w77_7 da db cs)) (w75_7 da db cs (w77_0 da db cs) (w77_1 da db cs) (w77_2 da db cs) (w77_3 da db cs) (w77_4 da db cs) (w77_5 da db cs) (w77_6 da db cs) (w77_7 da db cs)) (w75_8 da db cs (w77_0 da db cs) (w77_1 da db cs) (w77_2 da db cs) (w77_3 da db cs) (w77_4 da db cs) (w77_5 da db cs) (w77_6 da db cs) (w77_7 da db cs)) (w75_9 da db cs (w77_0 da db cs) (w77_1 da db cs) (w77_2 da db cs) (w77_3 da db cs) (w77_4 da db cs) (w77_5 da db cs) (w77_6 da db cs) (w77_7 da db cs)) (w75_10 da db cs (w77_0 da db cs) (w77_1 da db cs) (w77_2 da db cs) (w77_3 da db cs) (w77_4 da db cs) (w77_5 da db cs) (w77_6 da db cs) (w77_7 da db cs)) ws 0 (w75_0 da db cs (w77_0 da db cs) (w77_1 da db cs) (w77_2 da db cs) (w77_3 da db cs) (w77_4 da db cs) (w77_5 da db cs) (w77_6 da db cs) (w77_7 da db cs)) (w75_1 da db cs (w77_0 da db cs) (w77_1 da db cs) (w77_2 da db cs) (w77_3 da db cs) (w77_4 da db cs) (w77_5 da db cs) (w77_6 da db cs) (w77_7 da db cs)) (w75_2 da db cs (w77_0 da db cs) (w77_1 da db cs) (w77_2 da db cs) (w77_3 da db cs) (w77_4 da db cs) (w77_5 da db cs) (w77_6 da db cs) (w77_7 da db cs)) (w75_3 da db cs (w77_0 da db cs) (w77_1 da db cs) (w77_2 da db cs) (w77_3 da db cs) (w77_4 da db cs) (w77_5 da db cs) (w77_6 da db cs) (w77_7 da db cs)) (w75_4 da db cs (w77_0 da db cs) (w77_1 da db cs) (w77_2 da db cs) (w77_3 da db cs) (w77_4 da db cs) (w77_5 da db cs) (w77_6 da db cs) (w77_7 da db cs)) (w75_5 da db cs (w77_0 da db cs) (w77_1 da db cs) (w77_2 da db cs) (w77_3 da db cs) (w77_4 da db cs) (w77_5 da db cs) (w77_6 da db cs) (w77_7 da db cs)) (w75_6 da db cs (w77_0 da db cs) (w77_1 da db cs) (w77_2 da db cs) (w77_3 da db cs) (w77_4 da db cs) (w77_5 da db cs) (w77_6 da db cs) (w77_7 da db cs)) (w75_7 da db cs (w77_0 da db cs) (w77_1 da db cs) (w77_2 da db cs) (w77_3 da db cs) (w77_4 da db cs) (w77_5 da db cs) (w77_6 da db cs) (w77_7 da db cs)) (w75_8 da db cs (w77_0 da db cs) (w77_1 da db cs) (w77_2 da db cs) (w77_3 da db cs) (w77_4 da db cs) (w77_5 da db cs) (w77_6 da db cs) (w77_7 da db cs)) (w75_9 da db cs (w77_0 da db cs) (w77_1 da db cs) (w77_2 da db cs) (w77_3 da db cs) (w77_4 da db cs) (w77_5 da db cs) (w77_6 da db cs) (w77_7 da db cs)) (w75_10 da db cs (w77_0 da db cs) (w77_1 da db cs) (w77_2 da db cs) (w77_3 da db cs) (w77_4 da db cs) (w77_5 da db cs) (w77_6 da db cs) (w77_7 da db cs)) = 0)) (.nn) (.lf (IntKind.i64.wrap ((IntKind.i64.wrap (IntKind.i64.wrap (w82_0 ws (w77_0 da db cs) (w77_1 da db cs) (w77_2 da db cs) (w77_3 da db cs) (w77_4 da db cs) (w77_5 da db cs) (w77_6 da db cs) (w77_7 da db cs) + v56a_0_m13 0 (w82_0 ws (w77_0 da db cs) (w77_1 da db cs) (w77_2 da db cs) (w77_3 da db cs) (w77_4 da db cs) (w77_5 da db cs) (w77_6 da db cs) (w77_7 da db cs)) (w75_0 da db cs (w77_0 da db cs) (w77_1 da db cs) (w77_2 da db cs) (w77_3 da db cs) (w77_4 da db cs) (w77_5 da db cs) (w77_6 da db cs) (w77_7 da db cs)) (w75_1 da db cs (w77_0 da db cs) (w77_1 da db cs) (w77_2 da db cs) (w77_3 da db cs) (w77_4 da db cs) (w77_5 da db cs) (w77_6 da db cs) (w77_7 da db cs)) (w75_2 da db cs (w77_0 da db cs) (w77_1 da db cs) (w77_2 da db cs) (w77_3 da db cs) (w77_4 da db cs) (w77_5 da db cs) (w77_6 da db cs) (w77_7 da db cs)) (w75_3 da db cs (w77_0 da db cs) (w77_1 da db cs) (w77_2 da db cs) (w77_3 da db cs) (w77_4 da db cs) (w77_5 da db cs) (w77_6 da db cs) (w77_7 da db cs)) (w75_4 da db cs (w77_0 da db cs) (w77_1 da db cs) (w77_2 da db cs) (w77_3 da db cs) (w77_4 da db cs) (w77_5 da db cs) (w77_6 da db cs) (w77_7 da db cs)) (w75_5 da db cs (w77_0 da db cs) (w77_1 da db cs) (w77_2 da db cs) (w77_3 da db cs) (w77_4 da db cs) (w77_5 da db cs) (w77_6 da db cs) (w77_7 da db cs)) (w75_6 da db cs (w77_0 da db cs) (w77_1 da db cs) (w77_2 da db cs) (w77_3 da db cs) (w77_4 da db cs) (w77_5 da db cs) (w77_6 da db cs) (w77_7 da db cs)) (w75_7 da db cs (w77_0 da db cs) (w77_1 da db cs) (w77_2 da db cs) (w77_3 da db cs) (w77_4 da db cs) (w77_5 da db cs) (w77_6 da db cs) (w77_7 da db cs)) (w75_8 da db cs (w77_0 da db cs) (w77_1 da db cs) (w77_2 da db cs) (w77_3 da db cs) (w77_4 da db cs) (w77_5 da db cs) (w77_6 da db cs) (w77_7 da db cs)) (w75_9 da db cs (w77_0 da db cs) (w77_1 da db cs) (w77_2 da db cs) (w77_3 da db cs) (w77_4 da db cs) (w77_5 da db cs) (w77_6 da db cs) (w77_7 da db cs)) (w75_10 da db cs (w77_0 da db cs) (w77_1 da db cs) (w77_2 da db cs) (w77_3 da db cs) (w77_4 da db cs) (w77_5 da db cs) (w77_6 da db cs) (w77_7 da db cs)) ws 0 (w75_0 da db cs (w77_0 da db cs) (w77_1 da db cs) (w77_2 da db cs) (w77_3 da db cs) (w77_4 da db cs) (w77_5 da db cs) (w77_6 da db cs) (w77_7 da db cs)) (w75_1 da db cs (w77_0 da db cs) (w77_1 da db cs) (w77_2 da db cs) (w77_3 da db cs) (w77_4 da db cs) (w77_5 da db cs) (w77_6 da db cs) (w77_7 da db cs)) (w75_2 da db cs (w77_0 da db cs) (w77_1 da db cs) (w77_2 da db cs) (w77_3 da db cs) (w77_4 da db cs) (w77_5 da db cs) (w77_6 da db cs) (w77_7 da db cs)) (w75_3 da db cs (w77_0 da db cs) (w77_1 da db cs) (w77_2 da db cs) (w77_3 da db cs) (w77_4 da db cs) (w77_5 da db cs) (w77_6 da db cs) (w77_7 da db cs)) (w75_4 da db cs (w77_0 da db cs) (w77_1 da db cs) (w77_2 da db cs) (w77_3 da db cs) (w77_4 da db cs) (w77_5 da db cs) (w77_6 da db cs) (w77_7 da db cs)) (w75_5 da db cs (w77_0 da db cs) (w77_1 da db cs) (w77_2 da db cs) (w77_3 da db cs) (w77_4 da db cs) (w77_5 da db cs) (w77_6 da db cs) (w77_7 da db cs)) (w75_6 da db cs (w77_0 da db cs) (w77_1 da db cs) (w77_2 da db cs) (w77_3 da db cs) (w77_4 da db cs) (w77_5 da db cs) (w77_6 da db cs) (w77_7 da db cs)) (w75_7 da db cs (w77_0 da db cs) (w77_1 da db cs) (w77_2 da db cs) (w77_3 da db cs) (w77_4 da db cs) (w77_5 da db cs) (w77_6 da db cs) (w77_7 da db cs)) (w75_8 da db cs (w77_0 da db cs) (w77_1 da db cs) (w77_2 da db cs) (w77_3 da db cs) (w77_4 da db cs) (w77_5 da db cs) (w77_6 da db cs) (w77_7 da db cs)) (w75_9 da db cs (w77_0 da db cs) (w77_1 da db cs) (w77_2 da db cs) (w77_3 da db cs) (w77_4 da db cs) (w77_5 da db cs) (w77_6 da db cs) (w77_7 da db cs)) (w75_10 da db cs (w77_0 da db cs) (w77_1 da db cs) (w77_2 da db cs) (w77_3 da db cs) (w77_4 da db cs) (w77_5 da db cs) (w77_6 da db cs) (w77_7 da db cs))) - 1)).tdiv (v56a_0_m13 0 (w82_0 ws (w77_0 da db cs) (w77_1 da db cs) (w77_2 da db cs) (w77_3 da db cs) (w77_4 da db cs) (w77_5 da db cs) (w77_6 da db cs) (w77_7 da db cs)) (w75_0 da db cs (w77_0 da db cs) (w77_1 da db cs) (w77_2 da db cs) (w77_3 da db cs) (w77_4 da db cs) (w77_5 da db cs) (w77_6 da db cs) (w77_7 da db cs)) (w75_1 da db cs (w77_0 da db cs) (w77_1 da db cs) (w77_2 da db cs) (w77_3 da db cs) (w77_4 da db cs) (w77_5 da db cs) (w77_6 da db cs) (w77_7 da db cs)) (w75_2 da db cs (w77_0 da db cs) (w77_1 da db cs) (w77_2 da db cs) (w77_3 da db cs) (w77_4 da db cs) (w77_5 da db cs) (w77_6 da db cs) (w77_7 da db cs)) (w75_3 da db cs (w77_0 da db cs) (w77_1 da db cs) (w77_2 da db cs) (w77_3 da db cs) (w77_4 da db cs) (w77_5 da db cs) (w77_6 da db cs) (w77_7 da db cs)) (w75_4 da db cs (w77_0 da db cs) (w77_1 da db cs) (w77_2 da db cs) (w77_3 da db cs) (w77_4 da db cs) (w77_5 da db cs) (w77_6 da db cs) (w77_7 da db cs)) (w75_5 da db cs (w77_0 da db cs) (w77_1 da db cs) (w77_2 da db cs) (w77_3 da db cs) (w77_4 da db cs) (w77_5 da db cs) (w77_6 da db cs) (w77_7 da db cs)) (w75_6 da db cs (w77_0 da db cs) (w77_1 da db cs) (w77_2 da db cs) (w77_3 da db cs) (w77_4 da db cs) (w77_5 da db cs) (w77_6 da db cs) (w77_7 da db cs)) (w75_7 da db cs (w77_0 da db cs) (w77_1 da db cs) (w77_2 da db cs) (w77_3 da db cs) (w77_4 da db cs) (w77_5 da db cs) (w77_6 da db cs) (w77_7 da db cs)) (w75_8 da db cs (w77_0 da db cs) (w77_1 da db cs) (w77_2 da db cs) (w77_3 da db cs) (w77_4 da db cs) (w77_5 da db cs) (w77_6 da db cs) (w77_7 da db cs)) (w75_9 da db cs (w77_0 da db cs) (w77_1 da db cs) (w77_2 da db cs) (w77_3 da db cs) (w77_4 da db cs) (w77_5 da db cs) (w77_6 da db cs) (w77_7 da db cs)) (w75_10 da db cs (w77_0 da db cs) (w77_1 da db cs) (w77_2 da db cs) (w77_3 da db cs) (w77_4 da db cs) (w77_5 da db cs) (w77_6 da db cs) (w77_7 da db cs)) ws 0 (w75_0 da db cs (w77_0 da db cs) (w77_1 da db cs) (w77_2 da db cs) (w77_3 da db cs) (w77_4 da db cs) (w77_5 da db cs) (w77_6 da db cs) (w77_7 da db cs)) (w75_1 da db cs (w77_0 da db cs) (w77_1 da db cs) (w77_2 da db cs) (w77_3 da db cs) (w77_4 da db cs) (w77_5 da db cs) (w77_6 da db cs) (w77_7 da db cs)) (w75_2 da db cs (w77_0 da db cs) (w77_1 da db cs) (w77_2 da db cs) (w77_3 da db cs) (w77_4 da db cs) (w77_5 da db cs) (w77_6 da db cs) (w77_7 da db cs)) (w75_3 da db cs (w77_0 da db cs) (w77_1 da db cs) (w77_2 da db cs) (w77_3 da db cs) (w77_4 da db cs) (w77_5 da db cs) (w77_6 da db cs) (w77_7 da db cs)) (w75_4 da db cs (w77_0 da db cs) (w77_1 da db cs) (w77_2 da db cs) (w77_3 da db cs) (w77_4 da db cs) (w77_5 da db cs) (w77_6 da db cs) (w77_7 da db cs)) (w75_5 da db cs (w77_0 da db cs) (w77_1 da db cs) (w77_2 da db cs) (w77_3 da db cs) (w77_4 da db cs) (w77_5 da db cs) (w77_6 da db cs) (w77_7 da db cs)) (w75_6 da db cs (w77_0 da db cs) (w77_1 da db cs) (w77_2 da db cs) (w77_3 da db cs) (w77_4 da db cs) (w77_5 da db cs) (w77_6 da db cs) (w77_7 da db cs)) (w75_7 da db cs (w77_0 da db cs) (w77_1 da db cs) (w77_2 da db cs) (w77_3 da db cs) (w77_4 da db cs) (w77_5 da db cs) (w77_6 da db cs) (w77_7 da db cs)) (w75_8 da db cs (w77_0 da db cs) (w77_1 da db cs) (w77_2 da db cs) (w77_3 da db cs) (w77_4 da db cs) (w77_5 da db cs) (w77_6 da db cs) (w77_7 da db cs)) (w75_9 da db cs (w77_0 da db cs) (w77_1 da db cs) (w77_2 da db cs) (w77_3 da db cs) (w77_4 da db cs) (w77_5 da db cs) (w77_6 da db cs) (w77_7 da db cs)) (w75_10 da db cs (w77_0 da db cs) (w77_1 da db cs) (w77_2 da db cs) (w77_3 da db cs) (w77_4 da db cs) (w77_5 da db cs) (w77_6 da db cs) (w77_7 da db cs))))))) (.nn)) (.nn))) (.nn)) (.nn)
noncomputable def g56 (da db : Int) (cs : List (List AV)) (ws : List (List AV)) : Bool := (t56 da db cs ws).g
noncomputable def w56_0 (da db : Int) (cs : List (List AV)) (ws : List (List AV)) : Int := (t56 da db cs ws).val
theorem eq56 (da db : Int) (cs : List (List AV)) (ws : List (List AV)) : evF Try.prog SA7 (ro 56) L56 Try.f56 [.agg [.i .i64 da, .i .i64 db, .rs 64 cs], .rs 3 ws] = (t56 da db cs ws).opt (fun (x : (Int)) => (.i .i64 x : AV)) := by kernel_rfl
theorem con56 (da db : Int) (cs : List (List AV)) (ws : List (List AV)) (h : g56 da db cs ws = true) : Con Try.prog 56 [.agg [.i .i64 da, .i .i64 db, .rs 64 cs], .rs 3 ws] [] (.i .i64 (w56_0 da db cs ws)) [] :=
  con_of SA7_ok mixed Try.func56 (c := c56) rfl (names 56 _ Try.func56) lok56 ((eq56 da db cs ws).trans (Tr.sound _ _ h))
noncomputable def e56 (args : List AV) (rows : List Blk) : Option (Bool × AV × List Blk) := match args, rows with
  | [.agg [.i .i64 da, .i .i64 db, .rs 64 cs], .rs 3 ws], [] => some (g56 da db cs ws, .i .i64 (w56_0 da db cs ws), [])
  | _, _ => none
theorem e56_ok (args : List AV) (rows : List Blk) (pre : Bool) (v : AV) (rows' : List Blk) (h : e56 args rows = some (pre, v, rows')) (hp : pre = true) : Con Try.prog 56 args rows v rows' := by
  unfold e56 at h
  split at h
  · cases h; exact con56 _ _ _ _ hp
  · cases h
-- SPEC 56
end Go.Proofs.Ytgifjphinkbcaaa

set_option maxRecDepth 100000
set_option linter.unusedVariables false
namespace Go.Proofs.Ytgifjphinkbcaaa
open Go Go.Ev
/-! ### Weighing -/
def wq (ws : List (List AV)) (q : Nat → Int) : Nat → Int
  | 0 => 0
  | n + 1 => wq ws q n + vv ws n * q n
theorem wX_wq (ws : List (List AV)) (X : List AV) : ∀ n, wX ws X n = wq ws (fun i => fI X i) n
  | 0 => rfl
  | n + 1 => by
    show wX ws X n + _ = wq ws _ n + _
    rw [wX_wq ws X n]
theorem wq_congr {ws : List (List AV)} {q r : Nat → Int} : ∀ {n : Nat}, (∀ i, i < n → q i = r i) → wq ws q n = wq ws r n
  | 0, _ => rfl
  | n + 1, h => by
    show wq ws q n + vv ws n * q n = wq ws r n + vv ws n * r n
    rw [wq_congr (n := n) (fun i hi => h i (by omega)), h n (by omega)]
theorem wq_bd {ws : List (List AV)} {q : Nat → Int} : ∀ {n : Nat}, (∀ i, i < n → 0 ≤ vv ws i ∧ vv ws i ≤ 1000000) → (∀ i, i < n → 0 ≤ q i ∧ q i ≤ 12) → 0 ≤ wq ws q n ∧ wq ws q n ≤ 12000000 * (n : Int)
  | 0, _, _ => ⟨Int.le_refl _, Int.le_refl _⟩
  | n + 1, h1, h2 => by
    have i1 := wq_bd (n := n) (fun i hi => h1 i (by omega)) (fun i hi => h2 i (by omega))
    obtain ⟨a1, a2⟩ := h1 n (by omega)
    obtain ⟨b1, b2⟩ := h2 n (by omega)
    have c1 : 0 ≤ vv ws n * q n := Int.mul_nonneg a1 b1
    have c2 : vv ws n * q n ≤ 1000000 * 12 := Int.mul_le_mul a2 b2 b1 (by omega)
    show 0 ≤ wq ws q n + vv ws n * q n ∧ wq ws q n + vv ws n * q n ≤ _
    omega
theorem weigh_val {ws : List (List AV)} (q : Nat → Int) (hw : ws.length ≤ 8) (hv : ∀ i, i < ws.length → 0 ≤ vv ws i ∧ vv ws i ≤ 1000000) (hq : ∀ i, i < ws.length → 0 ≤ q i ∧ q i ≤ 12) :
    g82 ws (q 0) (q 1) (q 2) (q 3) (q 4) (q 5) (q 6) (q 7) = true ∧ w82_0 ws (q 0) (q 1) (q 2) (q 3) (q 4) (q 5) (q 6) (q 7) = wq ws q ws.length := by
  have run : ∃ y, r82a (q 0) (q 1) (q 2) (q 3) (q 4) (q 5) (q 6) (q 7) 0 ws (ws.length : Int) 0 0 = some y ∧ ∃ a, y = .x0 (wq ws q ws.length) a := by
    unfold r82a
    refine run_for (S := Unit) ws.length (fun k _ => (⟨wq ws q k, (k : Int)⟩ : S82a)) (fun _ _ => True) (fun _ _ (y : T82a) => ∃ a, y = .x0 (wq ws q ws.length) a) (fun k _ hk _ => ?_) (fun _ _ => ?_) 0 () (Nat.zero_le _) trivial
    · left
      refine ⟨(), ?_, trivial, fun y hy => hy⟩
      show stp82a (q 0) (q 1) (q 2) (q 3) (q 4) (q 5) (q 6) (q 7) 0 ws (ws.length : Int) (wq ws q k) (k : Int) = _
      unfold stp82a
      have h8 : k < 8 := by omega
      have b1 := wq_bd (ws := ws) (q := q) (n := k) (fun i hi => hv i (by omega)) (fun i hi => hq i (by omega))
      obtain ⟨a1, a2⟩ := hv k hk
      obtain ⟨b3, b4⟩ := hq k hk
      have c1 : 0 ≤ vv ws k * q k := Int.mul_nonneg a1 b3
      have c2 : vv ws k * q k ≤ 1000000 * 12 := Int.mul_le_mul a2 b4 b3 (by omega)
      rw [lt_true hk, inb_true hk, inb_true h8, cts8 h8, q_get q h8, Int.toNat_natCast, wrap_succ (by omega)]
      have e0 : fI (ws.getD k []) 0 = vv ws k := rfl
      rw [e0, wrap64 (x := vv ws k * q k) (by omega) (by omega), wrap64 (by omega) (by omega)]
      rfl
    · refine ⟨.x0 (wq ws q ws.length) (ws.length : Int), ?_, _, rfl⟩
      show stp82a (q 0) (q 1) (q 2) (q 3) (q 4) (q 5) (q 6) (q 7) 0 ws (ws.length : Int) (wq ws q ws.length) (ws.length : Int) = _
      unfold stp82a
      rw [lt_false]; rfl
  obtain ⟨y, h1, a, h2⟩ := run
  unfold g82 w82_0 t82 i82a_0 v82a_0_t4
  rw [h1, h2]
  exact ⟨rfl, rfl⟩
theorem map_of {l : List (List AV)} (h : ∀ e, e ∈ l → ∃ Y, e = enc8 Y) : ∃ Xs : List (List AV), l = Xs.map enc8 := by
  induction l with
  | nil => exact ⟨[], rfl⟩
  | cons e l ih =>
    obtain ⟨Y, rfl⟩ := h e (by simp)
    obtain ⟨Xs, rfl⟩ := ih fun e he => h e (by simp [he])
    exact ⟨Y :: Xs, rfl⟩
theorem iterR_max {σ τ : Type} {step : σ → List AV → Lp σ τ} (mk : Int → σ) (f : List AV → Int) : ∀ (l : List (List AV)) (a : Int), (∀ m it, it ∈ l → step (mk m) it = .go (mk (bmax m (f it)))) → ∃ M, iterR step l (mk a) = some (.inl (mk M)) ∧ a ≤ M ∧ (∀ it, it ∈ l → f it ≤ M) ∧ (M = a ∨ ∃ it, it ∈ l ∧ M = f it)
  | [], a, _ => ⟨a, rfl, Int.le_refl _, fun it h => (by cases h), .inl rfl⟩
  | x :: l, a, h => by
    obtain ⟨M, h1, h2, h3, h4⟩ := iterR_max mk f l (bmax a (f x)) fun m it hit => h m it (by simp [hit])
    have hs := h a x (by simp)
    have hb := bmax_le a (f x)
    refine ⟨M, ?_, ?_, fun it hit => ?_, ?_⟩
    · show (match step (mk a) x with | .go y => iterR step l y | .out y => some (.inr y) | .bad => none) = _
      rw [hs]
      exact h1
    · rw [hb] at h2; split at h2 <;> omega
    · rcases List.mem_cons.1 hit with rfl | hit
      · rw [hb] at h2; split at h2 <;> omega
      · exact h3 it hit
    · rcases h4 with h4 | ⟨it, hit, h4⟩
      · rw [hb] at h4
        split at h4
        · exact .inr ⟨x, by simp, h4⟩
        · exact .inl h4
      · exact .inr ⟨it, by simp [hit], h4⟩
theorem bound_val {da db : Int} {cs ws : List (List AV)} (hF : RFine da db cs) (hl : ws.length = cs.length) (hv : ∀ i, i < ws.length → 0 ≤ vv ws i ∧ vv ws i ≤ 1000000) :
    ∃ M, IsMax (fun s => KV (en db cs ws) (da + db) s) M ∧ ((wq ws (mn cs) cs.length ≠ 0 → M ≠ 0) → g56 da db cs ws = true ∧ w56_0 da db cs ws = bndV (wq ws (mn cs) cs.length) M) := by
  have hN := hF.l
  have ha := hF.a
  have hb := hF.b
  obtain ⟨g77t, e0, e1, e2, e3, e4, e5, e6, e7⟩ := wanted_val (da := da) (db := db) hN
  have hmw : ∀ i, i < cs.length → mw cs i = mn cs i := fun i hi => if_pos hi
  have hq : ∀ i, i < ws.length → 0 ≤ mw cs i ∧ mw cs i ≤ 12 := fun i hi => by
    rw [hmw i (by omega)]
    have := hF.c i (by omega)
    unfold okCut at this
    omega
  obtain ⟨wg, wv⟩ := weigh_val (ws := ws) (mw cs) (by omega) hv hq
  have hall : wq ws (mw cs) ws.length = wq ws (mn cs) cs.length := by
    rw [hl]
    exact wq_congr hmw
  rw [hall] at wv
  have hallb := wq_bd (ws := ws) (q := mn cs) (n := cs.length) (fun i hi => hv i (by omega)) (fun i hi => by
    have := hF.c i hi
    unfold okCut at this
    omega)
  -- the patterns
  have hms : ∀ j, j < cs.length → fI [AV.i .i64 (mw cs 0), .i .i64 (mw cs 1), .i .i64 (mw cs 2), .i .i64 (mw cs 3), .i .i64 (mw cs 4), .i .i64 (mw cs 5), .i .i64 (mw cs 6), .i .i64 (mw cs 7)] j = mn cs j := fun j hj => by
    rw [← hmw j hj]
    have h8 : j < 8 := by omega
    rcases j with _ | _ | _ | _ | _ | _ | _ | _ | j
    all_goals first | (exfalso; omega) | rfl
  have ew : IntKind.i64.wrap (da + db) = da + db := wrap64 (by omega) (by omega)
  obtain ⟨l0, X0, p0⟩ := PT_ex hF hms cs.length 0 rfl (Nat.zero_le _) (da + db) zero8 rfl
  have hex : ∃ Xs, Pats da db cs [AV.i .i64 (mw cs 0), .i .i64 (mw cs 1), .i .i64 (mw cs 2), .i .i64 (mw cs 3), .i .i64 (mw cs 4), .i .i64 (mw cs 5), .i .i64 (mw cs 6), .i .i64 (mw cs 7)] Xs := by
    obtain ⟨c1, _⟩ := (PT_claim (ws := ws) hF hms p0 rfl (Nat.zero_le _) (by omega) (by omega)).1 rfl (by omega)
    obtain ⟨Xs, hXs⟩ := map_of fun e he => by
      obtain ⟨Y, s, h, _⟩ := c1 e he
      exact ⟨Y, h⟩
    subst hXs
    refine ⟨Xs, X0, ?_⟩
    rw [ew]
    exact p0
  have hok : okP da db cs (mw cs 0) (mw cs 1) (mw cs 2) (mw cs 3) (mw cs 4) (mw cs 5) (mw cs 6) (mw cs 7) = true := by
    unfold okP
    simp only [decide_eq_true_eq]
    exact hex
  obtain ⟨X', hp⟩ := patX_ok hok
  rw [ew] at hp
  obtain ⟨c1, c2⟩ := (PT_claim (ws := ws) hF hms hp rfl (Nat.zero_le _) (by omega) (by omega)).1 rfl (by omega)
  rw [List.drop_zero] at c1 c2
  have hfx : ∀ it, it ∈ patX da db cs (mw cs 0) (mw cs 1) (mw cs 2) (mw cs 3) (mw cs 4) (mw cs 5) (mw cs 6) (mw cs 7) →
      (g82 ws (fI it 0) (fI it 1) (fI it 2) (fI it 3) (fI it 4) (fI it 5) (fI it 6) (fI it 7) = true) ∧ KV (en db cs ws) (da + db) (w82_0 ws (fI it 0) (fI it 1) (fI it 2) (fI it 3) (fI it 4) (fI it 5) (fI it 6) (fI it 7)) ∧ w82_0 ws (fI it 0) (fI it 1) (fI it 2) (fI it 3) (fI it 4) (fI it 5) (fI it 6) (fI it 7) = wX ws it cs.length := by
    intro it hit
    obtain ⟨Y, s, h1, _, h3, h4, h5⟩ := c1 (enc8 it) (List.mem_map.2 ⟨it, hit, rfl⟩)
    have hi := enc8_inj h1
    obtain ⟨u1, u2⟩ := weigh_val (ws := ws) (fun i => fI it i) (by omega) hv (fun i hi' => by
      show 0 ≤ fI it i ∧ fI it i ≤ 12
      rw [hi i (by omega)]
      exact h3 i (Nat.zero_le _) (by omega))
    have e : wX ws it cs.length = wX ws Y cs.length := wX_congr fun i hi' => hi i (by omega)
    have u3 : w82_0 ws (fI it 0) (fI it 1) (fI it 2) (fI it 3) (fI it 4) (fI it 5) (fI it 6) (fI it 7) = wX ws it cs.length := by
      rw [wX_wq, ← hl]
      exact u2
    refine ⟨u1, ?_, u3⟩
    rw [u3, e, h5]
    show KV (en db cs ws) (da + db) (0 + s)
    rw [Int.zero_add]
    exact h4
  obtain ⟨M, r1, r2, r3, r4⟩ := iterR_max (step := fun (x : S56a) it => stp56a 0 (wq ws (mn cs) cs.length) da db cs (mw cs 0) (mw cs 1) (mw cs 2) (mw cs 3) (mw cs 4) (mw cs 5) (mw cs 6) (mw cs 7) ws x.m13 it) (fun m => (⟨m⟩ : S56a)) (fun it => w82_0 ws (fI it 0) (fI it 1) (fI it 2) (fI it 3) (fI it 4) (fI it 5) (fI it 6) (fI it 7))
    (patX da db cs (mw cs 0) (mw cs 1) (mw cs 2) (mw cs 3) (mw cs 4) (mw cs 5) (mw cs 6) (mw cs 7)) 0 (fun m it hit => by
      show stp56a _ _ _ _ _ _ _ _ _ _ _ _ _ ws m it = _
      unfold stp56a
      rw [(hfx it hit).1]
      rfl)
  have hmax : IsMax (fun s => KV (en db cs ws) (da + db) s) M := by
    refine ⟨r2, fun s hs => ?_, ?_⟩
    · obtain ⟨e, he, Y, h1, h2⟩ := c2 s hs
      obtain ⟨it, hit, rfl⟩ := List.mem_map.1 he
      have hi := enc8_inj h1
      have e : wX ws it cs.length = wX ws Y cs.length := wX_congr fun i hi' => hi i (by omega)
      have := r3 it hit
      rw [(hfx it hit).2.2, e, h2] at this
      have e0 : wX ws zero8 0 = 0 := rfl
      omega
    · rcases r4 with h | ⟨it, hit, h⟩
      · exact .inl h
      · right
        rw [h]
        exact (hfx it hit).2.1
  have hMb : M ≤ 96000000 := by
    rcases r4 with h | ⟨it, hit, h⟩
    · omega
    · obtain ⟨Y, s, h1, _, h3, h4, h5⟩ := c1 (enc8 it) (List.mem_map.2 ⟨it, hit, rfl⟩)
      have hi := enc8_inj h1
      have b := wq_bd (ws := ws) (q := fun i => fI it i) (n := cs.length) (fun i hi => hv i (by omega)) (fun i hi' => by
        show 0 ≤ fI it i ∧ fI it i ≤ 12
        rw [hi i (by omega)]
        exact h3 i (Nat.zero_le _) hi')
      rw [(hfx it hit).2.2, wX_wq] at h
      omega
  refine ⟨M, hmax, fun hne => ?_⟩
  have hr : r56a 0 (wq ws (mn cs) cs.length) da db cs (mw cs 0) (mw cs 1) (mw cs 2) (mw cs 3) (mw cs 4) (mw cs 5) (mw cs 6) (mw cs 7) ws 0 da db cs (mw cs 0) (mw cs 1) (mw cs 2) (mw cs 3) (mw cs 4) (mw cs 5) (mw cs 6) (mw cs 7) = some (.inl ⟨M⟩) := r1
  have q0 : ∀ a b c d e f g h : Int, w75_0 da db cs a b c d e f g h = da ∧ w75_1 da db cs a b c d e f g h = db ∧ w75_2 da db cs a b c d e f g h = cs ∧ w75_3 da db cs a b c d e f g h = a ∧ w75_4 da db cs a b c d e f g h = b ∧ w75_5 da db cs a b c d e f g h = c ∧ w75_6 da db cs a b c d e f g h = d ∧ w75_7 da db cs a b c d e f g h = e ∧ w75_8 da db cs a b c d e f g h = f ∧ w75_9 da db cs a b c d e f g h = g ∧ w75_10 da db cs a b c d e f g h = h := fun _ _ _ _ _ _ _ _ => ⟨rfl, rfl, rfl, rfl, rfl, rfl, rfl, rfl, rfl, rfl, rfl⟩
  unfold g56 w56_0 t56
  simp only [g77t, e0, e1, e2, e3, e4, e5, e6, e7, wg, wv, q0, hok]
  unfold i56a_0 v56a_0_m13
  rw [hr]
  simp only [Bool.and_self]
  unfold bndV
  have hM := hmax.nn
  by_cases h0 : wq ws (mn cs) cs.length = 0
  · have e : (wq ws (mn cs) cs.length == 0) = true := by simpa using h0
    rw [e, if_pos h0]
    exact ⟨rfl, rfl⟩
  · have e : (wq ws (mn cs) cs.length == 0) = false := by simpa using h0
    have hM0 := hne h0
    rw [e, if_neg h0, decide_eq_false hM0, wrap64 (x := wq ws (mn cs) cs.length + M) (by omega) (by omega), wrap64 (x := wq ws (mn cs) cs.length + M - 1) (by omega) (by omega)]
    have hd : 0 ≤ (wq ws (mn cs) cs.length + M - 1).tdiv M ∧ (wq ws (mn cs) cs.length + M - 1).tdiv M ≤ wq ws (mn cs) cs.length + M - 1 := by
      refine ⟨Int.tdiv_nonneg (by omega) (by omega), ?_⟩
      rw [Int.tdiv_eq_ediv_of_nonneg (by omega)]
      exact Int.ediv_le_self _ (by omega)
    rw [wrap64 (by omega) (by omega)]
    exact ⟨rfl, rfl⟩
end Go.Proofs.Ytgifjphinkbcaaa

set_option maxRecDepth 100000
set_option linter.unusedVariables false
namespace Go.Proofs.Ytgifjphinkbcaaa
open Go Go.Ev
/-! ### Both bounds are one -/
theorem flatL_app : ∀ (a b : List (Int × Int × Int)), flatL (a ++ b) = flatL a ++ flatL b
  | [], b => rfl
  | (z, v, m) :: r, b => by
    show List.replicate m.toNat (z, v) ++ flatL (r ++ b) = List.replicate m.toNat (z, v) ++ flatL r ++ flatL b
    rw [flatL_app r b, List.append_assoc]
theorem flat_en (db : Int) (cs ws : List (List AV)) : ∀ k, flatL ((List.range k).map fun j => (ln cs j + db, vv ws j, mn cs j)) = Lz db cs ws (sglTo cs k)
  | 0 => rfl
  | k + 1 => by
    rw [List.range_succ, List.map_append, flatL_app, flat_en db cs ws k]
    show Lz db cs ws (sglTo cs k) ++ (List.replicate (mn cs k).toNat (ln cs k + db, vv ws k) ++ []) = Lz db cs ws (sglTo cs k ++ List.replicate (mn cs k).toNat k)
    unfold Lz
    rw [List.append_nil, List.map_append, List.map_replicate]
theorem sum_rep (n : Nat) (v : Int) : (List.replicate n v).sum = (n : Int) * v := by
  induction n with
  | zero => simp
  | succ n ih =>
    rw [List.replicate_succ, List.sum_cons, ih, Int.natCast_add, Int.add_mul]
    simp
    omega
theorem sum_Lz {db : Int} {cs ws : List (List AV)} : ∀ {k : Nat}, (∀ j, j < k → okCut cs j) → ((Lz db cs ws (sglTo cs k)).map Prod.snd).sum = wq ws (mn cs) k
  | 0, _ => rfl
  | k + 1, h => by
    have ih := sum_Lz (db := db) (ws := ws) (k := k) (fun j hj => h j (by omega))
    have hc := h k (by omega)
    unfold okCut at hc
    show ((Lz db cs ws (sglTo cs k ++ List.replicate (mn cs k).toNat k)).map Prod.snd).sum = wq ws (mn cs) k + vv ws k * mn cs k
    unfold Lz at ih ⊢
    rw [List.map_append, List.map_append, List.sum_append, ih, List.map_replicate, List.map_replicate, sum_rep]
    have : (((mn cs k).toNat : Nat) : Int) = mn cs k := by omega
    rw [this, Int.mul_comm]
theorem KV_none : ∀ {l : List (Int × Int × Int)} {room : Int}, 0 ≤ room → (∀ e, e ∈ l → 0 ≤ e.2.2) → KV l room 0
  | [], room, h, _ => ⟨h, rfl⟩
  | (z, v, m) :: r, room, h, hm => by
    have h0 : 0 ≤ m := hm (z, v, m) (by simp)
    exact ⟨0, h0, by simpa using KV_none h fun e he => hm e (by simp [he])⟩
theorem KV_pos {db da : Int} {cs ws : List (List AV)} (hF : RFine da db cs) (hv : ∀ i, i < cs.length → 0 ≤ vv ws i) (hne : wq ws (mn cs) cs.length ≠ 0) : ∃ s, 0 < s ∧ KV (en db cs ws) (da + db) s := by
  have ha := hF.a
  have hb := hF.b
  have hm : ∀ j, ∀ e, e ∈ (en db cs ws).drop j → 0 ≤ e.2.2 := fun j e he => by
    obtain ⟨i, hi, rfl⟩ := List.mem_map.1 (List.mem_of_mem_drop he)
    have := hF.c i (by simpa using hi)
    unfold okCut at this
    exact this.2.2.1
  -- one that weighs
  have hone : ∃ j, j < cs.length ∧ 0 < vv ws j ∧ 1 ≤ mn cs j := by
    have : ∀ k, k ≤ cs.length → wq ws (mn cs) k ≠ 0 → ∃ j, j < k ∧ 0 < vv ws j ∧ 1 ≤ mn cs j := by
      intro k
      induction k with
      | zero => intro _ h; exact absurd rfl h
      | succ k ih =>
        intro hk h
        have hc := hF.c k (by omega)
        unfold okCut at hc
        have hvk := hv k (by omega)
        by_cases h0 : wq ws (mn cs) k = 0
        · have h : wq ws (mn cs) k + vv ws k * mn cs k ≠ 0 := h
          rw [h0, Int.zero_add] at h
          refine ⟨k, by omega, ?_, ?_⟩
          · rcases Int.lt_or_eq_of_le hvk with h' | h'
            · exact h'
            · rw [← h', Int.zero_mul] at h; exact absurd rfl h
          · rcases Int.lt_or_eq_of_le hc.2.2.1 with h' | h'
            · omega
            · rw [← h', Int.mul_zero] at h; exact absurd rfl h
        · obtain ⟨j, h1, h2⟩ := ih (by omega) h0
          exact ⟨j, by omega, h2⟩
    exact this _ (Nat.le_refl _) hne
  obtain ⟨j, hj, h1, h2⟩ := hone
  have hfj := hF.f j hj
  -- from there back
  have hback : ∀ d i, i + d = j → KV ((en db cs ws).drop i) (da + db) (vv ws j) := by
    intro d
    induction d with
    | zero =>
      intro i hi
      obtain rfl : i = j := by omega
      rw [en_drop hj]
      refine ⟨1, by omega, ?_⟩
      rw [show ((1 : Nat) : Int) * vv ws i = vv ws i by simp, Int.sub_self]
      exact KV_none (by simp; omega) (hm (i + 1))
    | succ d ih =>
      intro i hi
      rw [en_drop (by omega)]
      have hc := hF.c i (by omega)
      unfold okCut at hc
      exact ⟨0, hc.2.2.1, by simpa using ih (i + 1) (by omega)⟩
  refine ⟨vv ws j, h1, ?_⟩
  have := hback j 0 (by omega)
  rwa [List.drop_zero] at this
end Go.Proofs.Ytgifjphinkbcaaa

set_option maxRecDepth 100000
set_option linter.unusedVariables false
namespace Go.Proofs.Ytgifjphinkbcaaa
open Go Go.Ev
noncomputable def SA0 : Ev.Spec := insS 55 e55 (S0)
theorem SA0_ok : SpecOK Try.prog SA0 := insS_ok e55_ok (S0_ok)
end Go.Proofs.Ytgifjphinkbcaaa

set_option maxRecDepth 100000
set_option maxHeartbeats 0
set_option linter.unusedVariables false
namespace Go.Proofs.Ytgifjphinkbcaaa
open Go Go.Ev

/-! ### Bound$1 -/
noncomputable def c54 : Code := match Try.f54.body with | some c => c | _ => .skip
theorem lok54 : LOK Try.prog SA0 (ro 54) (fun _ _ => none) 0 false c54 [] :=
  lok_lo (fun _ _ _ _ _ _ _ h _ => by cases h) c54 [] false (locate_nil _) (by kernel_rfl)
noncomputable def t54 (x : Int) : Tr ((Bool)) :=
  .cn (g55 x 0 1000000) (.lf (!w55_0 x 0 1000000)) (.nn)
noncomputable def g54 (x : Int) : Bool := (t54 x).g
noncomputable def w54_0 (x : Int) : Bool := (t54 x).val
theorem eq54 (x : Int) : evF Try.prog SA0 (ro 54) (fun _ _ => none) Try.f54 [.i .i64 x] = (t54 x).opt (fun (x : (Bool)) => (.b x : AV)) := by kernel_rfl
theorem con54 (x : Int) (h : g54 x = true) : Con Try.prog 54 [.i .i64 x] [] (.b (w54_0 x)) [] :=
  con_of SA0_ok mixed Try.func54 (c := c54) rfl (names 54 _ Try.func54) lok54 ((eq54 x).trans (Tr.sound _ _ h))
noncomputable def e54 (args : List AV) (rows : List Blk) : Option (Bool × AV × List Blk) := match args, rows with
  | [.i .i64 x], [] => some (g54 x, .b (w54_0 x), [])
  | _, _ => none
theorem e54_ok (args : List AV) (rows : List Blk) (pre : Bool) (v : AV) (rows' : List Blk) (h : e54 args rows = some (pre, v, rows')) (hp : pre = true) : Con Try.prog 54 args rows v rows' := by
  unfold e54 at h
  split at h
  · cases h; exact con54 _ hp
  · cases h
-- SPEC 54
end Go.Proofs.Ytgifjphinkbcaaa

set_option maxRecDepth 100000
set_option linter.unusedVariables false
namespace Go.Proofs.Ytgifjphinkbcaaa
open Go Go.Ev
noncomputable def SA5 : Ev.Spec := insS 54 e54 (S0)
theorem SA5_ok : SpecOK Try.prog SA5 := insS_ok e54_ok (S0_ok)
end Go.Proofs.Ytgifjphinkbcaaa

set_option maxRecDepth 100000
set_option maxHeartbeats 0
set_option linter.unusedVariables false
namespace Go.Proofs.Ytgifjphinkbcaaa
open Go Go.Ev

/-! ### IndexFunc[int] -/
noncomputable def c73 : Code := match Try.f73.body with | some c => c | _ => .skip
noncomputable def lp73a : Code := loopAt c73 [true, false, true, false]
noncomputable def s73a (xs : List (List AV)) (t4 : Int) (t7 : Int) (t8 : Int) : St :=
  { t := [(0, .rs 3 xs), (1, .fn 54 []), (4, .i .i64 t4), (7, .i .i64 t7), (8, .i .i64 t8)], m := [], nx := 0, nt := 19 }
structure S73a where
  t8 : Int
inductive T73a where
  | x0 (t4' : Int) (t8 : Int)
  | x1 (t8 : Int)
noncomputable def stp73a (xs : List (List AV)) (t4 : Int) (t7 : Int) (t8 : Int) : Lp S73a T73a :=
  cond (decide (t8 < t7)) (cond (inb t8 xs.length) (cond (g54 (fI (xs.getD t8.toNat []) 0)) (cond (w54_0 (fI (xs.getD t8.toNat []) 0)) (.out (.x0 t8 t8)) (.go ⟨IntKind.i64.wrap (t8 + 1)⟩)) (.bad)) (.bad)) (.out (.x1 t8))
noncomputable def o73a_0 (xs : List (List AV)) (t4 : Int) (t7 : Int) (t4' : Int) (t8 : Int) : St :=
  { t := [(0, .rs 3 xs), (1, .fn 54 []), (4, .i .i64 t4'), (7, .i .i64 t7), (8, .i .i64 t8)], m := [], nx := 0, nt := 19 }
noncomputable def o73a_1 (xs : List (List AV)) (t4 : Int) (t7 : Int) (t8 : Int) : St :=
  { t := [(0, .rs 3 xs), (1, .fn 54 []), (4, .i .i64 t4), (7, .i .i64 t7), (8, .i .i64 t8)], m := [], nx := 0, nt := 19 }
noncomputable def ou73a (xs : List (List AV)) (t4 : Int) (t7 : Int) : T73a → Ex × St
  | .x0 t4' t8 => (.ret, o73a_0 xs t4 t7 t4' t8)
  | .x1 t8 => (.ext 0, o73a_1 xs t4 t7 t8)
noncomputable def r73a (xs : List (List AV)) (t4 : Int) (t7 : Int) (t8 : Int) : Option T73a := run (fun x => stp73a xs t4 t7 x.t8) (⟨t8⟩ : S73a)
noncomputable def i73a_0 (xs : List (List AV)) (t4 : Int) (t7 : Int) (t8 : Int) : Bool := match r73a xs t4 t7 t8 with
  | some (.x0 _ _) => true
  | _ => false
noncomputable def v73a_0_t4' (xs : List (List AV)) (t4 : Int) (t7 : Int) (t8 : Int) : Int := match r73a xs t4 t7 t8 with
  | some (.x0 t4' _) => t4'
  | _ => default
noncomputable def v73a_0_t8 (xs : List (List AV)) (t4 : Int) (t7 : Int) (t8 : Int) : Int := match r73a xs t4 t7 t8 with
  | some (.x0 _ t8) => t8
  | _ => default
noncomputable def i73a_1 (xs : List (List AV)) (t4 : Int) (t7 : Int) (t8 : Int) : Bool := match r73a xs t4 t7 t8 with
  | some (.x1 _) => true
  | _ => false
noncomputable def v73a_1_t8 (xs : List (List AV)) (t4 : Int) (t7 : Int) (t8 : Int) : Int := match r73a xs t4 t7 t8 with
  | some (.x1 t8) => t8
  | _ => default
noncomputable def l73a (st : St) : Option (List (Bool × Ex × St)) := match normW Try.prog [(0, none), (1, none), (4, none), (7, none), (8, none)] 0 st with
  | some ([.rs 3 xs, .fn 54 [], .i .i64 t4, .i .i64 t7, .i .i64 t8], [], 0, 19) => some [(i73a_0 xs t4 t7 t8, .ret, o73a_0 xs t4 t7 (v73a_0_t4' xs t4 t7 t8) (v73a_0_t8 xs t4 t7 t8)), (i73a_1 xs t4 t7 t8, .ext 0, o73a_1 xs t4 t7 (v73a_1_t8 xs t4 t7 t8))]
  | _ => none
noncomputable def L73 : LSpec := fun p st => match p with
  | [false, true, false, true] => l73a st
  | _ => none
theorem is73a_0 (xs : List (List AV)) (t4 : Int) (t7 : Int) (t8 : Int) (h : i73a_0 xs t4 t7 t8 = true) : r73a xs t4 t7 t8 = some (.x0 (v73a_0_t4' xs t4 t7 t8) (v73a_0_t8 xs t4 t7 t8)) := by
  unfold i73a_0 at h
  unfold v73a_0_t4' v73a_0_t8
  generalize r73a xs t4 t7 t8 = r at h ⊢
  rcases r with _ | y
  · cases h
  · cases y <;> first | rfl | cases h
theorem is73a_1 (xs : List (List AV)) (t4 : Int) (t7 : Int) (t8 : Int) (h : i73a_1 xs t4 t7 t8 = true) : r73a xs t4 t7 t8 = some (.x1 (v73a_1_t8 xs t4 t7 t8)) := by
  unfold i73a_1 at h
  unfold v73a_1_t8
  generalize r73a xs t4 t7 t8 = r at h ⊢
  rcases r with _ | y
  · cases h
  · cases y <;> first | rfl | cases h
theorem round73a (xs : List (List AV)) (t4 : Int) (t7 : Int) (t8 : Int) : round Try.prog SA5 (ro 73) L73 lp73a [false, true, false, true] [(0, none), (1, none), (4, none), (7, none), (8, none)] 0 (s73a xs t4 t7 t8) =
    cond (decide (t8 < t7)) (cond (inb t8 xs.length) (cond (g54 (fI (xs.getD t8.toNat []) 0)) (cond (w54_0 (fI (xs.getD t8.toNat []) 0)) (some (.ret, o73a_0 xs t4 t7 t8 t8)) (some (.nrm, s73a xs t4 t7 (IntKind.i64.wrap (t8 + 1))))) (none)) (none)) (some (.ext 0, o73a_1 xs t4 t7 t8)) := by kernel_rfl
theorem rnd73a (xs : List (List AV)) (t4 : Int) (t7 : Int) (x : S73a) : round Try.prog SA5 (ro 73) L73 lp73a [false, true, false, true] [(0, none), (1, none), (4, none), (7, none), (8, none)] 0 ((fun x => s73a xs t4 t7 x.t8) x) = toR (fun x => s73a xs t4 t7 x.t8) (ou73a xs t4 t7) (stp73a xs t4 t7 x.t8) := by
  refine (round73a _ _ _ _ ).trans ?_
  unfold stp73a
  simp only [toR_cond]
  rfl
theorem lok73a {st : St} {outs : List (Bool × Ex × St)} {e : Ex} {s : St} (hl : l73a st = some outs) (hch : Chosen outs e s) :
    ∃ keep nb, 0 ≤ nb ∧ LB Try.prog SA5 (ro 73) L73 lp73a [false, true, false, true] keep nb st e s := by
  unfold l73a at hl
  split at hl
  · rename_i xs t4 t7 t8 hno
    cases hl
    have hno := normW_norm hno
    refine ⟨_, _, ?_, .enter hno ?_⟩
    · decide
    have main := fun y h => LB_run (x := (⟨t8⟩ : S73a)) (y := y) (nb := 0) (fun y => by cases y <;> simp [ou73a]) (rnd73a xs t4 t7) h
    obtain ⟨x, hx, hg, rfl, rfl⟩ := chosen_any hch
    simp only [List.mem_cons, List.not_mem_nil, or_false] at hx
    rcases hx with rfl | rfl
    · exact main _ (is73a_0 xs t4 t7 t8 hg)
    · exact main _ (is73a_1 xs t4 t7 t8 hg)
  · cases hl
theorem L73_ok (q : Pl) (c : Code) (hq : locate c73 q.reverse = some (.loop c)) (st : St) (outs : List (Bool × Ex × St)) (e : Ex) (s : St) (hl : L73 q st = some outs) (hch : Chosen outs e s) :
    ∃ keep nb, 0 ≤ nb ∧ LB Try.prog SA5 (ro 73) L73 c q keep nb st e s := by
  unfold L73 at hl
  split at hl
  · have : locate c73 ([false, true, false, true] : Pl).reverse = some (.loop lp73a) := by kernel_rfl
    rw [this] at hq
    cases hq
    exact lok73a hl hch
  · cases hl
theorem lok73 : LOK Try.prog SA5 (ro 73) L73 0 false c73 [] :=
  lok_lo L73_ok c73 [] false (locate_nil _) (by kernel_rfl)
noncomputable def t73 (xs : List (List AV)) : Tr ((Int)) :=
  .cn (i73a_0 xs 0 (↑xs.length : Int) 0) (.lf (v73a_0_t4' xs 0 (↑xs.length : Int) 0)) (.cn (i73a_1 xs 0 (↑xs.length : Int) 0) (.lf (-1)) (.nn))
noncomputable def g73 (xs : List (List AV)) : Bool := (t73 xs).g
noncomputable def w73_0 (xs : List (List AV)) : Int := (t73 xs).val
theorem eq73 (xs : List (List AV)) : evF Try.prog SA5 (ro 73) L73 Try.f73 [.rs 3 xs, .fn 54 []] = (t73 xs).opt (fun (x : (Int)) => (.i .i64 x : AV)) := by kernel_rfl
theorem con73 (xs : List (List AV)) (h : g73 xs = true) : Con Try.prog 73 [.rs 3 xs, .fn 54 []] [] (.i .i64 (w73_0 xs)) [] :=
  con_of SA5_ok mixed Try.func73 (c := c73) rfl (names 73 _ Try.func73) lok73 ((eq73 xs).trans (Tr.sound _ _ h))
noncomputable def e73 (args : List AV) (rows : List Blk) : Option (Bool × AV × List Blk) := match args, rows with
  | [.rs 3 xs, .fn 54 []], [] => some (g73 xs, .i .i64 (w73_0 xs), [])
  | _, _ => none
theorem e73_ok (args : List AV) (rows : List Blk) (pre : Bool) (v : AV) (rows' : List Blk) (h : e73 args rows = some (pre, v, rows')) (hp : pre = true) : Con Try.prog 73 args rows v rows' := by
  unfold e73 at h
  split at h
  · cases h; exact con73 _ hp
  · cases h
-- SPEC 73
end Go.Proofs.Ytgifjphinkbcaaa

set_option maxRecDepth 100000
set_option linter.unusedVariables false
namespace Go.Proofs.Ytgifjphinkbcaaa
open Go Go.Ev
noncomputable def SA6 : Ev.Spec := insS 73 e73 (S0)
theorem SA6_ok : SpecOK Try.prog SA6 := insS_ok e73_ok (S0_ok)
end Go.Proofs.Ytgifjphinkbcaaa

set_option maxRecDepth 100000
set_option maxHeartbeats 0
set_option linter.unusedVariables false
namespace Go.Proofs.Ytgifjphinkbcaaa
open Go Go.Ev

/-! ### ContainsFunc[int] -/
noncomputable def c53 : Code := match Try.f53.body with | some c => c | _ => .skip
theorem lok53 : LOK Try.prog SA6 (ro 53) (fun _ _ => none) 0 false c53 [] :=
  lok_lo (fun _ _ _ _ _ _ _ h _ => by cases h) c53 [] false (locate_nil _) (by kernel_rfl)
noncomputable def t53 (xs : List (List AV)) : Tr ((Bool)) :=
  .cn (g73 xs) (.lf (decide (w73_0 xs ≥ 0))) (.nn)
noncomputable def g53 (xs : List (List AV)) : Bool := (t53 xs).g
noncomputable def w53_0 (xs : List (List AV)) : Bool := (t53 xs).val
theorem eq53 (xs : List (List AV)) : evF Try.prog SA6 (ro 53) (fun _ _ => none) Try.f53 [.rs 3 xs, .fn 54 []] = (t53 xs).opt (fun (x : (Bool)) => (.b x : AV)) := by kernel_rfl
theorem con53 (xs : List (List AV)) (h : g53 xs = true) : Con Try.prog 53 [.rs 3 xs, .fn 54 []] [] (.b (w53_0 xs)) [] :=
  con_of SA6_ok mixed Try.func53 (c := c53) rfl (names 53 _ Try.func53) lok53 ((eq53 xs).trans (Tr.sound _ _ h))
noncomputable def e53 (args : List AV) (rows : List Blk) : Option (Bool × AV × List Blk) := match args, rows with
  | [.rs 3 xs, .fn 54 []], [] => some (g53 xs, .b (w53_0 xs), [])
  | _, _ => none
theorem e53_ok (args : List AV) (rows : List Blk) (pre : Bool) (v : AV) (rows' : List Blk) (h : e53 args rows = some (pre, v, rows')) (hp : pre = true) : Con Try.prog 53 args rows v rows' := by
  unfold e53 at h
  split at h
  · cases h; exact con53 _ hp
  · cases h
-- SPEC 53
end Go.Proofs.Ytgifjphinkbcaaa

set_option maxRecDepth 100000
set_option linter.unusedVariables false
namespace Go.Proofs.Ytgifjphinkbcaaa
open Go Go.Ev
noncomputable def SA8 : Ev.Spec := insS 56 e56 (insS 53 e53 (insS 24 e24 (S0)))
theorem SA8_ok : SpecOK Try.prog SA8 := insS_ok e56_ok (insS_ok e53_ok (insS_ok e24_ok (S0_ok)))
end Go.Proofs.Ytgifjphinkbcaaa

set_option maxRecDepth 100000
set_option maxHeartbeats 0
set_option linter.unusedVariables false
namespace Go.Proofs.Ytgifjphinkbcaaa
open Go Go.Ev

/-! ### Lower -/
noncomputable def c26 : Code := match Try.f26.body with | some c => c | _ => .skip
noncomputable def lp26a : Code := loopAt c26 [true, true, true, false, true, false]
noncomputable def s26a (da : Int) (db : Int) (cs : List (List AV)) (t2 : Int) (t3 : List (List AV)) (t4 : Int) (t6 : Int) : St :=
  { t := [(1, .rp [.int .i64, .int .i64, .sl 64] [.i .i64 da, .i .i64 db, .rs 64 cs] 0), (2, .i .i64 t2), (3, .gv 0 3 t3), (4, .i .i64 t4), (6, .i .i64 t6)], m := [(0, .fr 3)], nx := 1, nt := 54 }
noncomputable def lp26aa : Code := loopAt c26 [true, true, true, false, true, false, false, true, false, false, true, false, true, false]
noncomputable def s26aa (da : Int) (db : Int) (cs : List (List AV)) (t2 : Int) (t3 : List (List AV)) (t4 : Int) (t6 : Int) (t7 : List (List AV)) (t21 : List (List AV)) (t22 : Int) (t23 : Int) : St :=
  { t := [(1, .rp [.int .i64, .int .i64, .sl 64] [.i .i64 da, .i .i64 db, .rs 64 cs] 0), (2, .i .i64 t2), (3, .gv 0 3 t3), (4, .i .i64 t4), (6, .i .i64 t6), (7, .gv 1 3 t7), (21, .rs 64 t21), (22, .i .i64 t22), (23, .i .i64 t23)], m := [(0, .fr 3), (1, .fr 3)], nx := 2, nt := 54 }
structure S26aa where
  t7 : List (List AV)
  t23 : Int
inductive T26aa where
  | x0 (t7 : List (List AV)) (t23 : Int)
noncomputable def stp26aa (da : Int) (db : Int) (cs : List (List AV)) (t2 : Int) (t3 : List (List AV)) (t4 : Int) (t6 : Int) (t21 : List (List AV)) (t22 : Int) (t7 : List (List AV)) (t23 : Int) : Lp S26aa T26aa :=
  cond (decide (t23 < t22)) (cond (inb t23 t21.length) (cond (decide (IntKind.i64.wrap (da + db) = 0)) (.bad) (cond ((t7.length + [[AV.i IntKind.i64 (IntKind.i64.wrap ((IntKind.i64.wrap (t6 * IntKind.i64.wrap (fI (t21.getD t23.toNat []) 0 + db))).tdiv (IntKind.i64.wrap (da + db))))]].length).ble 9223372036854775807 && true) (cond (((t7.length + [[AV.i IntKind.i64 (IntKind.i64.wrap ((IntKind.i64.wrap (t6 * IntKind.i64.wrap (fI (t21.getD t23.toNat []) 0 + db))).tdiv (IntKind.i64.wrap (da + db))))]].length) * 8).ble 140737488355328) (.go ⟨t7 ++ [[AV.i IntKind.i64 (IntKind.i64.wrap ((IntKind.i64.wrap (t6 * IntKind.i64.wrap (fI (t21.getD t23.toNat []) 0 + db))).tdiv (IntKind.i64.wrap (da + db))))]], IntKind.i64.wrap (t23 + 1)⟩) (.bad)) (.bad))) (.bad)) (.out (.x0 t7 t23))
noncomputable def o26aa_0 (da : Int) (db : Int) (cs : List (List AV)) (t2 : Int) (t3 : List (List AV)) (t4 : Int) (t6 : Int) (t21 : List (List AV)) (t22 : Int) (t7 : List (List AV)) (t23 : Int) : St :=
  { t := [(1, .rp [.int .i64, .int .i64, .sl 64] [.i .i64 da, .i .i64 db, .rs 64 cs] 0), (2, .i .i64 t2), (3, .gv 0 3 t3), (4, .i .i64 t4), (6, .i .i64 t6), (7, .gv 1 3 t7), (21, .rs 64 t21), (22, .i .i64 t22), (23, .i .i64 t23)], m := [(0, .fr 3), (1, .fr 3)], nx := 2, nt := 54 }
noncomputable def ou26aa (da : Int) (db : Int) (cs : List (List AV)) (t2 : Int) (t3 : List (List AV)) (t4 : Int) (t6 : Int) (t21 : List (List AV)) (t22 : Int) : T26aa → Ex × St
  | .x0 t7 t23 => (.ext 2, o26aa_0 da db cs t2 t3 t4 t6 t21 t22 t7 t23)
noncomputable def r26aa (da : Int) (db : Int) (cs : List (List AV)) (t2 : Int) (t3 : List (List AV)) (t4 : Int) (t6 : Int) (t21 : List (List AV)) (t22 : Int) (t7 : List (List AV)) (t23 : Int) : Option T26aa := run (fun x => stp26aa da db cs t2 t3 t4 t6 t21 t22 x.t7 x.t23) (⟨t7, t23⟩ : S26aa)
noncomputable def i26aa_0 (da : Int) (db : Int) (cs : List (List AV)) (t2 : Int) (t3 : List (List AV)) (t4 : Int) (t6 : Int) (t21 : List (List AV)) (t22 : Int) (t7 : List (List AV)) (t23 : Int) : Bool := match r26aa da db cs t2 t3 t4 t6 t21 t22 t7 t23 with
  | some (.x0 _ _) => true
  | _ => false
noncomputable def v26aa_0_t7 (da : Int) (db : Int) (cs : List (List AV)) (t2 : Int) (t3 : List (List AV)) (t4 : Int) (t6 : Int) (t21 : List (List AV)) (t22 : Int) (t7 : List (List AV)) (t23 : Int) : List (List AV) := match r26aa da db cs t2 t3 t4 t6 t21 t22 t7 t23 with
  | some (.x0 t7 _) => t7
  | _ => default
noncomputable def v26aa_0_t23 (da : Int) (db : Int) (cs : List (List AV)) (t2 : Int) (t3 : List (List AV)) (t4 : Int) (t6 : Int) (t21 : List (List AV)) (t22 : Int) (t7 : List (List AV)) (t23 : Int) : Int := match r26aa da db cs t2 t3 t4 t6 t21 t22 t7 t23 with
  | some (.x0 _ t23) => t23
  | _ => default
noncomputable def l26aa (st : St) : Option (List (Bool × Ex × St)) := match normW Try.prog [(1, none), (2, none), (3, some 3), (4, none), (6, none), (7, some 3), (21, none), (22, none), (23, none)] 0 st with
  | some ([.rp [.int .i64, .int .i64, .sl 64] [.i .i64 da, .i .i64 db, .rs 64 cs] 0, .i .i64 t2, .gv 0 3 t3, .i .i64 t4, .i .i64 t6, .gv 1 3 t7, .rs 64 t21, .i .i64 t22, .i .i64 t23], [(0, .fr 3), (1, .fr 3)], 2, 54) => some [(i26aa_0 da db cs t2 t3 t4 t6 t21 t22 t7 t23, .ext 2, o26aa_0 da db cs t2 t3 t4 t6 t21 t22 (v26aa_0_t7 da db cs t2 t3 t4 t6 t21 t22 t7 t23) (v26aa_0_t23 da db cs t2 t3 t4 t6 t21 t22 t7 t23))]
  | _ => none
structure S26a where
  t2 : Int
  t3 : List (List AV)
  t6 : Int
inductive T26a where
  | x0 (t2 : Int) (t3 : List (List AV)) (t6 : Int)
noncomputable def stp26a (da : Int) (db : Int) (cs : List (List AV)) (t4 : Int) (t2 : Int) (t3 : List (List AV)) (t6 : Int) : Lp S26a T26a :=
  cond (decide (t6 ≤ 20)) (cond (i26aa_0 da db cs t2 t3 t4 t6 cs (↑cs.length : Int) [] 0) (cond (g56 da db cs (v26aa_0_t7 da db cs t2 t3 t4 t6 cs (↑cs.length : Int) [] 0)) (cond (decide (w56_0 da db cs (v26aa_0_t7 da db cs t2 t3 t4 t6 cs (↑cs.length : Int) [] 0) > t2)) (.go ⟨w56_0 da db cs (v26aa_0_t7 da db cs t2 t3 t4 t6 cs (↑cs.length : Int) [] 0), v26aa_0_t7 da db cs t2 t3 t4 t6 cs (↑cs.length : Int) [] 0, IntKind.i64.wrap (t6 + 1)⟩) (.go ⟨t2, t3, IntKind.i64.wrap (t6 + 1)⟩)) (.bad)) (.bad)) (.out (.x0 t2 t3 t6))
noncomputable def o26a_0 (da : Int) (db : Int) (cs : List (List AV)) (t4 : Int) (t2 : Int) (t3 : List (List AV)) (t6 : Int) : St :=
  { t := [(1, .rp [.int .i64, .int .i64, .sl 64] [.i .i64 da, .i .i64 db, .rs 64 cs] 0), (2, .i .i64 t2), (3, .gv 0 3 t3), (4, .i .i64 t4), (6, .i .i64 t6)], m := [(0, .fr 3)], nx := 1, nt := 54 }
noncomputable def ou26a (da : Int) (db : Int) (cs : List (List AV)) (t4 : Int) : T26a → Ex × St
  | .x0 t2 t3 t6 => (.ext 0, o26a_0 da db cs t4 t2 t3 t6)
noncomputable def r26a (da : Int) (db : Int) (cs : List (List AV)) (t4 : Int) (t2 : Int) (t3 : List (List AV)) (t6 : Int) : Option T26a := run (fun x => stp26a da db cs t4 x.t2 x.t3 x.t6) (⟨t2, t3, t6⟩ : S26a)
noncomputable def i26a_0 (da : Int) (db : Int) (cs : List (List AV)) (t4 : Int) (t2 : Int) (t3 : List (List AV)) (t6 : Int) : Bool := match r26a da db cs t4 t2 t3 t6 with
  | some (.x0 _ _ _) => true
  | _ => false
noncomputable def v26a_0_t2 (da : Int) (db : Int) (cs : List (List AV)) (t4 : Int) (t2 : Int) (t3 : List (List AV)) (t6 : Int) : Int := match r26a da db cs t4 t2 t3 t6 with
  | some (.x0 t2 _ _) => t2
  | _ => default
noncomputable def v26a_0_t3 (da : Int) (db : Int) (cs : List (List AV)) (t4 : Int) (t2 : Int) (t3 : List (List AV)) (t6 : Int) : List (List AV) := match r26a da db cs t4 t2 t3 t6 with
  | some (.x0 _ t3 _) => t3
  | _ => default
noncomputable def v26a_0_t6 (da : Int) (db : Int) (cs : List (List AV)) (t4 : Int) (t2 : Int) (t3 : List (List AV)) (t6 : Int) : Int := match r26a da db cs t4 t2 t3 t6 with
  | some (.x0 _ _ t6) => t6
  | _ => default
noncomputable def l26a (st : St) : Option (List (Bool × Ex × St)) := match normW Try.prog [(1, none), (2, none), (3, some 3), (4, none), (6, none)] 0 st with
  | some ([.rp [.int .i64, .int .i64, .sl 64] [.i .i64 da, .i .i64 db, .rs 64 cs] 0, .i .i64 t2, .gv 0 3 t3, .i .i64 t4, .i .i64 t6], [(0, .fr 3)], 1, 54) => some [(i26a_0 da db cs t4 t2 t3 t6, .ext 0, o26a_0 da db cs t4 (v26a_0_t2 da db cs t4 t2 t3 t6) (v26a_0_t3 da db cs t4 t2 t3 t6) (v26a_0_t6 da db cs t4 t2 t3 t6))]
  | _ => none
noncomputable def L26 : LSpec := fun p st => match p with
  | [false, true, false, true, false, false, true, false, false, true, false, true, true, true] => l26aa st
  | [false, true, false, true, true, true] => l26a st
  | _ => none
theorem is26aa_0 (da : Int) (db : Int) (cs : List (List AV)) (t2 : Int) (t3 : List (List AV)) (t4 : Int) (t6 : Int) (t21 : List (List AV)) (t22 : Int) (t7 : List (List AV)) (t23 : Int) (h : i26aa_0 da db cs t2 t3 t4 t6 t21 t22 t7 t23 = true) : r26aa da db cs t2 t3 t4 t6 t21 t22 t7 t23 = some (.x0 (v26aa_0_t7 da db cs t2 t3 t4 t6 t21 t22 t7 t23) (v26aa_0_t23 da db cs t2 t3 t4 t6 t21 t22 t7 t23)) := by
  unfold i26aa_0 at h
  unfold v26aa_0_t7 v26aa_0_t23
  generalize r26aa da db cs t2 t3 t4 t6 t21 t22 t7 t23 = r at h ⊢
  rcases r with _ | y
  · cases h
  · cases y <;> first | rfl | cases h
theorem round26aa (da : Int) (db : Int) (cs : List (List AV)) (t2 : Int) (t3 : List (List AV)) (t4 : Int) (t6 : Int) (t7 : List (List AV)) (t21 : List (List AV)) (t22 : Int) (t23 : Int) : round Try.prog SA8 (ro 26) L26 lp26aa [false, true, false, true, false, false, true, false, false, true, false, true, true, true] [(1, none), (2, none), (3, some 3), (4, none), (6, none), (7, some 3), (21, none), (22, none), (23, none)] 0 (s26aa da db cs t2 t3 t4 t6 t7 t21 t22 t23) =
    cond (decide (t23 < t22)) (cond (inb t23 t21.length) (cond (decide (IntKind.i64.wrap (da + db) = 0)) (none) (cond ((t7.length + [[AV.i IntKind.i64 (IntKind.i64.wrap ((IntKind.i64.wrap (t6 * IntKind.i64.wrap (fI (t21.getD t23.toNat []) 0 + db))).tdiv (IntKind.i64.wrap (da + db))))]].length).ble 9223372036854775807 && true) (cond (((t7.length + [[AV.i IntKind.i64 (IntKind.i64.wrap ((IntKind.i64.wrap (t6 * IntKind.i64.wrap (fI (t21.getD t23.toNat []) 0 + db))).tdiv (IntKind.i64.wrap (da + db))))]].length) * 8).ble 140737488355328) (some (.nrm, s26aa da db cs t2 t3 t4 t6 (t7 ++ [[AV.i IntKind.i64 (IntKind.i64.wrap ((IntKind.i64.wrap (t6 * IntKind.i64.wrap (fI (t21.getD t23.toNat []) 0 + db))).tdiv (IntKind.i64.wrap (da + db))))]]) t21 t22 (IntKind.i64.wrap (t23 + 1)))) (none)) (none))) (none)) (some (.ext 2, o26aa_0 da db cs t2 t3 t4 t6 t21 t22 t7 t23)) := by kernel_rfl
theorem rnd26aa (da : Int) (db : Int) (cs : List (List AV)) (t2 : Int) (t3 : List (List AV)) (t4 : Int) (t6 : Int) (t21 : List (List AV)) (t22 : Int) (x : S26aa) : round Try.prog SA8 (ro 26) L26 lp26aa [false, true, false, true, false, false, true, false, false, true, false, true, true, true] [(1, none), (2, none), (3, some 3), (4, none), (6, none), (7, some 3), (21, none), (22, none), (23, none)] 0 ((fun x => s26aa da db cs t2 t3 t4 t6 x.t7 t21 t22 x.t23) x) = toR (fun x => s26aa da db cs t2 t3 t4 t6 x.t7 t21 t22 x.t23) (ou26aa da db cs t2 t3 t4 t6 t21 t22) (stp26aa da db cs t2 t3 t4 t6 t21 t22 x.t7 x.t23) := by
  refine (round26aa _ _ _ _ _ _ _ _ _ _ _ ).trans ?_
  unfold stp26aa
  simp only [toR_cond]
  rfl
theorem lok26aa {st : St} {outs : List (Bool × Ex × St)} {e : Ex} {s : St} (hl : l26aa st = some outs) (hch : Chosen outs e s) :
    ∃ keep nb, 0 ≤ nb ∧ LB Try.prog SA8 (ro 26) L26 lp26aa [false, true, false, true, false, false, true, false, false, true, false, true, true, true] keep nb st e s := by
  unfold l26aa at hl
  split at hl
  · rename_i da db cs t2 t3 t4 t6 t7 t21 t22 t23 hno
    cases hl
    have hno := normW_norm hno
    refine ⟨_, _, ?_, .enter hno ?_⟩
    · decide
    have main := fun y h => LB_run (x := (⟨t7, t23⟩ : S26aa)) (y := y) (nb := 0) (fun y => by cases y <;> simp [ou26aa]) (rnd26aa da db cs t2 t3 t4 t6 t21 t22) h
    obtain ⟨x, hx, hg, rfl, rfl⟩ := chosen_any hch
    simp only [List.mem_cons, List.not_mem_nil, or_false] at hx
    subst hx
    exact main _ (is26aa_0 da db cs t2 t3 t4 t6 t21 t22 t7 t23 hg)
  · cases hl
theorem is26a_0 (da : Int) (db : Int) (cs : List (List AV)) (t4 : Int) (t2 : Int) (t3 : List (List AV)) (t6 : Int) (h : i26a_0 da db cs t4 t2 t3 t6 = true) : r26a da db cs t4 t2 t3 t6 = some (.x0 (v26a_0_t2 da db cs t4 t2 t3 t6) (v26a_0_t3 da db cs t4 t2 t3 t6) (v26a_0_t6 da db cs t4 t2 t3 t6)) := by
  unfold i26a_0 at h
  unfold v26a_0_t2 v26a_0_t3 v26a_0_t6
  generalize r26a da db cs t4 t2 t3 t6 = r at h ⊢
  rcases r with _ | y
  · cases h
  · cases y <;> first | rfl | cases h
theorem round26a (da : Int) (db : Int) (cs : List (List AV)) (t2 : Int) (t3 : List (List AV)) (t4 : Int) (t6 : Int) : round Try.prog SA8 (ro 26) L26 lp26a [false, true, false, true, true, true] [(1, none), (2, none), (3, some 3), (4, none), (6, none)] 0 (s26a da db cs t2 t3 t4 t6) =
    cond (decide (t6 ≤ 20)) (cond (i26aa_0 da db cs t2 t3 t4 t6 cs (↑cs.length : Int) [] 0) (cond (g56 da db cs (v26aa_0_t7 da db cs t2 t3 t4 t6 cs (↑cs.length : Int) [] 0)) (cond (decide (w56_0 da db cs (v26aa_0_t7 da db cs t2 t3 t4 t6 cs (↑cs.length : Int) [] 0) > t2)) (some (.nrm, s26a da db cs (w56_0 da db cs (v26aa_0_t7 da db cs t2 t3 t4 t6 cs (↑cs.length : Int) [] 0)) (v26aa_0_t7 da db cs t2 t3 t4 t6 cs (↑cs.length : Int) [] 0) t4 (IntKind.i64.wrap (t6 + 1)))) (some (.nrm, s26a da db cs t2 t3 t4 (IntKind.i64.wrap (t6 + 1))))) (none)) (none)) (some (.ext 0, o26a_0 da db cs t4 t2 t3 t6)) := by kernel_rfl
theorem rnd26a (da : Int) (db : Int) (cs : List (List AV)) (t4 : Int) (x : S26a) : round Try.prog SA8 (ro 26) L26 lp26a [false, true, false, true, true, true] [(1, none), (2, none), (3, some 3), (4, none), (6, none)] 0 ((fun x => s26a da db cs x.t2 x.t3 t4 x.t6) x) = toR (fun x => s26a da db cs x.t2 x.t3 t4 x.t6) (ou26a da db cs t4) (stp26a da db cs t4 x.t2 x.t3 x.t6) := by
  refine (round26a _ _ _ _ _ _ _ ).trans ?_
  unfold stp26a
  simp only [toR_cond]
  rfl
theorem lok26a {st : St} {outs : List (Bool × Ex × St)} {e : Ex} {s : St} (hl : l26a st = some outs) (hch : Chosen outs e s) :
    ∃ keep nb, 0 ≤ nb ∧ LB Try.prog SA8 (ro 26) L26 lp26a [false, true, false, true, true, true] keep nb st e s := by
  unfold l26a at hl
  split at hl
  · rename_i da db cs t2 t3 t4 t6 hno
    cases hl
    have hno := normW_norm hno
    refine ⟨_, _, ?_, .enter hno ?_⟩
    · decide
    have main := fun y h => LB_run (x := (⟨t2, t3, t6⟩ : S26a)) (y := y) (nb := 0) (fun y => by cases y <;> simp [ou26a]) (rnd26a da db cs t4) h
    obtain ⟨x, hx, hg, rfl, rfl⟩ := chosen_any hch
    simp only [List.mem_cons, List.not_mem_nil, or_false] at hx
    subst hx
    exact main _ (is26a_0 da db cs t4 t2 t3 t6 hg)
  · cases hl
theorem L26_ok (q : Pl) (c : Code) (hq : locate c26 q.reverse = some (.loop c)) (st : St) (outs : List (Bool × Ex × St)) (e : Ex) (s : St) (hl : L26 q st = some outs) (hch : Chosen outs e s) :
    ∃ keep nb, 0 ≤ nb ∧ LB Try.prog SA8 (ro 26) L26 c q keep nb st e s := by
  unfold L26 at hl
  split at hl
  · have : locate c26 ([false, true, false, true, false, false, true, false, false, true, false, true, true, true] : Pl).reverse = some (.loop lp26aa) := by kernel_rfl
    rw [this] at hq
    cases hq
    exact lok26aa hl hch
  · have : locate c26 ([false, true, false, true, true, true] : Pl).reverse = some (.loop lp26a) := by kernel_rfl
    rw [this] at hq
    cases hq
    exact lok26a hl hch
  · cases hl
theorem lok26 : LOK Try.prog SA8 (ro 26) L26 0 false c26 [] :=
  lok_lo L26_ok c26 [] false (locate_nil _) (by kernel_rfl)
noncomputable def t26 (da db : Int) (cs : List (List AV)) : Tr ((Int) × (List (List AV)) × (Int)) :=
  .cn (g24 da db cs) (.cn (w24_0 da db cs != 0) (.lf (0, [], w24_0 da db cs)) (.cn (i26a_0 da db cs 0 (-1) [] 1) (.lf (v26a_0_t2 da db cs 0 (-1) [] 1, v26a_0_t3 da db cs 0 (-1) [] 1, 0)) (.nn))) (.nn)
noncomputable def g26 (da db : Int) (cs : List (List AV)) : Bool := (t26 da db cs).g
noncomputable def w26_0 (da db : Int) (cs : List (List AV)) : Int := (t26 da db cs).val.1
noncomputable def w26_1 (da db : Int) (cs : List (List AV)) : List (List AV) := (t26 da db cs).val.2.1
noncomputable def w26_2 (da db : Int) (cs : List (List AV)) : Int := (t26 da db cs).val.2.2
noncomputable def a26 (da db : Int) (cs : List (List AV)) : Tr AV :=
  .cn (g24 da db cs) (.cn (w24_0 da db cs != 0) (.lf (.tup [.i .i64 0, .nl, .i .i64 (w24_0 da db cs)])) (.cn (i26a_0 da db cs 0 (-1) [] 1) (.lf (.tup [.i .i64 (v26a_0_t2 da db cs 0 (-1) [] 1), .rs 3 (v26a_0_t3 da db cs 0 (-1) [] 1), .i .i64 0])) (.nn))) (.nn)
theorem eq26 (da db : Int) (cs : List (List AV)) : evF Try.prog SA8 (ro 26) L26 Try.f26 [.agg [.i .i64 da, .i .i64 db, .rs 64 cs]] = (a26 da db cs).opt id := by kernel_rfl
theorem wk26 (da db : Int) (cs : List (List AV)) : (a26 da db cs).map (wkV [none, some 3, none]) = (t26 da db cs).map (fun (x : (Int) × (List (List AV)) × (Int)) => (.tup [.i .i64 x.1, .rs 3 x.2.1, .i .i64 x.2.2] : AV)) := by kernel_rfl
theorem con26 (da db : Int) (cs : List (List AV)) (h : g26 da db cs = true) : Con Try.prog 26 [.agg [.i .i64 da, .i .i64 db, .rs 64 cs]] [] (.tup [.i .i64 (w26_0 da db cs), .rs 3 (w26_1 da db cs), .i .i64 (w26_2 da db cs)]) [] := by
  obtain ⟨v, h1, h2⟩ := Tr.soundW (eq26 da db cs) (wk26 da db cs) h
  have := (con_of SA8_ok mixed Try.func26 (c := c26) rfl (names 26 _ Try.func26) lok26 h1).wk [none, some 3, none]
  rw [h2] at this
  exact this
noncomputable def e26 (args : List AV) (rows : List Blk) : Option (Bool × AV × List Blk) := match args, rows with
  | [.agg [.i .i64 da, .i .i64 db, .rs 64 cs]], [] => some (g26 da db cs, .tup [.i .i64 (w26_0 da db cs), .rs 3 (w26_1 da db cs), .i .i64 (w26_2 da db cs)], [])
  | _, _ => none
theorem e26_ok (args : List AV) (rows : List Blk) (pre : Bool) (v : AV) (rows' : List Blk) (h : e26 args rows = some (pre, v, rows')) (hp : pre = true) : Con Try.prog 26 args rows v rows' := by
  unfold e26 at h
  split at h
  · cases h; exact con26 _ _ _ hp
  · cases h
-- SPEC 26
end Go.Proofs.Ytgifjphinkbcaaa

set_option maxRecDepth 100000
set_option linter.unusedVariables false
namespace Go.Proofs.Ytgifjphinkbcaaa
open Go Go.Ev
/-! ### The folds -/
def fold (da db : Int) (cs : List (List AV)) (k : Int) (j : Nat) : Int := (k * (ln cs j + db)).tdiv (da + db)
theorem fold_bd {da db : Int} {cs : List (List AV)} (hF : RFine da db cs) {k : Int} (h0 : 0 ≤ k) (h1 : k ≤ 20) {j : Nat} (hj : j < cs.length) : 0 ≤ fold da db cs k j ∧ fold da db cs k j ≤ 4000000 := by
  have hc := hF.c j hj
  have ha := hF.a
  have hb := hF.b
  unfold okCut at hc
  have hm : 0 ≤ k * (ln cs j + db) := Int.mul_nonneg h0 (by omega)
  have hm2 : k * (ln cs j + db) ≤ 20 * 200000 := Int.mul_le_mul h1 (by omega) (by omega) (by omega)
  unfold fold
  refine ⟨Int.tdiv_nonneg hm (by omega), ?_⟩
  rw [Int.tdiv_eq_ediv_of_nonneg hm]
  exact Int.le_trans (Int.ediv_le_self _ hm) (by omega)
theorem fold_le {da db : Int} {cs : List (List AV)} (hF : RFine da db cs) {k : Int} (h0 : 0 ≤ k) (h1 : k ≤ 20) {j : Nat} (hj : j < cs.length) : fold da db cs k j ≤ 1000000 := by
  have hc := hF.c j hj
  have ha := hF.a
  have hb := hF.b
  have hf := hF.f j hj
  unfold okCut at hc
  have hm : 0 ≤ k * (ln cs j + db) := Int.mul_nonneg h0 (by omega)
  unfold fold
  rw [Int.tdiv_eq_ediv_of_nonneg hm]
  have h2 : k * (ln cs j + db) ≤ 20 * (da + db) := Int.mul_le_mul h1 (by omega) (by omega) (by omega)
  have h3 : k * (ln cs j + db) / (da + db) ≤ 20 * (da + db) / (da + db) := Int.ediv_le_ediv (by omega) h2
  rw [Int.mul_ediv_cancel _ (by omega)] at h3
  omega
theorem ones_succ (f : Nat → Int) (k : Nat) : ones f k ++ [[.i .i64 (f k)]] = ones f (k + 1) := by
  unfold ones
  rw [List.range_succ, List.map_append]
  rfl
theorem fold_step {da db : Int} {cs : List (List AV)} (hF : RFine da db cs) {k : Int} (h0 : 0 ≤ k) (h1 : k ≤ 20) {j : Nat} (hj : j < cs.length) :
    IntKind.i64.wrap ((IntKind.i64.wrap (k * IntKind.i64.wrap (fI (cs.getD j []) 0 + db))).tdiv (IntKind.i64.wrap (da + db))) = fold da db cs k j ∧ decide (IntKind.i64.wrap (da + db) = 0) = false := by
  have hc := hF.c j hj
  have ha := hF.a
  have hb := hF.b
  unfold okCut at hc
  have hm : 0 ≤ k * (ln cs j + db) := Int.mul_nonneg h0 (by omega)
  have hm2 : k * (ln cs j + db) ≤ 20 * 200000 := Int.mul_le_mul h1 (by omega) (by omega) (by omega)
  have e0 : fI (cs.getD j []) 0 = ln cs j := rfl
  have hfb := fold_bd hF h0 h1 hj
  rw [e0, wrap64 (x := ln cs j + db) (by omega) (by omega), wrap64 (x := k * (ln cs j + db)) (by omega) (by omega), wrap64 (x := da + db) (by omega) (by omega)]
  refine ⟨?_, decide_eq_false (by omega)⟩
  show IntKind.i64.wrap (fold da db cs k j) = _
  exact wrap64 (by omega) (by omega)
theorem inner26 {da db t2 t4 : Int} {cs T3 : List (List AV)} (hF : RFine da db cs) {k : Int} (h0 : 0 ≤ k) (h1 : k ≤ 20) : ∃ a, r26aa da db cs t2 T3 t4 k cs (cs.length : Int) [] 0 = some (.x0 (ones (fold da db cs k) cs.length) a) := by
  have hN := hF.l
  have run : ∃ y, r26aa da db cs t2 T3 t4 k cs (cs.length : Int) (ones (fold da db cs k) 0) 0 = some y ∧ ∃ a, y = .x0 (ones (fold da db cs k) cs.length) a := by
    unfold r26aa
    refine run_for (S := Unit) cs.length (fun j _ => (⟨ones (fold da db cs k) j, (j : Int)⟩ : S26aa)) (fun _ _ => True) (fun _ _ (y : T26aa) => ∃ a, y = .x0 (ones (fold da db cs k) cs.length) a) (fun j _ hj _ => ?_) (fun _ _ => ?_) 0 () (Nat.zero_le _) trivial
    · left
      refine ⟨(), ?_, trivial, fun y hy => hy⟩
      show stp26aa da db cs t2 T3 t4 k cs (cs.length : Int) (ones (fold da db cs k) j) (j : Int) = _
      unfold stp26aa
      obtain ⟨f1, f2⟩ := fold_step hF h0 h1 hj
      have l1 : ∀ z : List AV, ((ones (fold da db cs k) j).length + [z].length).ble 9223372036854775807 = true := fun z => by
        rw [Nat.ble_eq, ones_len]
        show j + 1 ≤ _
        omega
      have l2 : ∀ z : List AV, (((ones (fold da db cs k) j).length + [z].length) * 8).ble 140737488355328 = true := fun z => by
        rw [Nat.ble_eq, ones_len]
        show (j + 1) * 8 ≤ _
        omega
      rw [Int.toNat_natCast, f1, f2, l1, l2, lt_true hj, inb_true hj, wrap_succ (by omega), ones_succ]
      rfl
    · refine ⟨.x0 (ones (fold da db cs k) cs.length) (cs.length : Int), ?_, _, rfl⟩
      show stp26aa da db cs t2 T3 t4 k cs (cs.length : Int) (ones (fold da db cs k) cs.length) (cs.length : Int) = _
      unfold stp26aa
      rw [lt_false]; rfl
  obtain ⟨y, h1, a, h2⟩ := run
  exact ⟨a, by rw [← h2]; exact h1⟩
end Go.Proofs.Ytgifjphinkbcaaa

set_option maxRecDepth 100000
set_option maxHeartbeats 0
set_option linter.unusedVariables false
namespace Go.Proofs.Ytgifjphinkbcaaa
open Go Go.Ev

/-! ### Bound -/
noncomputable def c22 : Code := match Try.f22.body with | some c => c | _ => .skip
theorem lok22 : LOK Try.prog SA8 (ro 22) (fun _ _ => none) 0 false c22 [] :=
  lok_lo (fun _ _ _ _ _ _ _ h _ => by cases h) c22 [] false (locate_nil _) (by kernel_rfl)
noncomputable def t22 (da db : Int) (cs : List (List AV)) (ws : List (List AV)) : Tr ((Int) × (Int)) :=
  .cn (g24 da db cs) (.cn (w24_0 da db cs != 0) (.lf (0, w24_0 da db cs)) (.cn ((↑ws.length : Int) != (↑cs.length : Int)) (.lf (0, 1)) (.cn (g53 ws) (.cn (w53_0 ws) (.lf (0, 1)) (.cn (g56 da db cs ws) (.lf (w56_0 da db cs ws, 0)) (.nn))) (.nn)))) (.nn)
noncomputable def g22 (da db : Int) (cs : List (List AV)) (ws : List (List AV)) : Bool := (t22 da db cs ws).g
noncomputable def w22_0 (da db : Int) (cs : List (List AV)) (ws : List (List AV)) : Int := (t22 da db cs ws).val.1
noncomputable def w22_1 (da db : Int) (cs : List (List AV)) (ws : List (List AV)) : Int := (t22 da db cs ws).val.2
theorem eq22 (da db : Int) (cs : List (List AV)) (ws : List (List AV)) : evF Try.prog SA8 (ro 22) (fun _ _ => none) Try.f22 [.agg [.i .i64 da, .i .i64 db, .rs 64 cs], .rs 3 ws] = (t22 da db cs ws).opt (fun (x : (Int) × (Int)) => (.tup [.i .i64 x.1, .i .i64 x.2] : AV)) := by kernel_rfl
theorem con22 (da db : Int) (cs : List (List AV)) (ws : List (List AV)) (h : g22 da db cs ws = true) : Con Try.prog 22 [.agg [.i .i64 da, .i .i64 db, .rs 64 cs], .rs 3 ws] [] (.tup [.i .i64 (w22_0 da db cs ws), .i .i64 (w22_1 da db cs ws)]) [] :=
  con_of SA8_ok mixed Try.func22 (c := c22) rfl (names 22 _ Try.func22) lok22 ((eq22 da db cs ws).trans (Tr.sound _ _ h))
noncomputable def e22 (args : List AV) (rows : List Blk) : Option (Bool × AV × List Blk) := match args, rows with
  | [.agg [.i .i64 da, .i .i64 db, .rs 64 cs], .rs 3 ws], [] => some (g22 da db cs ws, .tup [.i .i64 (w22_0 da db cs ws), .i .i64 (w22_1 da db cs ws)], [])
  | _, _ => none
theorem e22_ok (args : List AV) (rows : List Blk) (pre : Bool) (v : AV) (rows' : List Blk) (h : e22 args rows = some (pre, v, rows')) (hp : pre = true) : Con Try.prog 22 args rows v rows' := by
  unfold e22 at h
  split at h
  · cases h; exact con22 _ _ _ _ hp
  · cases h
-- SPEC 22
end Go.Proofs.Ytgifjphinkbcaaa

set_option maxRecDepth 100000
set_option linter.unusedVariables false
namespace Go.Proofs.Ytgifjphinkbcaaa
open Go Go.Ev
/-! ### No bound is above the plan -/
section
variable {da db : Int} {cs ws : List (List AV)}
theorem KV_vec (hF : RFine da db cs) {p : Nat → Int} (hp : ∀ i, i < cs.length → 0 ≤ p i ∧ p i ≤ mn cs i) (hd : DD db cs p cs.length ≤ da + db) : KV (en db cs ws) (da + db) (wq ws p cs.length) := by
  have key : ∀ d j, j + d = cs.length → KV ((en db cs ws).drop j) (da + db - DD db cs p j) (wq ws p cs.length - wq ws p j) := by
    intro d
    induction d with
    | zero =>
      intro j hj
      obtain rfl : j = cs.length := by omega
      rw [en_end]
      exact ⟨by omega, by omega⟩
    | succ d ih =>
      intro j hj
      have hpj := hp j (by omega)
      rw [en_drop (by omega)]
      refine ⟨(p j).toNat, by omega, ?_⟩
      have h := ih (j + 1) (by omega)
      have e1 : (((p j).toNat : Nat) : Int) = p j := by omega
      have e2 : DD db cs p (j + 1) = DD db cs p j + p j * (ln cs j + db) := rfl
      have e3 : wq ws p (j + 1) = wq ws p j + vv ws j * p j := rfl
      have e4 : vv ws j * p j = p j * vv ws j := Int.mul_comm _ _
      rw [e1, show da + db - DD db cs p j - p j * (ln cs j + db) = da + db - DD db cs p (j + 1) by omega, show wq ws p cs.length - wq ws p j - p j * vv ws j = wq ws p cs.length - wq ws p (j + 1) by omega]
      exact h
  have := key cs.length 0 (by omega)
  rw [List.drop_zero] at this
  have e1 : DD db cs p 0 = 0 := rfl
  have e2 : wq ws p 0 = 0 := rfl
  rw [e1, e2, Int.sub_zero, Int.sub_zero] at this
  exact this
theorem wq_sub (ws : List (List AV)) (q p : Nat → Int) : ∀ n, wq ws (fun i => q i - p i) n = wq ws q n - wq ws p n
  | 0 => rfl
  | n + 1 => by
    show wq ws _ n + vv ws n * (q n - p n) = wq ws q n + vv ws n * q n - (wq ws p n + vv ws n * p n)
    rw [wq_sub ws q p n, Int.mul_sub]
    omega
theorem wq_nil (ws : List (List AV)) {q : Nat → Int} : ∀ {n : Nat}, (∀ i, i < n → q i = 0) → wq ws q n = 0
  | 0, _ => rfl
  | n + 1, h => by
    show wq ws q n + vv ws n * q n = 0
    rw [wq_nil ws (n := n) fun i hi => h i (by omega), h n (by omega), Int.mul_zero]; rfl
theorem Cov.weigh (hF : RFine da db cs) {M : Int} (hM : IsMax (fun s => KV (en db cs ws) (da + db) s) M) {k : Nat} {q : Nat → Int} (h : Cov da db cs k q) : (∀ i, i < cs.length → q i ≤ mn cs i) → wq ws q cs.length ≤ (k : Int) * M := by
  induction h with
  | nil h => intro _; rw [wq_nil ws h]; omega
  | @cons k q p h1 h2 h3 ih =>
    intro hq
    have i1 := ih fun i hi => by have := h1 i hi; have := hq i hi; show q i - p i ≤ _; omega
    rw [wq_sub] at i1
    have i2 := hM.le _ (KV_vec (ws := ws) hF (p := p) (fun i hi => by have := h1 i hi; have := hq i hi; omega) h2)
    rw [Int.natCast_succ, Int.add_mul, Int.one_mul]
    omega
theorem Cov.room (hF : RFine da db cs) {k : Nat} {q : Nat → Int} (h : Cov da db cs k q) : DD db cs q cs.length ≤ (k : Int) * (da + db) := by
  induction h with
  | nil h => rw [DD_zero h]; omega
  | @cons k q p h1 h2 h3 ih =>
    have e : DD db cs q cs.length = DD db cs (fun i => p i + (q i - p i)) cs.length := DD_congr fun i _ => by omega
    rw [e, DD_add, Int.natCast_succ, Int.add_mul, Int.one_mul]
    omega
theorem bnd56 (hF : RFine da db cs) (hl : ws.length = cs.length) (hv : ∀ i, i < ws.length → 0 ≤ vv ws i ∧ vv ws i ≤ 1000000) : g56 da db cs ws = true ∧ w56_0 da db cs ws ≤ (mq da db cs (mn cs) : Int) := by
  obtain ⟨M, m1, m2⟩ := bound_val hF hl hv
  have hne : wq ws (mn cs) cs.length ≠ 0 → M ≠ 0 := fun h => by
    obtain ⟨s, h1, h2⟩ := KV_pos (db := db) hF (fun i hi => (hv i (by omega)).1) h
    have := m1.le s h2
    omega
  obtain ⟨a1, a2⟩ := m2 hne
  refine ⟨a1, ?_⟩
  have hmn : ∀ i, i < cs.length → 0 ≤ mn cs i := fun i hi => by
    have := hF.c i hi
    unfold okCut at this
    omega
  obtain ⟨c1, _, _⟩ := mq_ok hF hmn
  have hw := c1.weigh hF m1 fun i _ => Int.le_refl _
  rw [a2]
  unfold bndV
  have hM0 := m1.nn
  split
  · omega
  · rename_i h
    have := hne h
    have h2 : (wq ws (mn cs) cs.length + M - 1).tdiv M < (mq da db cs (mn cs) : Int) + 1 := by
      rcases Int.lt_or_le (wq ws (mn cs) cs.length + M - 1) 0 with hneg | hpos
      · have : (wq ws (mn cs) cs.length + M - 1).tdiv M ≤ 0 := by
          have e : wq ws (mn cs) cs.length + M - 1 = -(-(wq ws (mn cs) cs.length + M - 1)) := by omega
          rw [e, Int.neg_tdiv]
          have := Int.tdiv_nonneg (a := -(wq ws (mn cs) cs.length + M - 1)) (b := M) (by omega) (by omega)
          omega
        omega
      · rw [Int.tdiv_eq_ediv_of_nonneg hpos]
        refine Int.ediv_lt_of_lt_mul (by omega) ?_
        rw [Int.add_mul, Int.one_mul]
        omega
    omega
theorem bound22 (hF : RFine da db cs) (h0 : w24_0 da db cs = 0) (hl : ws.length = cs.length) (hv : ∀ i, i < ws.length → 0 ≤ vv ws i ∧ vv ws i ≤ 1000000) : g22 da db cs ws = true ∧ w22_0 da db cs ws = w56_0 da db cs ws ∧ w22_1 da db cs ws = 0 := by
  obtain ⟨c1, _, _, _⟩ := rods_eq da db cs
  have hn := hF.l
  have run : ∃ a, r73a ws 0 (ws.length : Int) 0 = some (.x1 a) := by
    have run := run_for (S := Unit) (step := fun x : S73a => stp73a ws 0 (ws.length : Int) x.t8) ws.length (fun k _ => (⟨(k : Int)⟩ : S73a)) (fun _ _ => True) (fun _ _ (y : T73a) => ∃ a, y = .x1 a)
      (fun k _ hk _ => by
        left
        refine ⟨(), ?_, trivial, fun y hy => hy⟩
        have e0 : w54_0 (fI (ws.getD k []) 0) = false := by
          have := hv k hk
          unfold vv at this
          unfold w54_0 t54
          rw [g55_true, w55_eq, decide_eq_true this.1, decide_eq_true this.2]
          rfl
        have e1 : g54 (fI (ws.getD k []) 0) = true := by
          unfold g54 t54
          rw [g55_true]; rfl
        unfold stp73a
        dsimp only
        rw [lt_true hk, inb_true hk, Int.toNat_natCast, e0, e1, wrap_succ (by omega)]
        rfl)
      (fun _ _ => by
        refine ⟨.x1 (ws.length : Int), ?_, _, rfl⟩
        unfold stp73a
        dsimp only
        rw [lt_false]
        rfl)
      0 () (by omega) trivial
    obtain ⟨y, h1, a, h2⟩ := run
    exact ⟨a, by rw [← h2]; exact h1⟩
  obtain ⟨a, hr⟩ := run
  have h73 : g73 ws = true ∧ w73_0 ws = -1 := by
    unfold g73 w73_0 t73 i73a_0 i73a_1
    rw [hr]
    exact ⟨rfl, rfl⟩
  have h53 : g53 ws = true ∧ w53_0 ws = false := by
    unfold g53 w53_0 t53
    rw [h73.1, h73.2]
    exact ⟨rfl, rfl⟩
  obtain ⟨b1, b2⟩ := bnd56 hF hl hv
  have e : ((ws.length : Int) != (cs.length : Int)) = false := by simp [hl]
  have hz : (w24_0 da db cs != 0) = false := by simp [h0]
  unfold g22 w22_0 w22_1 t22
  rw [c1, hz, e, h53.1, h53.2, b1]
  exact ⟨rfl, rfl, rfl⟩
theorem lower_le (hF : RFine da db cs) (h0 : w24_0 da db cs = 0) : g26 da db cs = true ∧ w26_2 da db cs = 0 ∧ w26_0 da db cs ≤ (mq da db cs (mn cs) : Int) := by
  obtain ⟨c1, _, _, _⟩ := rods_eq da db cs
  have run := run_for (S := Int × List (List AV)) (step := fun x : S26a => stp26a da db cs 0 x.t2 x.t3 x.t6) 20 (fun k s => (⟨s.1, s.2, (k : Int) + 1⟩ : S26a)) (fun _ s => s.1 ≤ (mq da db cs (mn cs) : Int)) (fun _ _ (y : T26a) => ∃ a b c, y = .x0 a b c ∧ a ≤ (mq da db cs (mn cs) : Int))
    (fun k s hk hm => by
      obtain ⟨best, T⟩ := s
      left
      obtain ⟨a, ha⟩ := inner26 (t2 := best) (t4 := 0) (T3 := T) hF (k := (k : Int) + 1) (by omega) (by omega)
      have hol : (ones (fold da db cs ((k : Int) + 1)) cs.length).length = cs.length := ones_len _ _
      obtain ⟨q1, q2⟩ := bnd56 (ws := ones (fold da db cs ((k : Int) + 1)) cs.length) hF hol (fun i hi => by
        rw [hol] at hi
        have e : vv (ones (fold da db cs ((k : Int) + 1)) cs.length) i = fold da db cs ((k : Int) + 1) i := by
          unfold vv
          rw [ones_get hi]; rfl
        rw [e]
        exact ⟨(fold_bd hF (by omega) (by omega) hi).1, fold_le hF (by omega) (by omega) hi⟩)
      have d : decide ((k : Int) + 1 ≤ 20) = true := decide_eq_true (by omega)
      have ew : IntKind.i64.wrap ((k : Int) + 1 + 1) = ((k + 1 : Nat) : Int) + 1 := (wrap64 (by omega) (by omega)).trans (by omega)
      by_cases hgt : w56_0 da db cs (ones (fold da db cs ((k : Int) + 1)) cs.length) > best
      · refine ⟨(w56_0 da db cs (ones (fold da db cs ((k : Int) + 1)) cs.length), ones (fold da db cs ((k : Int) + 1)) cs.length), ?_, q2, fun y hy => hy⟩
        show stp26a da db cs 0 best T ((k : Int) + 1) = _
        unfold stp26a i26aa_0 v26aa_0_t7
        rw [ha]
        simp only
        rw [d, q1, decide_eq_true hgt, ew]
        rfl
      · refine ⟨(best, T), ?_, hm, fun y hy => hy⟩
        show stp26a da db cs 0 best T ((k : Int) + 1) = _
        unfold stp26a i26aa_0 v26aa_0_t7
        rw [ha]
        simp only
        rw [d, q1, decide_eq_false hgt, ew]
        rfl)
    (fun s hm => by
      obtain ⟨best, T⟩ := s
      exact ⟨.x0 best T 21, rfl, best, T, 21, rfl, hm⟩)
    0 (-1, []) (by omega) (by show (-1 : Int) ≤ _; omega)
  obtain ⟨y, hy, a, b, c, rfl, hle⟩ := run
  have hy : r26a da db cs 0 (-1) [] 1 = some (.x0 a b c) := hy
  have hz : ((0 : Int) != 0) = false := by decide
  unfold g26 w26_0 w26_2 t26 i26a_0 v26a_0_t2
  rw [c1, h0, hz, hy]
  exact ⟨rfl, rfl, hle⟩
end
end Go.Proofs.Ytgifjphinkbcaaa

set_option maxRecDepth 100000
set_option linter.unusedVariables false
namespace Go.Proofs.Ytgifjphinkbcaaa
open Go Go.Ev
/-- Rods that are handed in. -/
theorem rods_of {a : AV} (h : TyArg Try.prog 35 a) : ∃ da db cs, a = .agg [.i .i64 da, .i .i64 db, .rs 64 cs] := by
  obtain ⟨bs, rfl, hw⟩ := ty_agg (c := [.int .i64, .int .i64, .sl 64]) (by kernel_rfl) (by kernel_rfl) h
  obtain ⟨b0, q0, rfl, w0, hw⟩ := WTs_cons hw
  obtain ⟨b1, q1, rfl, w1, hw⟩ := WTs_cons hw
  obtain ⟨b3, q3, rfl, w3, hw⟩ := WTs_cons hw
  obtain rfl := WTs_nil hw
  obtain ⟨ra, rfl, r1⟩ := WT_int w0
  obtain ⟨rb, rfl, r2⟩ := WT_int w1
  obtain ⟨ps, rfl, _⟩ := WT_sl w3
  exact ⟨ra, rb, ps, rfl⟩
end Go.Proofs.Ytgifjphinkbcaaa

set_option linter.unusedVariables false
namespace Go.Proofs.Ytgifjphinkbcaaa
open Go Go.Ev
noncomputable def e19 (args : List AV) (rows : List Blk) : Option (Bool × AV × List Blk) := match args, rows with
  | [], [] => some (true, .b true, [])
  | _, _ => none
theorem e19_ok (args : List AV) (rows : List Blk) (pre : Bool) (v : AV) (rows' : List Blk) (h : e19 args rows = some (pre, v, rows')) (hp : pre = true) : Con Try.prog 19 args rows v rows' := by
  unfold e19 at h
  split at h
  · cases h; exact lives_con
  · cases h
-- SPEC 19
end Go.Proofs.Ytgifjphinkbcaaa

set_option maxRecDepth 100000
set_option linter.unusedVariables false
namespace Go.Proofs.Ytgifjphinkbcaaa
open Go Go.Ev
noncomputable def SQ16 : Ev.Spec := insS 22 e22 (insS 45 e45 (insS 19 e19 (S0)))
theorem SQ16_ok : SpecOK Try.prog SQ16 := insS_ok e22_ok (insS_ok e45_ok (insS_ok e19_ok (S0_ok)))
end Go.Proofs.Ytgifjphinkbcaaa

set_option maxRecDepth 100000
set_option maxHeartbeats 0
set_option linter.unusedVariables false
namespace Go.Proofs.Ytgifjphinkbcaaa
open Go Go.Ev

/-! ### RidgeAlike -/
noncomputable def c16 : Code := match Try.f16.body with | some c => c | _ => .skip
theorem lok16 : LOK Try.prog SQ16 (ro 16) (fun _ _ => none) 0 false c16 [] :=
  lok_lo (fun _ _ _ _ _ _ _ h _ => by cases h) c16 [] false (locate_nil _) (by kernel_rfl)
noncomputable def t16 (x y z v : Int) : Tr ((Bool)) :=
  .cn (decide (IntKind.i64.wrap (1 + IntKind.i64.wrap x) = 0)) (.nn) (.cn (decide (IntKind.i64.wrap (IntKind.i64.wrap (1 + (IntKind.i64.wrap y).tmod (IntKind.i64.wrap (1 + IntKind.i64.wrap x))) + IntKind.i64.wrap z) = 0)) (.nn) (.cn (decide (IntKind.i64.wrap ((IntKind.i64.wrap (IntKind.i64.wrap (1 + IntKind.i64.wrap x) + IntKind.i64.wrap z)).tdiv (IntKind.i64.wrap (IntKind.i64.wrap (1 + (IntKind.i64.wrap y).tmod (IntKind.i64.wrap (1 + IntKind.i64.wrap x))) + IntKind.i64.wrap z))) = 0)) (.nn) (.cn (g45 (IntKind.i64.wrap (1 + IntKind.i64.wrap x)) (IntKind.i64.wrap z) [[AV.i IntKind.i64 (IntKind.i64.wrap (1 + (IntKind.i64.wrap y).tmod (IntKind.i64.wrap (1 + IntKind.i64.wrap x)))), AV.i IntKind.i64 ((IntKind.i64.wrap v).tmod 10)]]) (.cn (g22 (IntKind.i64.wrap (1 + IntKind.i64.wrap x)) (IntKind.i64.wrap z) [[AV.i IntKind.i64 (IntKind.i64.wrap (1 + (IntKind.i64.wrap y).tmod (IntKind.i64.wrap (1 + IntKind.i64.wrap x)))), AV.i IntKind.i64 ((IntKind.i64.wrap v).tmod 10)]] [[AV.i IntKind.i64 1]]) (.cn (w45_1 (IntKind.i64.wrap (1 + IntKind.i64.wrap x)) (IntKind.i64.wrap z) [[AV.i IntKind.i64 (IntKind.i64.wrap (1 + (IntKind.i64.wrap y).tmod (IntKind.i64.wrap (1 + IntKind.i64.wrap x)))), AV.i IntKind.i64 ((IntKind.i64.wrap v).tmod 10)]] == 0) (.cn (w22_1 (IntKind.i64.wrap (1 + IntKind.i64.wrap x)) (IntKind.i64.wrap z) [[AV.i IntKind.i64 (IntKind.i64.wrap (1 + (IntKind.i64.wrap y).tmod (IntKind.i64.wrap (1 + IntKind.i64.wrap x)))), AV.i IntKind.i64 ((IntKind.i64.wrap v).tmod 10)]] [[AV.i IntKind.i64 1]] == 0) (.cn ((↑(w45_0 (IntKind.i64.wrap (1 + IntKind.i64.wrap x)) (IntKind.i64.wrap z) [[AV.i IntKind.i64 (IntKind.i64.wrap (1 + (IntKind.i64.wrap y).tmod (IntKind.i64.wrap (1 + IntKind.i64.wrap x)))), AV.i IntKind.i64 ((IntKind.i64.wrap v).tmod 10)]]).length : Int) == IntKind.i64.wrap ((IntKind.i64.wrap (IntKind.i64.wrap ((IntKind.i64.wrap v).tmod 10 + IntKind.i64.wrap ((IntKind.i64.wrap (IntKind.i64.wrap (1 + IntKind.i64.wrap x) + IntKind.i64.wrap z)).tdiv (IntKind.i64.wrap (IntKind.i64.wrap (1 + (IntKind.i64.wrap y).tmod (IntKind.i64.wrap (1 + IntKind.i64.wrap x))) + IntKind.i64.wrap z)))) - 1)).tdiv (IntKind.i64.wrap ((IntKind.i64.wrap (IntKind.i64.wrap (1 + IntKind.i64.wrap x) + IntKind.i64.wrap z)).tdiv (IntKind.i64.wrap (IntKind.i64.wrap (1 + (IntKind.i64.wrap y).tmod (IntKind.i64.wrap (1 + IntKind.i64.wrap x))) + IntKind.i64.wrap z)))))) (.cn (w22_0 (IntKind.i64.wrap (1 + IntKind.i64.wrap x)) (IntKind.i64.wrap z) [[AV.i IntKind.i64 (IntKind.i64.wrap (1 + (IntKind.i64.wrap y).tmod (IntKind.i64.wrap (1 + IntKind.i64.wrap x)))), AV.i IntKind.i64 ((IntKind.i64.wrap v).tmod 10)]] [[AV.i IntKind.i64 1]] == IntKind.i64.wrap ((IntKind.i64.wrap (IntKind.i64.wrap ((IntKind.i64.wrap v).tmod 10 + IntKind.i64.wrap ((IntKind.i64.wrap (IntKind.i64.wrap (1 + IntKind.i64.wrap x) + IntKind.i64.wrap z)).tdiv (IntKind.i64.wrap (IntKind.i64.wrap (1 + (IntKind.i64.wrap y).tmod (IntKind.i64.wrap (1 + IntKind.i64.wrap x))) + IntKind.i64.wrap z)))) - 1)).tdiv (IntKind.i64.wrap ((IntKind.i64.wrap (IntKind.i64.wrap (1 + IntKind.i64.wrap x) + IntKind.i64.wrap z)).tdiv (IntKind.i64.wrap (IntKind.i64.wrap (1 + (IntKind.i64.wrap y).tmod (IntKind.i64.wrap (1 + IntKind.i64.wrap x))) + IntKind.i64.wrap z)))))) (.lf (true)) (.lf (false))) (.lf (false))) (.lf (false))) (.lf (false))) (.nn)) (.nn))))
noncomputable def g16 (x y z v : Int) : Bool := (t16 x y z v).g
noncomputable def w16_0 (x y z v : Int) : Bool := (t16 x y z v).val
theorem eq16 (x y z v : Int) : evF Try.prog SQ16 (ro 16) (fun _ _ => none) Try.f16 [.i .u16 x, .i .u16 y, .i .u8 z, .i .u8 v] = (t16 x y z v).opt (fun (x : (Bool)) => (.b x : AV)) := by kernel_rfl
theorem con16 (x y z v : Int) (h : g16 x y z v = true) : Con Try.prog 16 [.i .u16 x, .i .u16 y, .i .u8 z, .i .u8 v] [] (.b (w16_0 x y z v)) [] :=
  con_of SQ16_ok mixed Try.func16 (c := c16) rfl (names 16 _ Try.func16) lok16 ((eq16 x y z v).trans (Tr.sound _ _ h))
noncomputable def e16 (args : List AV) (rows : List Blk) : Option (Bool × AV × List Blk) := match args, rows with
  | [.i .u16 x, .i .u16 y, .i .u8 z, .i .u8 v], [] => some (g16 x y z v, .b (w16_0 x y z v), [])
  | _, _ => none
theorem e16_ok (args : List AV) (rows : List Blk) (pre : Bool) (v : AV) (rows' : List Blk) (h : e16 args rows = some (pre, v, rows')) (hp : pre = true) : Con Try.prog 16 args rows v rows' := by
  unfold e16 at h
  split at h
  · cases h; exact con16 _ _ _ _ hp
  · cases h
-- SPEC 16
end Go.Proofs.Ytgifjphinkbcaaa

set_option maxRecDepth 100000
set_option linter.unusedVariables false
namespace Go.Proofs.Ytgifjphinkbcaaa
open Go Go.Ev
/-! ### RidgeAlike -/
theorem fine_ok {da db : Int} {cs : List (List AV)} (hF : RFine da db cs) : w24_0 da db cs = 0 := by
  have hl := hF.l
  have ha := hF.a
  have hb := hF.b
  have r1 : ∃ a, r24a da db cs 0 cs (cs.length : Int) 0 0 = some (.x1 (smn cs cs.length) a) := by
    have run := run_for (S := Unit) (step := fun x : S24a => stp24a da db cs 0 cs (cs.length : Int) x.t3 x.t25) cs.length (fun k _ => (⟨smn cs k, (k : Int)⟩ : S24a)) (fun _ _ => True) (fun _ _ (y : T24a) => ∃ a, y = .x1 (smn cs cs.length) a)
      (fun k _ hk _ => by
        left
        refine ⟨(), ?_, trivial, fun y hy => hy⟩
        have hc := hF.c k hk
        have hsm := smn_le (cs := cs) (k := k) (fun j hj => hF.c j (by omega))
        unfold okCut at hc
        have e0 : fI (cs.getD k []) 0 = ln cs k := rfl
        have e1 : fI (cs.getD k []) 1 = mn cs k := rfl
        unfold stp24a
        dsimp only
        rw [lt_true hk, inb_true hk, Int.toNat_natCast, e0, e1, g55_true, g55_true, w55_eq, w55_eq, decide_eq_true hc.1, decide_eq_true hc.2.1, decide_eq_true hc.2.2.1, decide_eq_true hc.2.2.2, wrap64 (x := smn cs k + mn cs k) (by omega) (by omega), wrap_succ (by omega)]
        rfl)
      (fun _ _ => by
        refine ⟨.x1 (smn cs cs.length) (cs.length : Int), ?_, _, rfl⟩
        unfold stp24a
        dsimp only
        rw [lt_false]; rfl)
      0 () (by omega) trivial
    obtain ⟨y, h1, a, h2⟩ := run
    exact ⟨a, by rw [← h2]; exact h1⟩
  have r2 : ∃ a, r83a cs da db cs 0 (cs.length : Int) 0 = some (.x1 a) := by
    have run := run_for (S := Unit) (step := fun x : S83a => stp83a cs da db cs 0 (cs.length : Int) x.t8) cs.length (fun k _ => (⟨(k : Int)⟩ : S83a)) (fun _ _ => True) (fun _ _ (y : T83a) => ∃ a, y = .x1 a)
      (fun k _ hk _ => by
        left
        refine ⟨(), ?_, trivial, fun y hy => hy⟩
        have hc := hF.f k hk
        have e1 : w60_0 da db cs (fI (cs.getD k []) 0) (fI (cs.getD k []) 1) = false := by
          show decide (ln cs k > da) = false
          exact decide_eq_false (by omega)
        unfold stp83a
        dsimp only
        rw [lt_true hk, inb_true hk, Int.toNat_natCast, e1, wrap_succ (by omega)]
        rfl)
      (fun _ _ => by
        refine ⟨.x1 (cs.length : Int), ?_, _, rfl⟩
        unfold stp83a
        dsimp only
        rw [lt_false]; rfl)
      0 () (by omega) trivial
    obtain ⟨y, h1, a, h2⟩ := run
    exact ⟨a, by rw [← h2]; exact h1⟩
  obtain ⟨a, r1⟩ := r1
  obtain ⟨b, r2⟩ := r2
  obtain ⟨h83, _, h83b⟩ := w83_val r2
  have h59 : g59 cs da db cs = true ∧ w59_0 cs da db cs = false := by
    unfold g59 w59_0 t59
    rw [h83, h83b b rfl]
    exact ⟨rfl, rfl⟩
  have hs := hF.s
  unfold w24_0 t24
  rw [g55_true, g55_true, w55_eq, w55_eq, decide_eq_true ha.1, decide_eq_true ha.2, decide_eq_true hb.1, decide_eq_true hb.2, decide_eq_false (show ¬ (cs.length : Int) > 8 by omega)]
  unfold i24a_0 i24a_1 v24a_1_t3
  rw [r1]
  dsimp only
  rw [decide_eq_false (show ¬ smn cs cs.length > 12 by omega), h59.1, h59.2]
  rfl
/-- Cuts of one kind. -/
def one (L m : Int) : List (List AV) := [[.i .i64 L, .i .i64 m]]
theorem one_fine {da db L m : Int} (ha : 1 ≤ da ∧ da ≤ 100000) (hb : 0 ≤ db ∧ db ≤ 100000) (hL : 1 ≤ L ∧ L ≤ da) (hm : 0 ≤ m ∧ m ≤ 12) : RFine da db (one L m) := by
  refine ⟨ha, hb, by show 1 ≤ 8; omega, fun j hj => ?_, ?_, fun j hj => ?_⟩
  · have : j = 0 := by have : j < 1 := hj; omega
    subst this
    exact ⟨hL.1, by show L ≤ 100000; omega, hm.1, hm.2⟩
  · show 0 + m ≤ 12
    omega
  · have : j = 0 := by have : j < 1 := hj; omega
    subst this
    exact hL.2
theorem one_up {da db L m H : Int} (hz : 0 < L + db) (hH : 0 ≤ H) (hfit : H * (L + db) ≤ da + db) : ∀ (k : Nat) (q : Nat → Int), 0 ≤ q 0 → q 0 ≤ (k : Int) * H → Cov da db (one L m) k q
  | 0, q, h0, h1 => .nil fun i hi => by
    have : i = 0 := by have : i < 1 := hi; omega
    subst this
    omega
  | k + 1, q, h0, h1 => by
    rw [Int.natCast_succ, Int.add_mul, Int.one_mul] at h1
    refine .cons (fun _ => if q 0 ≤ H then q 0 else H) (fun i hi => ?_) ?_ (one_up hz hH hfit k _ ?_ ?_)
    · have : i = 0 := by have : i < 1 := hi; omega
      subst this
      split <;> omega
    · show 0 + (if q 0 ≤ H then q 0 else H) * (L + db) ≤ da + db
      have : (if q 0 ≤ H then q 0 else H) * (L + db) ≤ H * (L + db) := Int.mul_le_mul_of_nonneg_right (by split <;> omega) (by omega)
      omega
    · show 0 ≤ q 0 - (if q 0 ≤ H then q 0 else H)
      split <;> omega
    · show q 0 - (if q 0 ≤ H then q 0 else H) ≤ _
      have : 0 ≤ (k : Int) * H := Int.mul_nonneg (by omega) hH
      split <;> omega
theorem one_down {da db L m H : Int} (hz : 0 < L + db) (hfit : da + db < (H + 1) * (L + db)) {k : Nat} {q : Nat → Int} (h : Cov da db (one L m) k q) : q 0 ≤ (k : Int) * H := by
  induction h with
  | nil h => rw [h 0 (by show 0 < 1; omega)]; omega
  | @cons k q p h1 h2 h3 ih =>
    have h2 : 0 + p 0 * (L + db) ≤ da + db := h2
    have hp : p 0 < H + 1 := Int.lt_of_mul_lt_mul_right (a := L + db) (by omega) (by omega)
    have ih : q 0 - p 0 ≤ (k : Int) * H := ih
    rw [Int.natCast_succ, Int.add_mul, Int.one_mul]
    omega
theorem alike_law {x y z v : Int} (hx : 0 ≤ x ∧ x ≤ 65535) (hy : 0 ≤ y ∧ y ≤ 65535) (hz : 0 ≤ z ∧ z ≤ 255) (hv : 0 ≤ v ∧ v ≤ 255) : g16 x y z v = true ∧ w16_0 x y z v = true := by
  have hyb : 0 ≤ y % (1 + x) ∧ y % (1 + x) < 1 + x := ⟨Int.emod_nonneg _ (by omega), Int.emod_lt_of_pos _ (by omega)⟩
  have hvb : 0 ≤ v % 10 ∧ v % 10 < 10 := ⟨Int.emod_nonneg _ (by omega), Int.emod_lt_of_pos _ (by omega)⟩
  have ex : IntKind.i64.wrap x = x := wrap64 (by omega) (by omega)
  have ey : IntKind.i64.wrap y = y := wrap64 (by omega) (by omega)
  have ez : IntKind.i64.wrap z = z := wrap64 (by omega) (by omega)
  have ev : IntKind.i64.wrap v = v := wrap64 (by omega) (by omega)
  have es : IntKind.i64.wrap (1 + x) = 1 + x := wrap64 (by omega) (by omega)
  have em : y.tmod (1 + x) = y % (1 + x) := Int.tmod_eq_emod_of_nonneg (by omega)
  have em2 : v.tmod 10 = v % 10 := Int.tmod_eq_emod_of_nonneg (by omega)
  have eL : IntKind.i64.wrap (1 + y % (1 + x)) = 1 + y % (1 + x) := wrap64 (by omega) (by omega)
  have es2 : IntKind.i64.wrap (1 + x + z) = 1 + x + z := wrap64 (by omega) (by omega)
  have eL2 : IntKind.i64.wrap (1 + y % (1 + x) + z) = 1 + y % (1 + x) + z := wrap64 (by omega) (by omega)
  have ed : (1 + x + z).tdiv (1 + y % (1 + x) + z) = (1 + x + z) / (1 + y % (1 + x) + z) := Int.tdiv_eq_ediv_of_nonneg (by omega)
  generalize hL : 1 + y % (1 + x) = L at *
  generalize hm : v % 10 = m at *
  generalize hs : 1 + x = s at *
  have hLb : 1 ≤ L ∧ L ≤ s := by omega
  have hH1 : (s + z) / (L + z) * (L + z) ≤ s + z := Int.ediv_mul_le _ (by omega)
  have hH2 : s + z < ((s + z) / (L + z) + 1) * (L + z) := Int.lt_ediv_add_one_mul_self _ (by omega)
  have hH3 : 1 ≤ (s + z) / (L + z) := by
    have : 1 * (L + z) ≤ s + z := by omega
    exact (Int.le_ediv_iff_mul_le (by omega)).2 this
  have hH4 : (s + z) / (L + z) ≤ s + z := Int.ediv_le_self _ (by omega)
  generalize hH : (s + z) / (L + z) = H at *
  have eH : IntKind.i64.wrap H = H := wrap64 (by omega) (by omega)
  have e1 : IntKind.i64.wrap (m + H) = m + H := wrap64 (by omega) (by omega)
  have e2 : IntKind.i64.wrap (m + H - 1) = m + H - 1 := wrap64 (by omega) (by omega)
  have e3 : (m + H - 1).tdiv H = (m + H - 1) / H := Int.tdiv_eq_ediv_of_nonneg (by omega)
  have hW1 : (m + H - 1) / H * H ≤ m + H - 1 := Int.ediv_mul_le _ (by omega)
  have hW2 : m + H - 1 < ((m + H - 1) / H + 1) * H := Int.lt_ediv_add_one_mul_self _ (by omega)
  have hW3 : 0 ≤ (m + H - 1) / H := Int.ediv_nonneg (by omega) (by omega)
  have hW4 : (m + H - 1) / H ≤ m + H - 1 := Int.ediv_le_self _ (by omega)
  generalize hW : (m + H - 1) / H = W at *
  have eW : IntKind.i64.wrap W = W := wrap64 (by omega) (by omega)
  have hF : RFine s z (one L m) := one_fine (by omega) (by omega) hLb (by omega)
  have h0 := fine_ok hF
  obtain ⟨p1, p2, _, p4⟩ := plan_val s z (one L m)
  obtain ⟨_, rs, q1, q2, q3⟩ := p4 h0
  have hmn : ∀ i, i < (one L m).length → 0 ≤ mn (one L m) i := fun i hi => by
    have := hF.c i hi
    unfold okCut at this
    omega
  have emn : mn (one L m) 0 = m := rfl
  obtain ⟨c1, c2, _⟩ := mq_ok hF hmn
  have hdown := one_down (by omega) hH2 c1
  rw [emn] at hdown
  have hup : Cov s z (one L m) W.toNat (mn (one L m)) := by
    refine one_up (by omega) (by omega) hH1 _ _ (by rw [emn]; omega) ?_
    rw [emn, show ((W.toNat : Nat) : Int) = W by omega]
    rw [Int.add_mul, Int.one_mul] at hW2
    omega
  have hle := c2 _ hup
  have hge : W < (mq s z (one L m) (mn (one L m)) : Int) + 1 := by
    refine Int.lt_of_mul_lt_mul_right (a := H) ?_ (by omega)
    rw [Int.add_mul, Int.one_mul]
    omega
  have hmq : (mq s z (one L m) (mn (one L m)) : Int) = W := by omega
  have hlen : ((plAV rs).length : Int) = W := by rw [plAV_len, q1.len, hmq]
  -- the bound
  have hvv : ∀ i, i < ([[AV.i IntKind.i64 1]] : List (List AV)).length → 0 ≤ vv [[AV.i IntKind.i64 1]] i ∧ vv [[AV.i IntKind.i64 1]] i ≤ 1000000 := fun i hi => by
    have : i = 0 := by have : i < 1 := hi; omega
    subst this
    exact ⟨by decide, by decide⟩
  obtain ⟨b1, b2, b3⟩ := bound22 (ws := [[AV.i IntKind.i64 1]]) hF h0 rfl hvv
  obtain ⟨M, m1, m2⟩ := bound_val (ws := [[AV.i IntKind.i64 1]]) hF rfl hvv
  have hKV : ∀ t, KV (en z (one L m) [[AV.i IntKind.i64 1]]) (s + z) t ↔ 0 ≤ t ∧ t ≤ m ∧ t ≤ H := by
    intro t
    show (∃ k : Nat, (k : Int) ≤ m ∧ 0 ≤ s + z - (k : Int) * (L + z) ∧ t - (k : Int) * 1 = 0) ↔ _
    constructor
    · rintro ⟨k, k1, k2, k3⟩
      have : (k : Int) < H + 1 := Int.lt_of_mul_lt_mul_right (a := L + z) (by omega) (by omega)
      omega
    · rintro ⟨t1, t2, t3⟩
      refine ⟨t.toNat, by omega, ?_, by omega⟩
      have : t * (L + z) ≤ H * (L + z) := Int.mul_le_mul_of_nonneg_right t3 (by omega)
      rw [show ((t.toNat : Nat) : Int) = t by omega]
      omega
  have hwq : wq [[AV.i IntKind.i64 1]] (mn (one L m)) (one L m).length = m := by
    show 0 + 1 * m = m
    omega
  have hM : (m = 0 → W = 0) ∧ (0 < m → M ≠ 0 ∧ (m + M - 1).tdiv M = W) := by
    refine ⟨fun h => ?_, fun h => ?_⟩
    · subst h
      have : W * H < 1 * H := by omega
      have := Int.lt_of_mul_lt_mul_right this (by omega)
      omega
    · have hMle := m1.le (if m ≤ H then m else H) ((hKV _).2 (by split <;> omega))
      have hMin : M = 0 ∨ (0 ≤ M ∧ M ≤ m ∧ M ≤ H) := by
        rcases m1.is with e | e
        · exact .inl e
        · exact .inr ((hKV M).1 e)
      have hMe : M = if m ≤ H then m else H := by
        by_cases hc : m ≤ H
        · rw [if_pos hc] at hMle ⊢; omega
        · rw [if_neg hc] at hMle ⊢; omega
      refine ⟨by rw [hMe]; split <;> omega, ?_⟩
      rw [Int.tdiv_eq_ediv_of_nonneg (by rw [hMe]; split <;> omega)]
      by_cases hc : m ≤ H
      · rw [hMe, if_pos hc]
        have e5 : (m + m - 1) / m = 1 := by
          have a1 : 1 ≤ (m + m - 1) / m := (Int.le_ediv_iff_mul_le (by omega)).2 (by omega)
          have a2 : (m + m - 1) / m < 2 := Int.ediv_lt_of_lt_mul (by omega) (by omega)
          omega
        rw [e5]
        have a3 : W < 2 := by
          refine Int.lt_of_mul_lt_mul_right (a := H) ?_ (by omega)
          omega
        have a4 : 0 < W := by
          have : 0 * H < (W + 1 - 1) * H := by
            rw [Int.add_mul, Int.one_mul] at hW2
            have : (W + 1 - 1) * H = W * H := by rw [show W + 1 - 1 = W by omega]
            omega
          have := Int.lt_of_mul_lt_mul_right this (by omega)
          omega
        omega
      · rw [hMe, if_neg hc, ← hW]
  obtain ⟨_, a2⟩ := m2 (fun hne => by
    rw [hwq] at hne
    exact (hM.2 (by omega)).1)
  have hb : w56_0 s z (one L m) [[AV.i IntKind.i64 1]] = W := by
    rw [a2, hwq]
    unfold bndV
    by_cases hm0 : m = 0
    · rw [if_pos hm0, hM.1 hm0]
    · rw [if_neg hm0]
      exact (hM.2 (by omega)).2
  have hone : ([[AV.i IntKind.i64 L, AV.i IntKind.i64 m]] : List (List AV)) = one L m := rfl
  unfold g16 w16_0 t16
  rw [ex, ey, ez, ev, hs, es, em, em2, hL, eL, es2, eL2, ed, eH, e1, e2, e3, eW, hone, p1, p2, h0, b1, b2, b3, hb, q3, hlen, decide_eq_false (show ¬ s = 0 by omega), decide_eq_false (show ¬ L + z = 0 by omega), decide_eq_false (show ¬ H = 0 by omega)]
  simp [Tr.g, Tr.val]
end Go.Proofs.Ytgifjphinkbcaaa

set_option maxRecDepth 100000
set_option linter.unusedVariables false
namespace Go.Proofs.Ytgifjphinkbcaaa
open Go Go.Ev
theorem u16_of {a : AV} (h : TyArg Try.prog 62 a) : ∃ x, a = .i .u16 x ∧ 0 ≤ x ∧ x ≤ 65535 := by
  obtain ⟨n, e, n1, n2⟩ := WT_int (ty_one (c := .int .u16) (by kernel_rfl) (by kernel_rfl) h)
  exact ⟨n, e, n1, n2⟩
theorem u8_of {a : AV} (h : TyArg Try.prog 5 a) : ∃ x, a = .i .u8 x ∧ 0 ≤ x ∧ x ≤ 255 := by
  obtain ⟨n, e, n1, n2⟩ := WT_int (ty_one (c := .int .u8) (by kernel_rfl) (by kernel_rfl) h)
  exact ⟨n, e, n1, n2⟩
theorem ridgeAlike_law (avs : List AV) (h : TyArgs Try.prog Try.f16.params.toList avs) : Con Try.prog 16 avs [] (.b true) [] := by
  obtain ⟨a0, r0, rfl, h0, h⟩ := tyArgs_cons h
  obtain ⟨a1, r1, rfl, h1, h⟩ := tyArgs_cons h
  obtain ⟨a2, r2, rfl, h2, h⟩ := tyArgs_cons h
  obtain ⟨a3, r3, rfl, h3, h⟩ := tyArgs_cons h
  obtain rfl := tyArgs_nil h
  obtain ⟨x, rfl, x1⟩ := u16_of h0
  obtain ⟨y, rfl, y1⟩ := u16_of h1
  obtain ⟨z, rfl, z1⟩ := u8_of h2
  obtain ⟨v, rfl, v1⟩ := u8_of h3
  obtain ⟨h1, h2⟩ := alike_law x1 y1 z1 v1
  have := con16 x y z v h1
  rw [h2] at this
  exact this
end Go.Proofs.Ytgifjphinkbcaaa
