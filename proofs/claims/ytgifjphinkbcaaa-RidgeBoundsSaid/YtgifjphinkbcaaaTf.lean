/-
  The law RidgeBounds of the roofer's ridges answers true whatever Rods and weights it is handed; no conditions.
-/
import Derived.Test.YtgifjphinkbcaaaTe
import Derived.Test.YtgifjphinkbcaaaTd
import Derived.Test.YtgifjphinkbcaaaTc
set_option linter.unusedVariables false
set_option maxRecDepth 100000
set_option linter.unusedVariables false
namespace Go.Proofs.Ytgifjphinkbcaaa
open Go Go.Ev

/-! ### ref bound -/
noncomputable def c58 : Code := match Try.f58.body with | some c => c | _ => .skip
noncomputable def lp58a : Code := loopAt c58 [true, true, true, true, true, false, true, false]
noncomputable def s58a (ws : List (List AV)) (t4 : Int) (t5 : List (List AV)) (t6 : List (List AV)) (t7 : Int) (t8 : Int) (t9 : Int) : St :=
  { t := [(1, .rs 3 ws), (4, .i .i64 t4), (5, .rs 3 t5), (6, .rs 4 t6), (7, .i .i64 t7), (8, .i .i64 t8), (9, .i .i64 t9)], m := [], nx := 0, nt := 59 }
noncomputable def lp58aa : Code := loopAt c58 [true, true, true, true, true, false, true, false, false, true, false, false, true, false, true, false]
noncomputable def s58aa (ws : List (List AV)) (t4 : Int) (t5 : List (List AV)) (t6 : List (List AV)) (t7 : Int) (t8 : Int) (t9 : Int) (t10 : Int) (t11 : Int) : St :=
  { t := [(1, .rs 3 ws), (4, .i .i64 t4), (5, .rs 3 t5), (6, .rs 4 t6), (7, .i .i64 t7), (8, .i .i64 t8), (9, .i .i64 t9), (10, .i .i64 t10), (11, .i .i64 t11)], m := [], nx := 0, nt := 59 }
structure S58aa where
  t10 : Int
  t11 : Int
inductive T58aa where
  | x0 (t10 : Int) (t11 : Int)
noncomputable def stp58aa (ws : List (List AV)) (t4 : Int) (t5 : List (List AV)) (t6 : List (List AV)) (t7 : Int) (t8 : Int) (t9 : Int) (t10 : Int) (t11 : Int) : Lp S58aa T58aa :=
  cond (decide (t11 < (↑t5.length : Int))) (cond (decide (0 ≤ t11)) (cond (IntKind.i64.wrap (↑(BitVec.ofInt 64 (t9.fdiv (2 ^ min t11.toNat 64)) &&& BitVec.ofInt 64 1).toNat : Int) == 1) (cond (inb t11 t5.length) (cond (inb (fI (t5.getD t11.toNat []) 0) ws.length) (.go ⟨IntKind.i64.wrap (t10 + fI (ws.getD (fI (t5.getD t11.toNat []) 0).toNat []) 0), IntKind.i64.wrap (t11 + 1)⟩) (.bad)) (.bad)) (.go ⟨t10, IntKind.i64.wrap (t11 + 1)⟩)) (.bad)) (.out (.x0 t10 t11))
noncomputable def o58aa_0 (ws : List (List AV)) (t4 : Int) (t5 : List (List AV)) (t6 : List (List AV)) (t7 : Int) (t8 : Int) (t9 : Int) (t10 : Int) (t11 : Int) : St :=
  { t := [(1, .rs 3 ws), (4, .i .i64 t4), (5, .rs 3 t5), (6, .rs 4 t6), (7, .i .i64 t7), (8, .i .i64 t8), (9, .i .i64 t9), (10, .i .i64 t10), (11, .i .i64 t11)], m := [], nx := 0, nt := 59 }
noncomputable def ou58aa (ws : List (List AV)) (t4 : Int) (t5 : List (List AV)) (t6 : List (List AV)) (t7 : Int) (t8 : Int) (t9 : Int) : T58aa → Ex × St
  | .x0 t10 t11 => (.ext 2, o58aa_0 ws t4 t5 t6 t7 t8 t9 t10 t11)
noncomputable def r58aa (ws : List (List AV)) (t4 : Int) (t5 : List (List AV)) (t6 : List (List AV)) (t7 : Int) (t8 : Int) (t9 : Int) (t10 : Int) (t11 : Int) : Option T58aa := run (fun x => stp58aa ws t4 t5 t6 t7 t8 t9 x.t10 x.t11) (⟨t10, t11⟩ : S58aa)
noncomputable def i58aa_0 (ws : List (List AV)) (t4 : Int) (t5 : List (List AV)) (t6 : List (List AV)) (t7 : Int) (t8 : Int) (t9 : Int) (t10 : Int) (t11 : Int) : Bool := match r58aa ws t4 t5 t6 t7 t8 t9 t10 t11 with
  | some (.x0 _ _) => true
  | _ => false
noncomputable def v58aa_0_t10 (ws : List (List AV)) (t4 : Int) (t5 : List (List AV)) (t6 : List (List AV)) (t7 : Int) (t8 : Int) (t9 : Int) (t10 : Int) (t11 : Int) : Int := match r58aa ws t4 t5 t6 t7 t8 t9 t10 t11 with
  | some (.x0 t10 _) => t10
  | _ => default
noncomputable def v58aa_0_t11 (ws : List (List AV)) (t4 : Int) (t5 : List (List AV)) (t6 : List (List AV)) (t7 : Int) (t8 : Int) (t9 : Int) (t10 : Int) (t11 : Int) : Int := match r58aa ws t4 t5 t6 t7 t8 t9 t10 t11 with
  | some (.x0 _ t11) => t11
  | _ => default
noncomputable def l58aa (st : St) : Option (List (Bool × Ex × St)) := match normW Try.prog [(1, none), (4, none), (5, none), (6, none), (7, none), (8, none), (9, none), (10, none), (11, none)] 0 st with
  | some ([.rs 3 ws, .i .i64 t4, .rs 3 t5, .rs 4 t6, .i .i64 t7, .i .i64 t8, .i .i64 t9, .i .i64 t10, .i .i64 t11], [], 0, 59) => some [(i58aa_0 ws t4 t5 t6 t7 t8 t9 t10 t11, .ext 2, o58aa_0 ws t4 t5 t6 t7 t8 t9 (v58aa_0_t10 ws t4 t5 t6 t7 t8 t9 t10 t11) (v58aa_0_t11 ws t4 t5 t6 t7 t8 t9 t10 t11))]
  | _ => none
structure S58a where
  t7 : Int
  t8 : Int
  t9 : Int
inductive T58a where
  | x0 (t7 : Int) (t8 : Int) (t9 : Int)
noncomputable def stp58a (ws : List (List AV)) (t4 : Int) (t5 : List (List AV)) (t6 : List (List AV)) (t7 : Int) (t8 : Int) (t9 : Int) : Lp S58a T58a :=
  cond (decide (t9 < (↑t6.length : Int))) (cond (i58aa_0 ws t4 t5 t6 t7 t8 t9 0 0) (cond (inb t9 t6.length) (cond (fB (t6.getD t9.toNat []) 0) (.go ⟨bmax t7 (v58aa_0_t10 ws t4 t5 t6 t7 t8 t9 0 0), v58aa_0_t10 ws t4 t5 t6 t7 t8 t9 0 0, IntKind.i64.wrap (t9 + 1)⟩) (.go ⟨t7, v58aa_0_t10 ws t4 t5 t6 t7 t8 t9 0 0, IntKind.i64.wrap (t9 + 1)⟩)) (.bad)) (.bad)) (.out (.x0 t7 t8 t9))
noncomputable def o58a_0 (ws : List (List AV)) (t4 : Int) (t5 : List (List AV)) (t6 : List (List AV)) (t7 : Int) (t8 : Int) (t9 : Int) : St :=
  { t := [(1, .rs 3 ws), (4, .i .i64 t4), (5, .rs 3 t5), (6, .rs 4 t6), (7, .i .i64 t7), (8, .i .i64 t8), (9, .i .i64 t9)], m := [], nx := 0, nt := 59 }
noncomputable def ou58a (ws : List (List AV)) (t4 : Int) (t5 : List (List AV)) (t6 : List (List AV)) : T58a → Ex × St
  | .x0 t7 t8 t9 => (.ext 0, o58a_0 ws t4 t5 t6 t7 t8 t9)
noncomputable def r58a (ws : List (List AV)) (t4 : Int) (t5 : List (List AV)) (t6 : List (List AV)) (t7 : Int) (t8 : Int) (t9 : Int) : Option T58a := run (fun x => stp58a ws t4 t5 t6 x.t7 x.t8 x.t9) (⟨t7, t8, t9⟩ : S58a)
noncomputable def i58a_0 (ws : List (List AV)) (t4 : Int) (t5 : List (List AV)) (t6 : List (List AV)) (t7 : Int) (t8 : Int) (t9 : Int) : Bool := match r58a ws t4 t5 t6 t7 t8 t9 with
  | some (.x0 _ _ _) => true
  | _ => false
noncomputable def v58a_0_t7 (ws : List (List AV)) (t4 : Int) (t5 : List (List AV)) (t6 : List (List AV)) (t7 : Int) (t8 : Int) (t9 : Int) : Int := match r58a ws t4 t5 t6 t7 t8 t9 with
  | some (.x0 t7 _ _) => t7
  | _ => default
noncomputable def v58a_0_t8 (ws : List (List AV)) (t4 : Int) (t5 : List (List AV)) (t6 : List (List AV)) (t7 : Int) (t8 : Int) (t9 : Int) : Int := match r58a ws t4 t5 t6 t7 t8 t9 with
  | some (.x0 _ t8 _) => t8
  | _ => default
noncomputable def v58a_0_t9 (ws : List (List AV)) (t4 : Int) (t5 : List (List AV)) (t6 : List (List AV)) (t7 : Int) (t8 : Int) (t9 : Int) : Int := match r58a ws t4 t5 t6 t7 t8 t9 with
  | some (.x0 _ _ t9) => t9
  | _ => default
noncomputable def l58a (st : St) : Option (List (Bool × Ex × St)) := match normW Try.prog [(1, none), (4, none), (5, none), (6, none), (7, none), (8, none), (9, none)] 0 st with
  | some ([.rs 3 ws, .i .i64 t4, .rs 3 t5, .rs 4 t6, .i .i64 t7, .i .i64 t8, .i .i64 t9], [], 0, 59) => some [(i58a_0 ws t4 t5 t6 t7 t8 t9, .ext 0, o58a_0 ws t4 t5 t6 (v58a_0_t7 ws t4 t5 t6 t7 t8 t9) (v58a_0_t8 ws t4 t5 t6 t7 t8 t9) (v58a_0_t9 ws t4 t5 t6 t7 t8 t9))]
  | _ => none
noncomputable def L58 : LSpec := fun p st => match p with
  | [false, true, false, true, false, false, true, false, false, true, false, true, true, true, true, true] => l58aa st
  | [false, true, false, true, true, true, true, true] => l58a st
  | _ => none
theorem is58aa_0 (ws : List (List AV)) (t4 : Int) (t5 : List (List AV)) (t6 : List (List AV)) (t7 : Int) (t8 : Int) (t9 : Int) (t10 : Int) (t11 : Int) (h : i58aa_0 ws t4 t5 t6 t7 t8 t9 t10 t11 = true) : r58aa ws t4 t5 t6 t7 t8 t9 t10 t11 = some (.x0 (v58aa_0_t10 ws t4 t5 t6 t7 t8 t9 t10 t11) (v58aa_0_t11 ws t4 t5 t6 t7 t8 t9 t10 t11)) := by
  unfold i58aa_0 at h
  unfold v58aa_0_t10 v58aa_0_t11
  generalize r58aa ws t4 t5 t6 t7 t8 t9 t10 t11 = r at h ⊢
  rcases r with _ | y
  · cases h
  · cases y <;> first | rfl | cases h
theorem round58aa (ws : List (List AV)) (t4 : Int) (t5 : List (List AV)) (t6 : List (List AV)) (t7 : Int) (t8 : Int) (t9 : Int) (t10 : Int) (t11 : Int) : round Try.prog Sj (ro 58) L58 lp58aa [false, true, false, true, false, false, true, false, false, true, false, true, true, true, true, true] [(1, none), (4, none), (5, none), (6, none), (7, none), (8, none), (9, none), (10, none), (11, none)] 0 (s58aa ws t4 t5 t6 t7 t8 t9 t10 t11) =
    cond (decide (t11 < (↑t5.length : Int))) (cond (decide (0 ≤ t11)) (cond (IntKind.i64.wrap (↑(BitVec.ofInt 64 (t9.fdiv (2 ^ min t11.toNat 64)) &&& BitVec.ofInt 64 1).toNat : Int) == 1) (cond (inb t11 t5.length) (cond (inb (fI (t5.getD t11.toNat []) 0) ws.length) (some (.nrm, s58aa ws t4 t5 t6 t7 t8 t9 (IntKind.i64.wrap (t10 + fI (ws.getD (fI (t5.getD t11.toNat []) 0).toNat []) 0)) (IntKind.i64.wrap (t11 + 1)))) (none)) (none)) (some (.nrm, s58aa ws t4 t5 t6 t7 t8 t9 t10 (IntKind.i64.wrap (t11 + 1))))) (none)) (some (.ext 2, o58aa_0 ws t4 t5 t6 t7 t8 t9 t10 t11)) := by kernel_rfl
theorem rnd58aa (ws : List (List AV)) (t4 : Int) (t5 : List (List AV)) (t6 : List (List AV)) (t7 : Int) (t8 : Int) (t9 : Int) (x : S58aa) : round Try.prog Sj (ro 58) L58 lp58aa [false, true, false, true, false, false, true, false, false, true, false, true, true, true, true, true] [(1, none), (4, none), (5, none), (6, none), (7, none), (8, none), (9, none), (10, none), (11, none)] 0 ((fun x => s58aa ws t4 t5 t6 t7 t8 t9 x.t10 x.t11) x) = toR (fun x => s58aa ws t4 t5 t6 t7 t8 t9 x.t10 x.t11) (ou58aa ws t4 t5 t6 t7 t8 t9) (stp58aa ws t4 t5 t6 t7 t8 t9 x.t10 x.t11) := by
  refine (round58aa _ _ _ _ _ _ _ _ _ ).trans ?_
  unfold stp58aa
  simp only [toR_cond]
  rfl
theorem lok58aa {st : St} {outs : List (Bool × Ex × St)} {e : Ex} {s : St} (hl : l58aa st = some outs) (hch : Chosen outs e s) :
    ∃ keep nb, 0 ≤ nb ∧ LB Try.prog Sj (ro 58) L58 lp58aa [false, true, false, true, false, false, true, false, false, true, false, true, true, true, true, true] keep nb st e s := by
  unfold l58aa at hl
  split at hl
  · rename_i ws t4 t5 t6 t7 t8 t9 t10 t11 hno
    cases hl
    have hno := normW_norm hno
    refine ⟨_, _, ?_, .enter hno ?_⟩
    · decide
    have main := fun y h => LB_run (x := (⟨t10, t11⟩ : S58aa)) (y := y) (nb := 0) (fun y => by cases y <;> simp [ou58aa]) (rnd58aa ws t4 t5 t6 t7 t8 t9) h
    obtain ⟨x, hx, hg, rfl, rfl⟩ := chosen_any hch
    simp only [List.mem_cons, List.not_mem_nil, or_false] at hx
    subst hx
    exact main _ (is58aa_0 ws t4 t5 t6 t7 t8 t9 t10 t11 hg)
  · cases hl
theorem is58a_0 (ws : List (List AV)) (t4 : Int) (t5 : List (List AV)) (t6 : List (List AV)) (t7 : Int) (t8 : Int) (t9 : Int) (h : i58a_0 ws t4 t5 t6 t7 t8 t9 = true) : r58a ws t4 t5 t6 t7 t8 t9 = some (.x0 (v58a_0_t7 ws t4 t5 t6 t7 t8 t9) (v58a_0_t8 ws t4 t5 t6 t7 t8 t9) (v58a_0_t9 ws t4 t5 t6 t7 t8 t9)) := by
  unfold i58a_0 at h
  unfold v58a_0_t7 v58a_0_t8 v58a_0_t9
  generalize r58a ws t4 t5 t6 t7 t8 t9 = r at h ⊢
  rcases r with _ | y
  · cases h
  · cases y <;> first | rfl | cases h
theorem round58a (ws : List (List AV)) (t4 : Int) (t5 : List (List AV)) (t6 : List (List AV)) (t7 : Int) (t8 : Int) (t9 : Int) : round Try.prog Sj (ro 58) L58 lp58a [false, true, false, true, true, true, true, true] [(1, none), (4, none), (5, none), (6, none), (7, none), (8, none), (9, none)] 0 (s58a ws t4 t5 t6 t7 t8 t9) =
    cond (decide (t9 < (↑t6.length : Int))) (cond (i58aa_0 ws t4 t5 t6 t7 t8 t9 0 0) (cond (inb t9 t6.length) (cond (fB (t6.getD t9.toNat []) 0) (some (.nrm, s58a ws t4 t5 t6 (bmax t7 (v58aa_0_t10 ws t4 t5 t6 t7 t8 t9 0 0)) (v58aa_0_t10 ws t4 t5 t6 t7 t8 t9 0 0) (IntKind.i64.wrap (t9 + 1)))) (some (.nrm, s58a ws t4 t5 t6 t7 (v58aa_0_t10 ws t4 t5 t6 t7 t8 t9 0 0) (IntKind.i64.wrap (t9 + 1))))) (none)) (none)) (some (.ext 0, o58a_0 ws t4 t5 t6 t7 t8 t9)) := by kernel_rfl
theorem rnd58a (ws : List (List AV)) (t4 : Int) (t5 : List (List AV)) (t6 : List (List AV)) (x : S58a) : round Try.prog Sj (ro 58) L58 lp58a [false, true, false, true, true, true, true, true] [(1, none), (4, none), (5, none), (6, none), (7, none), (8, none), (9, none)] 0 ((fun x => s58a ws t4 t5 t6 x.t7 x.t8 x.t9) x) = toR (fun x => s58a ws t4 t5 t6 x.t7 x.t8 x.t9) (ou58a ws t4 t5 t6) (stp58a ws t4 t5 t6 x.t7 x.t8 x.t9) := by
  refine (round58a _ _ _ _ _ _ _ ).trans ?_
  unfold stp58a
  simp only [toR_cond]
  rfl
theorem lok58a {st : St} {outs : List (Bool × Ex × St)} {e : Ex} {s : St} (hl : l58a st = some outs) (hch : Chosen outs e s) :
    ∃ keep nb, 0 ≤ nb ∧ LB Try.prog Sj (ro 58) L58 lp58a [false, true, false, true, true, true, true, true] keep nb st e s := by
  unfold l58a at hl
  split at hl
  · rename_i ws t4 t5 t6 t7 t8 t9 hno
    cases hl
    have hno := normW_norm hno
    refine ⟨_, _, ?_, .enter hno ?_⟩
    · decide
    have main := fun y h => LB_run (x := (⟨t7, t8, t9⟩ : S58a)) (y := y) (nb := 0) (fun y => by cases y <;> simp [ou58a]) (rnd58a ws t4 t5 t6) h
    obtain ⟨x, hx, hg, rfl, rfl⟩ := chosen_any hch
    simp only [List.mem_cons, List.not_mem_nil, or_false] at hx
    subst hx
    exact main _ (is58a_0 ws t4 t5 t6 t7 t8 t9 hg)
  · cases hl
theorem L58_ok (q : Pl) (c : Code) (hq : locate c58 q.reverse = some (.loop c)) (st : St) (outs : List (Bool × Ex × St)) (e : Ex) (s : St) (hl : L58 q st = some outs) (hch : Chosen outs e s) :
    ∃ keep nb, 0 ≤ nb ∧ LB Try.prog Sj (ro 58) L58 c q keep nb st e s := by
  unfold L58 at hl
  split at hl
  · have : locate c58 ([false, true, false, true, false, false, true, false, false, true, false, true, true, true, true, true] : Pl).reverse = some (.loop lp58aa) := by kernel_rfl
    rw [this] at hq
    cases hq
    exact lok58aa hl hch
  · have : locate c58 ([false, true, false, true, true, true, true, true] : Pl).reverse = some (.loop lp58a) := by kernel_rfl
    rw [this] at hq
    cases hq
    exact lok58a hl hch
  · cases hl
theorem lok58 : LOK Try.prog Sj (ro 58) L58 0 false c58 [] :=
  lok_lo L58_ok c58 [] false (locate_nil _) (by kernel_rfl)
noncomputable def t58 (da db : Int) (cs : List (List AV)) (ws : List (List AV)) : Tr ((Int)) :=
  .cn (g79 da db cs) (.cn (g80 da db cs (w79_0 da db cs)) (.cn (i58a_0 ws 0 (w79_0 da db cs) (w80_0 da db cs (w79_0 da db cs)) 0 0 0) (.cn (v58a_0_t8 ws 0 (w79_0 da db cs) (w80_0 da db cs (w79_0 da db cs)) 0 0 0 == 0) (.lf (0)) (.cn (decide (v58a_0_t7 ws 0 (w79_0 da db cs) (w80_0 da db cs (w79_0 da db cs)) 0 0 0 = 0)) (.nn) (.lf (IntKind.i64.wrap ((IntKind.i64.wrap (IntKind.i64.wrap (v58a_0_t8 ws 0 (w79_0 da db cs) (w80_0 da db cs (w79_0 da db cs)) 0 0 0 + v58a_0_t7 ws 0 (w79_0 da db cs) (w80_0 da db cs (w79_0 da db cs)) 0 0 0) - 1)).tdiv (v58a_0_t7 ws 0 (w79_0 da db cs) (w80_0 da db cs (w79_0 da db cs)) 0 0 0)))))) (.nn)) (.nn)) (.nn)
noncomputable def g58 (da db : Int) (cs : List (List AV)) (ws : List (List AV)) : Bool := (t58 da db cs ws).g
noncomputable def w58_0 (da db : Int) (cs : List (List AV)) (ws : List (List AV)) : Int := (t58 da db cs ws).val
theorem eq58 (da db : Int) (cs : List (List AV)) (ws : List (List AV)) : evF Try.prog Sj (ro 58) L58 Try.f58 [.agg [.i .i64 da, .i .i64 db, .rs 64 cs], .rs 3 ws] = (t58 da db cs ws).opt (fun (x : (Int)) => (.i .i64 x : AV)) := by kernel_rfl
theorem con58 (da db : Int) (cs : List (List AV)) (ws : List (List AV)) (h : g58 da db cs ws = true) : Con Try.prog 58 [.agg [.i .i64 da, .i .i64 db, .rs 64 cs], .rs 3 ws] [] (.i .i64 (w58_0 da db cs ws)) [] :=
  con_of Sj_ok mixed Try.func58 (c := c58) rfl (names 58 _ Try.func58) lok58 ((eq58 da db cs ws).trans (Tr.sound _ _ h))
noncomputable def e58 (args : List AV) (rows : List Blk) : Option (Bool × AV × List Blk) := match args, rows with
  | [.agg [.i .i64 da, .i .i64 db, .rs 64 cs], .rs 3 ws], [] => some (g58 da db cs ws, .i .i64 (w58_0 da db cs ws), [])
  | _, _ => none
theorem e58_ok (args : List AV) (rows : List Blk) (pre : Bool) (v : AV) (rows' : List Blk) (h : e58 args rows = some (pre, v, rows')) (hp : pre = true) : Con Try.prog 58 args rows v rows' := by
  unfold e58 at h
  split at h
  · cases h; exact con58 _ _ _ _ hp
  · cases h
-- SPEC 58
end Go.Proofs.Ytgifjphinkbcaaa

set_option maxRecDepth 100000
set_option linter.unusedVariables false
namespace Go.Proofs.Ytgifjphinkbcaaa
open Go Go.Ev
/-! ### Wide -/
theorem wide_val (da db : Int) (cs : List (List AV)) : g21 da db cs = true ∧ (RFine da db cs → w21_0 da db cs = false → smn cs cs.length ≤ 9) := by
  have run : ∃ y, r21a da db cs false 0 0 = some y ∧ (match y with
      | .x0 t _ => RFine da db cs → t = smn cs cs.length) := by
    unfold r21a
    refine run_for (S := Int) (min cs.length 31) (fun k s => (⟨s, (k : Int)⟩ : S21a)) (fun k s => RFine da db cs → s = smn cs k) (fun k s (y : T21a) => match y with
      | .x0 t _ => RFine da db cs → t = smn cs cs.length) (fun k s hk hi => ?_) (fun s hi => ?_) 0 0 (Nat.zero_le _) (fun _ => rfl)
    · left
      have hkl : k < cs.length := by omega
      refine ⟨IntKind.i64.wrap (s + bmax 0 (bmin (mn cs k) 100)), ?_, fun hF => ?_, fun y hy => hy⟩
      · show stp21a da db cs false s (k : Int) = _
        unfold stp21a
        have d : decide ((k : Int) ≤ 30) = true := decide_eq_true (by omega)
        rw [Int.toNat_natCast, lt_true hkl, inb_true hkl, d, wrap_succ (by omega)]
        rfl
      · rw [hi hF]
        have h1 := smn_le (cs := cs) (k := k) (fun j hj => hF.c j (by omega))
        have h2 := hF.c k hkl
        unfold okCut at h2
        have e : bmax 0 (bmin (mn cs k) 100) = mn cs k := by
          rw [bmax_le, bmin_le, if_pos (by omega), if_pos (by omega)]
        rw [e]
        have := hF.l
        exact wrap64 (by omega) (by omega)
    · generalize hm : min cs.length 31 = m at hi
      refine ⟨.x0 s (m : Int), ?_, fun hF => ?_⟩
      · show stp21a da db cs false s (m : Int) = _
        unfold stp21a
        rcases Nat.lt_or_ge m cs.length with h | h
        · have d : decide ((m : Int) ≤ 30) = false := decide_eq_false (by omega)
          rw [lt_true h, d]; rfl
        · have d : decide ((m : Int) < (cs.length : Int)) = false := decide_eq_false (by omega)
          rw [d]; rfl
      · have := hF.l
        have e : m = cs.length := by omega
        rw [hi hF, e]
  obtain ⟨y, hy, hv⟩ := run
  unfold g21 w21_0 t21 i21a_0 v21a_0_t3
  rw [hy]
  cases y with
  | x0 t _ =>
    simp only at hv ⊢
    refine ⟨?_, fun hF h => ?_⟩
    · cases decide ((cs.length : Int) > 30) with
      | true => rfl
      | false => cases decide (t > 9) <;> rfl
    · have hl := hF.l
      have d : decide ((cs.length : Int) > 30) = false := decide_eq_false (by omega)
      have ht := hv hF
      subst ht
      have hs := hF.s
      rw [d] at h
      by_cases h9 : smn cs cs.length > 9
      · rw [decide_eq_true h9, decide_eq_true hs] at h
        cases h
      · omega
/-! ### The cuts one by one -/
def sglTo (cs : List (List AV)) : Nat → List Nat
  | 0 => []
  | k + 1 => sglTo cs k ++ List.replicate (mn cs k).toNat k
theorem sglTo_len {cs : List (List AV)} : ∀ {k : Nat}, (∀ j, j < k → okCut cs j) → ((sglTo cs k).length : Int) = smn cs k
  | 0, _ => rfl
  | k + 1, h => by
    have h1 := sglTo_len (k := k) (fun j hj => h j (by omega))
    have h2 := h k (by omega)
    unfold okCut at h2
    show ((sglTo cs k ++ List.replicate (mn cs k).toNat k).length : Int) = smn cs k + mn cs k
    rw [List.length_append, List.length_replicate]
    omega
theorem sglTo_lt {cs : List (List AV)} : ∀ {k j : Nat}, j ∈ sglTo cs k → j < k
  | 0, j, h => by cases h
  | k + 1, j, h => by
    rcases List.mem_append.1 h with h | h
    · have := sglTo_lt h
      omega
    · have := List.eq_of_mem_replicate h
      omega
theorem rowAV_app (a b : List Nat) : rowAV (a ++ b) = rowAV a ++ rowAV b := List.map_append
theorem rowAV_length (row : List Nat) : (rowAV row).length = row.length := by simp [rowAV]
theorem rowAV_get {row : List Nat} {i : Nat} (h : i < row.length) : fI ((rowAV row).getD i []) 0 = (row.getD i 0 : Int) := by
  unfold rowAV
  simp [List.getD_eq_getElem?_getD, h, fI]
  rfl
theorem single_val {da db : Int} {cs : List (List AV)} (hF : RFine da db cs) : g79 da db cs = true ∧ w79_0 da db cs = rowAV (sglTo cs cs.length) := by
  have hl := hF.l
  have inner : ∀ k, k < cs.length → ∃ a, r79aa da db cs (k : Int) (rowAV (sglTo cs k)) 0 = some (.x0 (rowAV (sglTo cs (k + 1))) a) := by
    intro k hk
    have hc := hF.c k hk
    unfold okCut at hc
    have hlen := sglTo_len (cs := cs) (k := k) (fun j hj => hF.c j (by omega))
    have hsm := smn_le (cs := cs) (k := k) (fun j hj => hF.c j (by omega))
    have run : ∃ y, r79aa da db cs (k : Int) (rowAV (sglTo cs k ++ List.replicate 0 k)) ((0 : Nat) : Int) = some y ∧ ∃ a, y = .x0 (rowAV (sglTo cs (k + 1))) a := by
      unfold r79aa
      refine run_for (S := Unit) (mn cs k).toNat (fun q _ => (⟨rowAV (sglTo cs k ++ List.replicate q k), (q : Int)⟩ : S79aa)) (fun _ _ => True) (fun _ _ (y : T79aa) => ∃ a, y = .x0 (rowAV (sglTo cs (k + 1))) a) (fun q _ hq _ => ?_) (fun _ _ => ?_) 0 () (Nat.zero_le _) trivial
      · left
        refine ⟨(), ?_, trivial, fun y hy => hy⟩
        show stp79aa da db cs (k : Int) (rowAV (sglTo cs k ++ List.replicate q k)) (q : Int) = _
        unfold stp79aa
        have d : decide ((q : Int) < mn cs k) = true := decide_eq_true (by omega)
        have e1 : fI (cs.getD k []) 1 = mn cs k := rfl
        have l0 : (rowAV (sglTo cs k ++ List.replicate q k)).length ≤ 1000 := by
          rw [rowAV_length, List.length_append, List.length_replicate]
          omega
        have l1 : ∀ z : List AV, ((rowAV (sglTo cs k ++ List.replicate q k)).length + [z].length).ble 9223372036854775807 = true := fun z => by
          rw [Nat.ble_eq]
          show _ + 1 ≤ _
          omega
        have l2 : ∀ z : List AV, (((rowAV (sglTo cs k ++ List.replicate q k)).length + [z].length) * 8).ble 140737488355328 = true := fun z => by
          rw [Nat.ble_eq]
          show (_ + 1) * 8 ≤ _
          omega
        rw [Int.toNat_natCast, e1, inb_true hk, d, l1, l2, wrap_succ (by omega)]
        have e2 : rowAV (sglTo cs k ++ List.replicate q k) ++ [[AV.i .i64 (k : Int)]] = rowAV (sglTo cs k ++ List.replicate (q + 1) k) := by
          rw [List.replicate_succ', ← List.append_assoc, rowAV_app (sglTo cs k ++ List.replicate q k)]
          rfl
        rw [e2]
        rfl
      · refine ⟨.x0 (rowAV (sglTo cs (k + 1))) ((mn cs k).toNat : Int), ?_, _, rfl⟩
        show stp79aa da db cs (k : Int) (rowAV (sglTo cs (k + 1))) ((mn cs k).toNat : Int) = _
        unfold stp79aa
        have d : decide (((mn cs k).toNat : Int) < mn cs k) = false := decide_eq_false (by omega)
        have e1 : fI (cs.getD k []) 1 = mn cs k := rfl
        rw [Int.toNat_natCast, e1, inb_true hk, d]
        rfl
    obtain ⟨y, h1, a, h2⟩ := run
    rw [List.replicate_zero, List.append_nil] at h1
    exact ⟨a, by rw [← h2]; exact h1⟩
  have run : ∃ y, r79a da db cs [] 0 = some y ∧ ∃ a, y = .x0 (rowAV (sglTo cs cs.length)) a := by
    unfold r79a
    refine run_for (S := Unit) cs.length (fun k _ => (⟨rowAV (sglTo cs k), (k : Int)⟩ : S79a)) (fun _ _ => True) (fun _ _ (y : T79a) => ∃ a, y = .x0 (rowAV (sglTo cs cs.length)) a) (fun k _ hk _ => ?_) (fun _ _ => ?_) 0 () (Nat.zero_le _) trivial
    · left
      refine ⟨(), ?_, trivial, fun y hy => hy⟩
      show stp79a da db cs (rowAV (sglTo cs k)) (k : Int) = _
      unfold stp79a i79aa_0 v79aa_0_t3
      obtain ⟨a, ha⟩ := inner k hk
      rw [ha, lt_true hk, wrap_succ (by omega)]
      rfl
    · refine ⟨.x0 (rowAV (sglTo cs cs.length)) (cs.length : Int), ?_, _, rfl⟩
      show stp79a da db cs (rowAV (sglTo cs cs.length)) (cs.length : Int) = _
      unfold stp79a
      rw [lt_false]; rfl
  obtain ⟨y, h1, a, h2⟩ := run
  unfold g79 w79_0 t79 i79a_0 v79a_0_t3
  rw [h1, h2]
  exact ⟨rfl, rfl⟩
/-! ### Sets of cuts -/
theorem bit_test (s i : Nat) (hi : i < 64) : (IntKind.i64.wrap (((BitVec.ofInt 64 (((s : Nat) : Int).fdiv (2 ^ min ((i : Nat) : Int).toNat 64)) &&& BitVec.ofInt 64 1).toNat : Nat) : Int) == 1) = decide (s / 2 ^ i % 2 = 1) := by
  have e1 : (((s : Nat) : Int).fdiv (2 ^ min ((i : Nat) : Int).toNat 64)) = ((s / 2 ^ i : Nat) : Int) := by
    rw [Int.toNat_natCast, Nat.min_eq_left (by omega)]
    have : ((2 : Int) ^ i) = ((2 ^ i : Nat) : Int) := by simp
    rw [this, Int.fdiv_eq_ediv_of_nonneg _ (Int.natCast_nonneg _)]
    rfl
  rw [e1]
  generalize s / 2 ^ i = n
  have e2 : (BitVec.ofInt 64 ((n : Nat) : Int) &&& BitVec.ofInt 64 1).toNat = n % 2 := by
    rw [BitVec.toNat_and]
    have a1 : (BitVec.ofInt 64 ((n : Nat) : Int)).toNat = n % 2 ^ 64 := by
      rw [BitVec.toNat_ofInt]
      omega
    have a2 : (BitVec.ofInt 64 1).toNat = 1 := by decide
    rw [a1, a2, Nat.and_one_is_mod]
    omega
  rw [e2]
  have e3 : IntKind.i64.wrap ((n % 2 : Nat) : Int) = ((n % 2 : Nat) : Int) := wrap64 (by omega) (by omega)
  rw [e3]
  rw [Bool.eq_iff_iff, beq_iff_eq, decide_eq_true_eq]
  omega
def vv (ws : List (List AV)) (j : Nat) : Int := fI (ws.getD j []) 0
/-- Sizes and weights of cuts. -/
def Lz (db : Int) (cs ws : List (List AV)) (row : List Nat) : List (Int × Int) := row.map fun j => (ln cs j + db, vv ws j)
theorem Lz_len (db : Int) (cs ws : List (List AV)) (row : List Nat) : (Lz db cs ws row).length = row.length := by simp [Lz]
theorem Lz_drop {db : Int} {cs ws : List (List AV)} {row : List Nat} {i : Nat} (h : i < row.length) : (Lz db cs ws row).drop i = (ln cs (row.getD i 0) + db, vv ws (row.getD i 0)) :: (Lz db cs ws row).drop (i + 1) := by
  unfold Lz
  rw [← List.map_drop, ← List.map_drop, drop_cons 0 h]
  rfl
theorem half_pow (s i : Nat) : s / 2 ^ i / 2 = s / 2 ^ (i + 1) := by
  rw [Nat.div_div_eq_div_mul, Nat.pow_succ]
theorem szB_cons (z v : Int) (r : List (Int × Int)) (b : Nat) : szB ((z, v) :: r) b = (if b % 2 = 1 then z else 0) + szB r (b / 2) := rfl
theorem wtB_cons (z v : Int) (r : List (Int × Int)) (b : Nat) : wtB ((z, v) :: r) b = (if b % 2 = 1 then v else 0) + wtB r (b / 2) := rfl
theorem set80 {da db : Int} {cs vs : List (List AV)} {row : List Nat} {s N : Nat} {T : List (List AV)} (hF : RFine da db cs) (hr : ∀ j, j ∈ row → j < cs.length) (hlen : row.length ≤ 12) :
    ∃ a, r80aa (rowAV row) da db cs N (s : Int) T 0 0 = some (.x0 (szB (Lz db cs vs row) s) a) := by
  have hb := hF.b
  have run : ∃ y, r80aa (rowAV row) da db cs N (s : Int) T 0 0 = some y ∧ ∃ a, y = .x0 (0 + szB ((Lz db cs vs row).drop 0) (s / 2 ^ 0)) a := by
    unfold r80aa
    refine run_for (S := Int) row.length (fun i t => (⟨t, (i : Int)⟩ : S80aa)) (fun i t => 0 ≤ t ∧ t ≤ 200000 * (i : Int)) (fun i t (y : T80aa) => ∃ a, y = .x0 (t + szB ((Lz db cs vs row).drop i) (s / 2 ^ i)) a) (fun i t hi ht => ?_) (fun t ht => ?_) 0 0 (Nat.zero_le _) ⟨Int.le_refl _, Int.le_refl _⟩
    · left
      have hj := hr _ (drop_mem 0 hi)
      have hc := hF.c _ hj
      unfold okCut at hc
      have hgo : ∀ t' : Int, t' = t + (if s / 2 ^ i % 2 = 1 then ln cs (row.getD i 0) + db else 0) → (0 ≤ t' ∧ t' ≤ 200000 * ((i + 1 : Nat) : Int)) ∧ ∀ y : T80aa, (∃ a, y = .x0 (t' + szB ((Lz db cs vs row).drop (i + 1)) (s / 2 ^ (i + 1))) a) → ∃ a, y = .x0 (t + szB ((Lz db cs vs row).drop i) (s / 2 ^ i)) a := by
        intro t' e
        refine ⟨by split at e <;> omega, ?_⟩
        rintro y ⟨a, rfl⟩
        refine ⟨a, ?_⟩
        rw [Lz_drop hi, szB_cons, half_pow, e, Int.add_assoc]
      have d1 : decide ((0 : Int) ≤ (i : Int)) = true := decide_eq_true (by omega)
      by_cases hbit : s / 2 ^ i % 2 = 1
      · obtain ⟨g1, g2⟩ := hgo (t + (ln cs (row.getD i 0) + db)) (by rw [if_pos hbit])
        refine ⟨t + (ln cs (row.getD i 0) + db), ?_, g1, g2⟩
        show stp80aa (rowAV row) da db cs N (s : Int) T t (i : Int) = _
        unfold stp80aa
        rw [bit_test s i (by omega), decide_eq_true hbit, rowAV_length, lt_true hi, d1, inb_true hi, Int.toNat_natCast, rowAV_get hi, inb_true hj, Int.toNat_natCast]
        have e0 : fI (cs.getD (row.getD i 0) []) 0 = ln cs (row.getD i 0) := rfl
        rw [e0, wrap64 (x := t + ln cs (row.getD i 0)) (by omega) (by omega), wrap64 (by omega) (by omega), wrap_succ (by omega), Int.add_assoc]
        rfl
      · obtain ⟨g1, g2⟩ := hgo t (by rw [if_neg hbit]; omega)
        refine ⟨t, ?_, g1, g2⟩
        show stp80aa (rowAV row) da db cs N (s : Int) T t (i : Int) = _
        unfold stp80aa
        rw [bit_test s i (by omega), decide_eq_false hbit, rowAV_length, lt_true hi, d1, wrap_succ (by omega)]
        rfl
    · refine ⟨.x0 t (row.length : Int), ?_, (row.length : Int), ?_⟩
      · show stp80aa (rowAV row) da db cs N (s : Int) T t (row.length : Int) = _
        unfold stp80aa
        rw [rowAV_length, lt_false]; rfl
      · rw [List.drop_of_length_le (by rw [Lz_len]; exact Nat.le_refl _)]
        show T80aa.x0 t _ = T80aa.x0 (t + 0) _
        rw [Int.add_zero]
  obtain ⟨y, h1, a, h2⟩ := run
  refine ⟨a, ?_⟩
  rw [h1, h2]
  simp
theorem set58 {ws : List (List AV)} {db : Int} {cs : List (List AV)} {row : List Nat} {s : Nat} {t4 t7 t8 : Int} {T : List (List AV)} (hr : ∀ j, j ∈ row → j < ws.length) (hlen : row.length ≤ 12) (hv : ∀ j, j < ws.length → 0 ≤ vv ws j ∧ vv ws j ≤ 1000000) :
    ∃ a, r58aa ws t4 (rowAV row) T t7 t8 (s : Int) 0 0 = some (.x0 (wtB (Lz db cs ws row) s) a) := by
  have run : ∃ y, r58aa ws t4 (rowAV row) T t7 t8 (s : Int) 0 0 = some y ∧ ∃ a, y = .x0 (0 + wtB ((Lz db cs ws row).drop 0) (s / 2 ^ 0)) a := by
    unfold r58aa
    refine run_for (S := Int) row.length (fun i t => (⟨t, (i : Int)⟩ : S58aa)) (fun i t => 0 ≤ t ∧ t ≤ 1000000 * (i : Int)) (fun i t (y : T58aa) => ∃ a, y = .x0 (t + wtB ((Lz db cs ws row).drop i) (s / 2 ^ i)) a) (fun i t hi ht => ?_) (fun t ht => ?_) 0 0 (Nat.zero_le _) ⟨Int.le_refl _, Int.le_refl _⟩
    · left
      have hj := hr _ (drop_mem 0 hi)
      have hc := hv _ hj
      have hgo : ∀ t' : Int, t' = t + (if s / 2 ^ i % 2 = 1 then vv ws (row.getD i 0) else 0) → (0 ≤ t' ∧ t' ≤ 1000000 * ((i + 1 : Nat) : Int)) ∧ ∀ y : T58aa, (∃ a, y = .x0 (t' + wtB ((Lz db cs ws row).drop (i + 1)) (s / 2 ^ (i + 1))) a) → ∃ a, y = .x0 (t + wtB ((Lz db cs ws row).drop i) (s / 2 ^ i)) a := by
        intro t' e
        refine ⟨by split at e <;> omega, ?_⟩
        rintro y ⟨a, rfl⟩
        refine ⟨a, ?_⟩
        rw [Lz_drop hi, wtB_cons, half_pow, e, Int.add_assoc]
      have d1 : decide ((0 : Int) ≤ (i : Int)) = true := decide_eq_true (by omega)
      by_cases hbit : s / 2 ^ i % 2 = 1
      · obtain ⟨g1, g2⟩ := hgo (t + vv ws (row.getD i 0)) (by rw [if_pos hbit])
        refine ⟨t + vv ws (row.getD i 0), ?_, g1, g2⟩
        show stp58aa ws t4 (rowAV row) T t7 t8 (s : Int) t (i : Int) = _
        unfold stp58aa
        rw [bit_test s i (by omega), decide_eq_true hbit, rowAV_length, lt_true hi, d1, inb_true hi, Int.toNat_natCast, rowAV_get hi, inb_true hj, Int.toNat_natCast]
        have e0 : fI (ws.getD (row.getD i 0) []) 0 = vv ws (row.getD i 0) := rfl
        rw [e0, wrap64 (by omega) (by omega), wrap_succ (by omega)]
        rfl
      · obtain ⟨g1, g2⟩ := hgo t (by rw [if_neg hbit]; omega)
        refine ⟨t, ?_, g1, g2⟩
        show stp58aa ws t4 (rowAV row) T t7 t8 (s : Int) t (i : Int) = _
        unfold stp58aa
        rw [bit_test s i (by omega), decide_eq_false hbit, rowAV_length, lt_true hi, d1, wrap_succ (by omega)]
        rfl
    · refine ⟨.x0 t (row.length : Int), ?_, (row.length : Int), ?_⟩
      · show stp58aa ws t4 (rowAV row) T t7 t8 (s : Int) t (row.length : Int) = _
        unfold stp58aa
        rw [rowAV_length, lt_false]; rfl
      · rw [List.drop_of_length_le (by rw [Lz_len]; exact Nat.le_refl _)]
        show T58aa.x0 t _ = T58aa.x0 (t + 0) _
        rw [Int.add_zero]
  obtain ⟨y, h1, a, h2⟩ := run
  refine ⟨a, ?_⟩
  rw [h1, h2]
  simp
end Go.Proofs.Ytgifjphinkbcaaa

set_option maxRecDepth 100000
set_option linter.unusedVariables false
namespace Go.Proofs.Ytgifjphinkbcaaa
open Go Go.Ev
/-! ### The reference's bound -/
def btab (f : Nat → Bool) (N : Nat) : List (List AV) := (List.range N).map fun j => [.b (f j)]
theorem btab_len (f : Nat → Bool) (N : Nat) : (btab f N).length = N := by simp [btab]
theorem btab_get {f : Nat → Bool} {N k : Nat} (h : k < N) : (btab f N).getD k [] = [.b (f k)] := by
  simp [btab, List.getD_eq_getElem?_getD, h]
theorem btab_set {f g : Nat → Bool} {N k : Nat} (h : k < N) (hg : ∀ j, j ≠ k → g j = f j) : (btab f N).set k [.b (g k)] = btab g N := by
  apply List.ext_getElem
  · simp [btab]
  · intro i h1 h2
    have hi : i < N := by simpa [btab] using h1
    simp only [btab, List.getElem_set, List.getElem_map, List.getElem_range]
    by_cases e : k = i
    · subst e; simp
    · simp only [e, if_false]
      rw [hg i (Ne.symm e)]
theorem btab_zero (N : Nat) : List.replicate N [AV.b false] = btab (fun _ => false) N := by
  apply List.ext_getElem
  · simp [btab]
  · intro i h1 h2
    simp only [btab, List.getElem_replicate, List.getElem_map]
theorem btab_congr {f g : Nat → Bool} {N : Nat} (h : ∀ j, j < N → f j = g j) : btab f N = btab g N := by
  unfold btab
  exact List.map_congr_left fun j hj => by rw [h j (by simpa using hj)]
theorem pow_le {n : Nat} (h : n ≤ 12) : 2 ^ n ≤ 4096 := by
  have := Nat.pow_le_pow_right (n := 2) (by omega) h
  simpa using this
theorem szB_vs (db : Int) (cs ws vs : List (List AV)) : ∀ (row : List Nat) (b : Nat), szB (Lz db cs ws row) b = szB (Lz db cs vs row) b
  | [], b => rfl
  | j :: row, b => by
    show (if b % 2 = 1 then ln cs j + db else 0) + szB (Lz db cs ws row) (b / 2) = (if b % 2 = 1 then ln cs j + db else 0) + szB (Lz db cs vs row) (b / 2)
    rw [szB_vs db cs ws vs row]
theorem wrap_nat {n : Nat} (h : n ≤ 4096) : IntKind.i64.wrap (n : Int) = (n : Int) := wrap64 (by omega) (by omega)
theorem make_b {n : Nat} (h : n ≤ 4096) : (decide ((n : Int) = (n : Int)) && (decide (0 ≤ (n : Int)) && decide ((n : Int) * (1 : Int) ≤ 140737488355328) && decide ((n : Int) ≤ 9223372036854775807))) = true := by
  simp only [Bool.and_eq_true, decide_eq_true_eq]
  exact ⟨trivial, ⟨by omega, by omega⟩, by omega⟩
theorem rpat_val {da db : Int} {cs vs : List (List AV)} {row : List Nat} (hF : RFine da db cs) (hr : ∀ j, j ∈ row → j < cs.length) (hlen : row.length ≤ 12) :
    g80 da db cs (rowAV row) = true ∧ w80_0 da db cs (rowAV row) = btab (fun b => decide (szB (Lz db cs vs row) b ≤ da + db)) (2 ^ row.length) := by
  have hp := pow_le hlen
  have ha := hF.a
  have hb := hF.b
  have run : ∃ y, r80a (rowAV row) da db cs (2 ^ row.length) 0 (btab (fun j => decide (j < 0) && decide (szB (Lz db cs vs row) j ≤ da + db)) (2 ^ row.length)) = some y ∧ ∃ a, y = .x0 a (btab (fun b => decide (szB (Lz db cs vs row) b ≤ da + db)) (2 ^ row.length)) := by
    unfold r80a
    refine run_for (S := Unit) (2 ^ row.length) (fun k _ => (⟨(k : Int), btab (fun j => decide (j < k) && decide (szB (Lz db cs vs row) j ≤ da + db)) (2 ^ row.length)⟩ : S80a)) (fun _ _ => True) (fun _ _ (y : T80a) => ∃ a, y = .x0 a (btab (fun b => decide (szB (Lz db cs vs row) b ≤ da + db)) (2 ^ row.length))) (fun k _ hk _ => ?_) (fun _ _ => ?_) 0 () (Nat.zero_le _) trivial
    · left
      refine ⟨(), ?_, trivial, fun y hy => hy⟩
      obtain ⟨a, hs⟩ := set80 (vs := vs) (s := k) (N := 2 ^ row.length) (T := btab (fun j => decide (j < k) && decide (szB (Lz db cs vs row) j ≤ da + db)) (2 ^ row.length)) hF hr hlen
      show stp80a (rowAV row) da db cs (2 ^ row.length) (k : Int) (btab (fun j => decide (j < k) && decide (szB (Lz db cs vs row) j ≤ da + db)) (2 ^ row.length)) = _
      unfold stp80a i80aa_0 v80aa_0_t7
      rw [hs]
      have bb : k.blt (2 ^ row.length) = true := by simpa [Nat.blt_eq] using hk
      simp only [lt_true hk, inb_true hk, cond_true, Int.toNat_natCast, Nat.zero_add, btab_len, bb, Bool.and_true, btab_get hk, wrap_succ (show k < 9223372036854775807 by omega)]
      rw [wrap64 (by omega) (by omega)]
      have e2 : setCs [AV.b (decide (k < k) && decide (szB (Lz db cs vs row) k ≤ da + db))] 0 [AV.b (decide (szB (Lz db cs vs row) k ≤ da + db))] = [AV.b ((fun j => decide (j < k + 1) && decide (szB (Lz db cs vs row) j ≤ da + db)) k)] := by
        have : decide (k < k + 1) = true := decide_eq_true (by omega)
        show [AV.b (decide (szB (Lz db cs vs row) k ≤ da + db))] = [AV.b (decide (k < k + 1) && decide (szB (Lz db cs vs row) k ≤ da + db))]
        rw [this]; rfl
      rw [e2]
      exact congrArg (fun T => Lp.go (⟨((k + 1 : Nat) : Int), T⟩ : S80a)) (btab_set (f := fun j => decide (j < k) && decide (szB (Lz db cs vs row) j ≤ da + db)) (g := fun j => decide (j < k + 1) && decide (szB (Lz db cs vs row) j ≤ da + db)) hk fun j hj => by
        have : decide (j < k + 1) = decide (j < k) := by
          rw [decide_eq_decide]; omega
        simp only [this])
    · refine ⟨.x0 ((2 ^ row.length : Nat) : Int) (btab (fun j => decide (j < 2 ^ row.length) && decide (szB (Lz db cs vs row) j ≤ da + db)) (2 ^ row.length)), ?_, ((2 ^ row.length : Nat) : Int), ?_⟩
      · show stp80a (rowAV row) da db cs (2 ^ row.length) ((2 ^ row.length : Nat) : Int) _ = _
        unfold stp80a
        rw [lt_false]; rfl
      · congr 1
        refine btab_congr fun j hj => ?_
        rw [decide_eq_true hj]
        rfl
  obtain ⟨y, h1, a, h2⟩ := run
  have e0 : btab (fun j => decide (j < 0) && decide (szB (Lz db cs vs row) j ≤ da + db)) (2 ^ row.length) = List.replicate (2 ^ row.length) [AV.b false] := by
    rw [btab_zero]
    refine btab_congr fun j _ => ?_
    simp
  rw [e0] at h1
  have ew : IntKind.i64.wrap (1 * 2 ^ min ((row.length : Nat) : Int).toNat 64) = ((2 ^ row.length : Nat) : Int) := by
    rw [Int.toNat_natCast, Nat.min_eq_left (by omega), Int.one_mul]
    have : ((2 : Int) ^ row.length) = ((2 ^ row.length : Nat) : Int) := by simp
    rw [this]
    exact wrap_nat hp
  unfold g80 w80_0 t80
  rw [rowAV_length, ew, make_b hp]
  simp only [Int.toNat_natCast, Nat.zero_add]
  unfold i80a_0 v80a_0_m5
  rw [h1, h2]
  have b1 : (2 ^ row.length).ble (2 ^ row.length) = true := by simp [Nat.ble_eq]
  simp only [btab_len, b1, Nat.beq_refl, cond_true, Tr.g, Tr.val, and_self]
theorem wtB_bd {m : Int} (hm : 0 ≤ m) : ∀ {l : List (Int × Int)} (b : Nat), (∀ e, e ∈ l → 0 ≤ e.2 ∧ e.2 ≤ m) → 0 ≤ wtB l b ∧ wtB l b ≤ m * l.length
  | [], b, _ => by simp [wtB]
  | (z, v) :: r, b, h => by
    have h1 := wtB_bd hm (l := r) (b / 2) (fun e he => h e (by simp [he]))
    have h2 := h (z, v) (by simp)
    have e : m * ((((z, v) :: r).length : Nat) : Int) = m * (r.length : Int) + m := by
      rw [List.length_cons, Int.natCast_add, Int.mul_add]
      simp
    rw [wtB_cons, e]
    simp only at h2
    split <;> omega
theorem Lz_bd {db : Int} {cs ws : List (List AV)} {row : List Nat} {m : Int} (hr : ∀ j, j ∈ row → j < ws.length) (hv : ∀ j, j < ws.length → 0 ≤ vv ws j ∧ vv ws j ≤ m) : ∀ e, e ∈ Lz db cs ws row → 0 ≤ e.2 ∧ e.2 ≤ m := by
  intro e he
  obtain ⟨j, hj, rfl⟩ := List.mem_map.1 he
  exact hv j (hr j hj)
/-- The bound that comes of a sum and a greatest one. -/
def bndV (sum most : Int) : Int := if sum = 0 then 0 else (sum + most - 1).tdiv most
theorem rbound_val {da db : Int} {cs ws : List (List AV)} (hF : RFine da db cs) (h9 : smn cs cs.length ≤ 12) (hl : ws.length = cs.length) (hv : ∀ j, j < ws.length → 0 ≤ vv ws j ∧ vv ws j ≤ 1000000) :
    ∃ M, IsMax (fun s => KU (Lz db cs ws (sglTo cs cs.length)) (da + db) s) M ∧ M ≤ 12000000 ∧ (0 ≤ ((Lz db cs ws (sglTo cs cs.length)).map Prod.snd).sum ∧ ((Lz db cs ws (sglTo cs cs.length)).map Prod.snd).sum ≤ 12000000) ∧
      ((((Lz db cs ws (sglTo cs cs.length)).map Prod.snd).sum ≠ 0 → M ≠ 0) → g58 da db cs ws = true ∧ w58_0 da db cs ws = bndV (((Lz db cs ws (sglTo cs cs.length)).map Prod.snd).sum) M) := by
  have hlen0 := sglTo_len (cs := cs) (k := cs.length) hF.c
  have hr : ∀ j, j ∈ sglTo cs cs.length → j < cs.length := fun j hj => sglTo_lt hj
  obtain ⟨s1, s2⟩ := single_val hF
  generalize hrow : sglTo cs cs.length = row at *
  have hlen : row.length ≤ 12 := by omega
  have hp := pow_le hlen
  have hr' : ∀ j, j ∈ row → j < ws.length := fun j hj => by rw [hl]; exact hr j hj
  obtain ⟨p1, p2⟩ := rpat_val (vs := ws) hF hr hlen
  have hbd : ∀ b, 0 ≤ wtB (Lz db cs ws row) b ∧ wtB (Lz db cs ws row) b ≤ 12000000 := fun b => by
    have := wtB_bd (m := 1000000) (by omega) b (Lz_bd (db := db) (cs := cs) hr' hv)
    rw [Lz_len] at this
    omega
  have hN : 0 < 2 ^ row.length := Nat.two_pow_pos _
  have run : ∃ y, r58a ws 0 (rowAV row) (btab (fun b => decide (szB (Lz db cs ws row) b ≤ da + db)) (2 ^ row.length)) 0 0 0 = some y ∧ ∃ M a, y = .x0 M (wtB (Lz db cs ws row) (2 ^ row.length - 1)) a ∧ IsMax (fun s => ∃ b, b < 2 ^ row.length ∧ szB (Lz db cs ws row) b ≤ da + db ∧ wtB (Lz db cs ws row) b = s) M ∧ M ≤ 12000000 := by
    unfold r58a
    refine run_for (S := Int × Int) (2 ^ row.length) (fun k s => (⟨s.1, s.2, (k : Int)⟩ : S58a)) (fun k s => IsMax (fun s => ∃ b, b < k ∧ szB (Lz db cs ws row) b ≤ da + db ∧ wtB (Lz db cs ws row) b = s) s.1 ∧ s.1 ≤ 12000000 ∧ (0 < k → s.2 = wtB (Lz db cs ws row) (k - 1)))
      (fun _ _ (y : T58a) => ∃ M a, y = .x0 M (wtB (Lz db cs ws row) (2 ^ row.length - 1)) a ∧ IsMax (fun s => ∃ b, b < 2 ^ row.length ∧ szB (Lz db cs ws row) b ≤ da + db ∧ wtB (Lz db cs ws row) b = s) M ∧ M ≤ 12000000) (fun k s hk hi => ?_) (fun s hi => ?_) 0 (0, 0) (Nat.zero_le _) ⟨⟨Int.le_refl _, ?_, .inl rfl⟩, by show (0 : Int) ≤ 12000000; omega, fun h => by omega⟩
    · obtain ⟨M, n⟩ := s
      obtain ⟨i1, i2, i3⟩ := hi
      simp only at i1 i2 i3
      left
      obtain ⟨a, ha⟩ := set58 (ws := ws) (db := db) (cs := cs) (s := k) (t4 := 0) (t7 := M) (t8 := n) (T := btab (fun b => decide (szB (Lz db cs ws row) b ≤ da + db)) (2 ^ row.length)) hr' hlen hv
      have hw := hbd k
      by_cases hok : szB (Lz db cs ws row) k ≤ da + db
      · refine ⟨(bmax M (wtB (Lz db cs ws row) k), wtB (Lz db cs ws row) k), ?_, ⟨?_, ?_, fun _ => by simp⟩, fun y hy => hy⟩
        · show stp58a ws 0 (rowAV row) (btab (fun b => decide (szB (Lz db cs ws row) b ≤ da + db)) (2 ^ row.length)) M n (k : Int) = _
          unfold stp58a i58aa_0 v58aa_0_t10
          rw [ha]
          simp only [btab_len, lt_true hk, inb_true hk, cond_true, Int.toNat_natCast, btab_get hk, decide_eq_true hok, wrap_succ (show k < 9223372036854775807 by omega)]
          rfl
        · have hb := bmax_le M (wtB (Lz db cs ws row) k)
          refine ⟨?_, ?_, ?_⟩
          · have := i1.nn
            show 0 ≤ bmax M (wtB (Lz db cs ws row) k)
            rw [hb]; split <;> omega
          · rintro s ⟨b, h1, h2, h3⟩
            show s ≤ bmax M (wtB (Lz db cs ws row) k)
            rcases Nat.lt_succ_iff_lt_or_eq.1 h1 with h' | rfl
            · have := i1.le s ⟨b, h', h2, h3⟩
              rw [hb]; split <;> omega
            · rw [hb]; split <;> omega
          · show bmax M (wtB (Lz db cs ws row) k) = 0 ∨ _
            by_cases hc : M ≤ wtB (Lz db cs ws row) k
            · right
              exact ⟨k, by omega, hok, by rw [hb, if_pos hc]⟩
            · rw [hb, if_neg hc]
              rcases i1.is with e | ⟨b, h1, h2, h3⟩
              · exact .inl e
              · exact .inr ⟨b, by omega, h2, h3⟩
        · show bmax M (wtB (Lz db cs ws row) k) ≤ 12000000
          rw [bmax_le]; split <;> omega
      · refine ⟨(M, wtB (Lz db cs ws row) k), ?_, ⟨⟨i1.nn, ?_, ?_⟩, i2, fun _ => by simp⟩, fun y hy => hy⟩
        · show stp58a ws 0 (rowAV row) (btab (fun b => decide (szB (Lz db cs ws row) b ≤ da + db)) (2 ^ row.length)) M n (k : Int) = _
          unfold stp58a i58aa_0 v58aa_0_t10
          rw [ha]
          simp only [btab_len, lt_true hk, inb_true hk, cond_true, Int.toNat_natCast, btab_get hk, decide_eq_false hok, wrap_succ (show k < 9223372036854775807 by omega)]
          rfl
        · rintro s ⟨b, h1, h2, h3⟩
          rcases Nat.lt_succ_iff_lt_or_eq.1 h1 with h' | rfl
          · exact i1.le s ⟨b, h', h2, h3⟩
          · exact absurd h2 hok
        · rcases i1.is with e | ⟨b, h1, h2, h3⟩
          · exact .inl e
          · exact .inr ⟨b, by omega, h2, h3⟩
    · obtain ⟨M, n⟩ := s
      obtain ⟨i1, i2, i3⟩ := hi
      refine ⟨.x0 M n ((2 ^ row.length : Nat) : Int), ?_, M, ((2 ^ row.length : Nat) : Int), ?_, i1, i2⟩
      · show stp58a ws 0 (rowAV row) (btab (fun b => decide (szB (Lz db cs ws row) b ≤ da + db)) (2 ^ row.length)) M n ((2 ^ row.length : Nat) : Int) = _
        unfold stp58a
        rw [btab_len, lt_false]; rfl
      · have := i3 hN
        simp only at this
        rw [this]
    · rintro s ⟨b, h1, _⟩
      omega
  obtain ⟨y, h1, M, a, h2, h3, h4⟩ := run
  have hfull : wtB (Lz db cs ws row) (2 ^ row.length - 1) = ((Lz db cs ws row).map Prod.snd).sum := by
    have := wtB_full (Lz db cs ws row)
    rw [Lz_len] at this
    exact this
  rw [hfull] at h2
  have hsum := hbd (2 ^ row.length - 1)
  rw [hfull] at hsum
  refine ⟨M, ⟨h3.nn, fun s hs => ?_, ?_⟩, h4, hsum, fun hne => ?_⟩
  · rw [KU_bits, Lz_len] at hs
    exact h3.le s hs
  · rcases h3.is with e | e
    · exact .inl e
    · right
      rw [KU_bits, Lz_len]
      exact e
  · have hM := h3.nn
    unfold g58 w58_0 t58 i58a_0 v58a_0_t7 v58a_0_t8
    rw [s1, s2, p1, p2, h1, h2]
    simp only
    unfold bndV
    by_cases h0 : ((Lz db cs ws row).map Prod.snd).sum = 0
    · have e : (((Lz db cs ws row).map Prod.snd).sum == 0) = true := by simpa using h0
      rw [e, if_pos h0]
      exact ⟨rfl, rfl⟩
    · have e : (((Lz db cs ws row).map Prod.snd).sum == 0) = false := by simpa using h0
      have hM0 := hne h0
      rw [e, if_neg h0, decide_eq_false hM0, wrap64 (x := ((Lz db cs ws row).map Prod.snd).sum + M) (by omega) (by omega), wrap64 (x := ((Lz db cs ws row).map Prod.snd).sum + M - 1) (by omega) (by omega)]
      have hd : 0 ≤ (((Lz db cs ws row).map Prod.snd).sum + M - 1).tdiv M ∧ (((Lz db cs ws row).map Prod.snd).sum + M - 1).tdiv M ≤ ((Lz db cs ws row).map Prod.snd).sum + M - 1 := by
        refine ⟨Int.tdiv_nonneg (by omega) (by omega), ?_⟩
        rw [Int.tdiv_eq_ediv_of_nonneg (by omega)]
        exact Int.ediv_le_self _ (by omega)
      rw [wrap64 (by omega) (by omega)]
      exact ⟨rfl, rfl⟩
end Go.Proofs.Ytgifjphinkbcaaa

set_option maxRecDepth 100000
set_option linter.unusedVariables false
set_option linter.unusedSimpArgs false
namespace Go.Proofs.Ytgifjphinkbcaaa
open Go Go.Ev
noncomputable def bd89 : Code := match Try.f89.body with | some c => c | _ => .skip
noncomputable def at89 (p : List Bool) : Code := match locate bd89 p with | some c => c | _ => .skip
noncomputable def q0 : Code := at89 [false]
noncomputable def q1 : Code := at89 [true, false, false]
noncomputable def q2 : Code := at89 [true, false, true, false, false]
noncomputable def q3 : Code := at89 [true, true, false]
noncomputable def q4 : Code := at89 [true, true, true, false, false]
noncomputable def qB : Code := match at89 [true, true, true, false, true, false] with | .loop c => c | _ => .skip
noncomputable def atB (p : List Bool) : Code := match locate qB p with | some c => c | _ => .skip
noncomputable def q5 : Code := atB [false, false]
noncomputable def q7 : Code := atB [true, false, false, false, false]
noncomputable def q8 : Code := atB [true, false, false, false, true, false, false]
noncomputable def q9 : Code := atB [true, false, false, true]
noncomputable def q6 : Code := atB [true, true]
noncomputable def q10 : Code := at89 [true, true, true, true, false]
noncomputable def q11 : Code := at89 [true, true, true, true, true, false]
theorem bd89_eq : bd89 = .seq q0 (.seq (.seq q1 (.cond (.tmp 15) (.seq q2 .ret) .skip)) (.seq q3 (.seq (.seq q4 (.block 0 (.loop qB))) (.seq q10 (.seq q11 .ret))))) := by kernel_rfl
theorem qB_eq : qB = .seq (.seq q5 (.cond (.tmp 40) .skip (.exit 0))) (.seq (.block 1 (.seq (.seq q7 (.cond (.tmp 51) (.seq q8 .ret) .skip)) q9)) q6) := by kernel_rfl
noncomputable def ops2 : Array Oper := match q2 with | .region _ o _ => o | _ => #[]
noncomputable def ops7 : Array Oper := match q7 with | .region _ o _ => o | _ => #[]
def rpR (da db : Int) (cs : List (List AV)) : AV := .rp [.int .i64, .int .i64, .sl 64] [.i .i64 da, .i .i64 db, .rs 64 cs] 0
def rpY (l : Nat) : AV := .rp [.oth] [.yl l] 0
def rpM (q0 q1 q2 q3 q4 q5 q6 q7 : Int) : AV := .rp [.int .i64, .int .i64, .int .i64, .int .i64, .int .i64, .int .i64, .int .i64, .int .i64] [.i .i64 q0, .i .i64 q1, .i .i64 q2, .i .i64 q3, .i .i64 q4, .i .i64 q5, .i .i64 q6, .i .i64 q7] 0
/-- One piece, and what is kept behind it. -/
noncomputable def piece (c : Code) (ts : List Nat) (st : St) : Option (Ex × List AV × Blk) := evC Try.prog S0 (ro 89) (fun _ _ => none) c [] st fun e s => some (e, ts.map (gt s.t), gm s.m 0)
noncomputable def pieceB (ops : Array Oper) (k : Nat) (ts : List Nat) (st : St) : Option (List AV × Blk) := evOpsB Try.prog S0 (ro 89) ops st.nx (ops.toList.take k) 0 st fun s => some (ts.map (gt s.t), gm s.m 0)
/-- At a head. -/
noncomputable def stH (vs : List AV) (X : List AV) : St := { t := [0, 1, 2, 3, 4, 5, 6, 10].zip vs, m := [(0, .row 104 [X])], nx := 1, nt := 57 }
noncomputable def st0 (j room : Int) (v2 v3 v5 v6 : AV) (X : List AV) : St := initSt 57 [.i .i64 j, .i .i64 room, v2, v3, .p 0 0 0, v5, v6] [.row 104 [X]]
end Go.Proofs.Ytgifjphinkbcaaa

set_option maxRecDepth 100000
set_option linter.unusedVariables false
set_option linter.unusedSimpArgs false
namespace Go.Ev
open Go
variable {P : Program} {S : Spec} {RO : Nat → Bool} {L : LSpec} {X : Nat → Nat → Prop} {R : Nat → Option (Nat × Nat × Nat)} {st : St} {a : Act} {w : World} {n : Nat} {Q : Exit → Act → World → Prop}
theorem gt_zip {D : Nat → Nat → Prop} {f : Nat → Value} : ∀ (ts : List Nat) (vs : List AV), (∀ k, k < ts.length → VR P D R w (vs.getD k .u) (f (ts.getD k 0))) → ∀ t, VR P D R w (gt (ts.zip vs) t) (f t)
  | [], vs, _, t => .u
  | a :: ts, [], _, t => .u
  | a :: ts, v :: vs, h, t => by
    simp only [List.zip_cons_cons, gt_cons]
    by_cases e : t = a
    · subst e
      simpa using h 0 (by simp)
    · simp only [e, if_false]
      exact gt_zip ts vs (fun k hk => by simpa using h (k + 1) (by simpa using hk)) t
theorem piece_sound (hs : SpecOK P S) (hm : P.follows .mixedOrders = true) {b0 : Nat} {s0 : Nat × Nat} (hR00 : R 0 = some (b0, s0)) (h : SR P ⟨w, rowsOf R, fun id => id < 1, w.heap.size, Nat.le_refl _⟩ (XR X R) (XR X R) R st a w)
    (hf : Fresh R st.nx) (hnx : 1 ≤ st.nx) {c : Code} (hL : LOK P S RO L 1 true c []) {ts : List Nat} {e0 : Ex} {vs : List AV} {e : TypeId} {es : List (List AV)} (hes : es ≠ [])
    (he : (evC P S RO L c [] st fun e s => some (e, ts.map (gt s.t), gm s.m 0)) = some (e0, vs, .row e es)) (hfr : freeL P 1 vs = true) (hfb : freeB P 1 (.row e es) = true)
    (hn : ∀ a' w', LeftP P X R st a w ts vs (.row e es) a' w' → Q e0.exit a' w') : c.wpIn (FW none) n P Q a w := by
  refine evC_sound hs hm c [] 1 true none n hL (fun h => by cases h) h hf hnx he fun D' R' e' st' a' w' hS hf' hRR hd _ ht hK => ?_
  simp only [Option.some.injEq, Prod.mk.injEq] at hK
  obtain ⟨rfl, rfl, hrow⟩ := hK
  exact hn a' w' (left_of hR00 hes hS hRR (hd rfl) ht hfr hrow hfb)
theorem pieceB_sound (hs : SpecOK P S) {b0 : Nat} {s0 : Nat × Nat} (hR00 : R 0 = some (b0, s0)) (h : SR P ⟨w, rowsOf R, fun id => id < 1, w.heap.size, Nat.le_refl _⟩ (XR X R) (XR X R) R st a w)
    (hf : Fresh R st.nx) (hnx : 1 ≤ st.nx) {ops : Array Oper} {k : Nat} {rest : List Nat} (hk : k ≤ ops.size) {ts : List Nat} {vs : List AV} {e : TypeId} {es : List (List AV)} (hes : es ≠ [])
    (he : (evOpsB P S RO ops st.nx (ops.toList.take k) 0 st fun s => some (ts.map (gt s.t), gm s.m 0)) = some (vs, .row e es)) (hfr : freeL P 1 vs = true) (hfb : freeB P 1 (.row e es) = true)
    (hn : ∀ a' w', LeftP P X R st a w ts vs (.row e es) a' w' → wpOpsIn (FW none) n P ops Q rest a' w') : wpOpsIn (FW none) n P ops Q (List.range' 0 k ++ rest) a w := by
  have hl : (ops.toList.take k).length = k := by simp; omega
  rw [← hl]
  refine evOpsB_cut hs (ops.toList.take k) 0 (fun i hi => ?_) h (by simpa using hf) he fun D' R' st' a' w' hS hf' hRR hd hx ht hK => ?_
  · rw [hl] at hi
    simp [List.getElem?_take, hi]
  · simp only [Option.some.injEq, Prod.mk.injEq] at hK
    obtain ⟨rfl, hrow⟩ := hK
    exact hn a' w' (left_of hR00 hes hS (fun id hid => .inl (hRR id (by omega))) hd ht hfr hrow hfb)
/-- Cells that others may not write stay. -/
def GoodW (X : Nat → Nat → Prop) (R : Nat → Option (Nat × Nat × Nat)) (W W' : World) : Prop := W.heap.size ≤ W'.heap.size ∧ ∀ b o u, ¬ XR X R b o → W.cell? ⟨b, o, none⟩ = some u → W'.cell? ⟨b, o, none⟩ = some u
theorem GoodW.refl {W : World} : GoodW X R W W := ⟨Nat.le_refl _, fun _ _ _ _ h => h⟩
theorem GoodW.trans {W W' W'' : World} (h : GoodW X R W W') (h' : GoodW X R W' W'') : GoodW X R W W'' := ⟨Nat.le_trans h.1 h'.1, fun b o u hd hc => h'.2 b o u hd (h.2 b o u hd hc)⟩
theorem GoodW.VR {W W' : World} (h : GoodW X R W W') {x : AV} {v : Value} (hv : VR P (XR X R) R W x v) : VR P (XR X R) R W' x v := hv.mono' (fun _ _ e => e) fun b o u hd hc => ⟨hd, h.2 b o u hd hc⟩
theorem good_below {W W' : World} (h : BelowY ⟨W, rowsOf R, fun id => id < 1, W.heap.size, Nat.le_refl _⟩ W') : GoodW X R W W' := by
  refine ⟨h.size, fun b o u hd hc => ?_⟩
  have hb : b < W.heap.size := by
    obtain ⟨ob, h5, _⟩ := cells_of_cell hc
    exact (Array.getElem?_eq_some_iff.1 h5).1
  exact (World.cell?_of_block (h.block b hb fun hr => hd (.inr hr))).trans hc
theorem good_kp {Y : Nat → Prop} {W W' : World} (h : KpOf Y W W') (hY : ∀ b o, Y b → X b o) : GoodW X R W W' := by
  refine ⟨h.size, fun b o u hd hc => ?_⟩
  obtain ⟨ob, h5, h6⟩ := cells_of_cell hc
  exact (World.cell?_of_block ((h.same b ob h5 h6 fun hy => hd (.inl (hY b o hy))).trans h5.symm)).trans hc
theorem row_kp {Y : Nat → Prop} {W W' : World} (h : KpOf Y W W') (hY : ∀ b o, Y b → X b o) (hX : ∀ b s o, R 0 = some (b, s) → ¬ X b o) {e : TypeId} {es : List (List AV)} (hr : RowOK P (XR X R) R W 0 (.row e es)) : RowOK P (XR X R) R W' 0 (.row e es) := by
  intro hne
  obtain ⟨b, cells, ty, g1, g2, g3, g4, g5, g6, g7⟩ := hr hne
  refine ⟨b, cells, ty, g1, (h.same b _ g2 rfl fun hy => hX b _ 0 g1 (hY b 0 hy)), g3, g4, g5, g6, fun i j hi hj => ?_⟩
  obtain ⟨v, k1, k2⟩ := g7 i j hi hj
  exact ⟨v, k1, (good_kp h hY).VR k2⟩
end Go.Ev

set_option maxRecDepth 100000
set_option linter.unusedVariables false
set_option linter.unusedSimpArgs false
namespace Go.Proofs.Ytgifjphinkbcaaa
open Go Go.Ev
abbrev ts8 : List Nat := [0, 1, 2, 3, 4, 5, 6, 10]
abbrev rw0 (X : List AV) : Blk := .row 104 [X]
noncomputable def o2a : Oper := (ops2[2]?).getD default
noncomputable def o2b : Oper := (ops2[3]?).getD default
noncomputable def o7a : Oper := (ops7[4]?).getD default
noncomputable def o7b : Oper := (ops7[5]?).getD default
theorem o2a_at : ops2[2]? = some o2a := by kernel_rfl
theorem o2a_op : o2a.op = .call { callee := .value (.tmp 16), args := #[.tmp 17], argTypes := #[104] } := by kernel_rfl
theorem o2a_g : o2a.guard = none := by kernel_rfl
theorem o2a_d : o2a.dst = some 18 := by kernel_rfl
theorem o2b_at : ops2[3]? = some o2b := by kernel_rfl
theorem o2b_op : o2b.op = .assign (.tmp 18) := by kernel_rfl
theorem o2b_g : o2b.guard = none := by kernel_rfl
theorem o2b_d : o2b.dst = some 9 := by kernel_rfl
theorem o7a_at : ops7[4]? = some o7a := by kernel_rfl
theorem o7a_op : o7a.op = .call { callee := .value (.tmp 46), args := #[.tmp 48, .tmp 49], argTypes := #[3, 3] } := by kernel_rfl
theorem o7a_g : o7a.guard = none := by kernel_rfl
theorem o7a_d : o7a.dst = some 50 := by kernel_rfl
theorem o7b_at : ops7[5]? = some o7b := by kernel_rfl
theorem o7b_op : o7b.op = .unOp .not 4 (.tmp 50) := by kernel_rfl
theorem o7b_g : o7b.guard = none := by kernel_rfl
theorem o7b_d : o7b.dst = some 51 := by kernel_rfl
theorem q2_eq : q2 = .region 2 ops2 false := by kernel_rfl
theorem q7_eq : q7 = .region 7 ops7 false := by kernel_rfl
theorem sz2 : ops2.size = 4 := by kernel_rfl
theorem sz7 : ops7.size = 6 := by kernel_rfl
theorem body89 : Try.f89.body = some bd89 := by kernel_rfl
theorem res89 : Try.f89.results = #[.tmp 9] := by kernel_rfl
theorem lokP (c : Code) (h : (match c with | .region _ _ _ => true | .seq (.region _ _ _) (.region _ _ _) => true | _ => false) = true) : LOK Try.prog S0 (ro 89) (fun _ _ => none) 1 true c [] := by
  split at h
  · trivial
  · exact ⟨trivial, trivial⟩
  · cases h
variable (da db : Int) (cs : List (List AV)) (m0 m1 m2 m3 m4 m5 m6 m7 : Int) (j room w : Int) (l : Nat) (v6 v10 : AV) (X : List AV)
/-- The temporaries at a head. -/
noncomputable def vH (j room : Int) (v6 v10 : AV) : List AV := [.i .i64 j, .i .i64 room, rpR da db cs, rpY l, .p 0 0 0, rpM m0 m1 m2 m3 m4 m5 m6 m7, v6, v10]
noncomputable def fn89 (v6 : AV) : AV := .fn 89 [rpR da db cs, rpY l, .p 0 0 0, rpM m0 m1 m2 m3 m4 m5 m6 m7, v6]
noncomputable def gj (j : Int) : Bool := ctsAt (cts Try.prog 104) (0 + j.toNat * 1) (cts Try.prog 3)
theorem pe0 : piece q0 ts8 (st0 j room (rpR da db cs) (rpY l) (rpM m0 m1 m2 m3 m4 m5 m6 m7) v6 X) = some (.nrm, vH da db cs m0 m1 m2 m3 m4 m5 m6 m7 l j room v6 .u, rw0 X) := by kernel_rfl
theorem pe1 : piece q1 [0, 1, 2, 3, 4, 5, 6, 10, 15] (stH (vH da db cs m0 m1 m2 m3 m4 m5 m6 m7 l j room v6 .u) X) = some (.nrm, vH da db cs m0 m1 m2 m3 m4 m5 m6 m7 l j room v6 .u ++ [.b (j == (cs.length : Int))], rw0 X) := by kernel_rfl
theorem pe2 : pieceB ops2 2 [16, 17] (stH (vH da db cs m0 m1 m2 m3 m4 m5 m6 m7 l j room v6 .u) X) = some ([.yl l, .agg [.i .i64 (fI X 0), .i .i64 (fI X 1), .i .i64 (fI X 2), .i .i64 (fI X 3), .i .i64 (fI X 4), .i .i64 (fI X 5), .i .i64 (fI X 6), .i .i64 (fI X 7)]], rw0 X) := by kernel_rfl
theorem pe3 : piece q3 ts8 (stH (vH da db cs m0 m1 m2 m3 m4 m5 m6 m7 l j room v6 .u) X) = cond (inb j cs.length) (some (.nrm, vH da db cs m0 m1 m2 m3 m4 m5 m6 m7 l j room v6 (.i .i64 (IntKind.i64.wrap (fI (cs.getD j.toNat []) 0 + db))), rw0 X)) none := by kernel_rfl
theorem pe4 : piece q4 ts8 (stH (vH da db cs m0 m1 m2 m3 m4 m5 m6 m7 l j room v6 (.i .i64 w)) X) = cond (inb j 8) (cond (gj j && Nat.blt 0 1) (some (.nrm, vH da db cs m0 m1 m2 m3 m4 m5 m6 m7 l j room v6 (.i .i64 w), rw0 (setCs X (0 + j.toNat * 1) [.i .i64 0]))) none) none := by kernel_rfl
theorem pe5 : piece q5 [0, 1, 2, 3, 4, 5, 6, 10, 40] (stH (vH da db cs m0 m1 m2 m3 m4 m5 m6 m7 l j room v6 (.i .i64 w)) X) = cond (inb j 8) (cond (gj j && Nat.blt 0 1) (cond (inb j 8) (cond (ctsAt [CT.int IntKind.i64, CT.int IntKind.i64, CT.int IntKind.i64, CT.int IntKind.i64, CT.int IntKind.i64, CT.int IntKind.i64, CT.int IntKind.i64, CT.int IntKind.i64] (0 + j.toNat * 1) (cts Try.prog 3))
    (cond (decide (fI X (0 + j.toNat * 1) ≤ fI [AV.i IntKind.i64 m0, AV.i IntKind.i64 m1, AV.i IntKind.i64 m2, AV.i IntKind.i64 m3, AV.i IntKind.i64 m4, AV.i IntKind.i64 m5, AV.i IntKind.i64 m6, AV.i IntKind.i64 m7] (0 + j.toNat * 1)))
      (some (.nrm, vH da db cs m0 m1 m2 m3 m4 m5 m6 m7 l j room v6 (.i .i64 w) ++ [.b (decide (room ≥ 0))], rw0 X)) (some (.nrm, vH da db cs m0 m1 m2 m3 m4 m5 m6 m7 l j room v6 (.i .i64 w) ++ [.b false], rw0 X))) none) none) none) none := by kernel_rfl
theorem pe7 : pieceB ops7 4 [0, 1, 2, 3, 4, 5, 6, 10, 46, 48, 49] (stH (vH da db cs m0 m1 m2 m3 m4 m5 m6 m7 l j room (.rp [.oth] [fn89 da db cs m0 m1 m2 m3 m4 m5 m6 m7 l v6] 0) (.i .i64 w)) X) =
    some (vH da db cs m0 m1 m2 m3 m4 m5 m6 m7 l j room (.rp [.oth] [fn89 da db cs m0 m1 m2 m3 m4 m5 m6 m7 l v6] 0) (.i .i64 w) ++ [fn89 da db cs m0 m1 m2 m3 m4 m5 m6 m7 l v6, .i .i64 (IntKind.i64.wrap (j + 1)), .i .i64 room], rw0 X) := by kernel_rfl
theorem pe8 : piece q8 [9] (stH (vH da db cs m0 m1 m2 m3 m4 m5 m6 m7 l j room v6 (.i .i64 w)) X) = some (.nrm, [.b false], rw0 X) := by kernel_rfl
theorem pe9 : piece q9 ts8 (stH (vH da db cs m0 m1 m2 m3 m4 m5 m6 m7 l j room v6 (.i .i64 w)) X) = some (.nrm, vH da db cs m0 m1 m2 m3 m4 m5 m6 m7 l j (IntKind.i64.wrap (room - w)) v6 (.i .i64 w), rw0 X) := by kernel_rfl
theorem pe6 : piece q6 ts8 (stH (vH da db cs m0 m1 m2 m3 m4 m5 m6 m7 l j room v6 (.i .i64 w)) X) = cond (inb j 8) (cond (gj j && Nat.blt 0 1) (cond (inb j 8) (cond (gj j && Nat.blt 0 1) (some (.nrm, vH da db cs m0 m1 m2 m3 m4 m5 m6 m7 l j room v6 (.i .i64 w), rw0 (setCs X (0 + j.toNat * 1) [.i .i64 (IntKind.i64.wrap (fI X (0 + j.toNat * 1) + 1))]))) none) none) none) none := by kernel_rfl
theorem peA : piece q10 ts8 (stH (vH da db cs m0 m1 m2 m3 m4 m5 m6 m7 l j room v6 (.i .i64 w)) X) = cond (inb j 8) (cond (gj j && Nat.blt 0 1) (some (.nrm, vH da db cs m0 m1 m2 m3 m4 m5 m6 m7 l j room v6 (.i .i64 w), rw0 (setCs X (0 + j.toNat * 1) [.i .i64 0]))) none) none := by kernel_rfl
theorem peB : piece q11 [9] (stH (vH da db cs m0 m1 m2 m3 m4 m5 m6 m7 l j room v6 (.i .i64 w)) X) = some (.nrm, [.b true], rw0 X) := by kernel_rfl

theorem fr8 (h : free Try.prog 1 v6 = true) (h' : free Try.prog 1 v10 = true) : freeL Try.prog 1 (vH da db cs m0 m1 m2 m3 m4 m5 m6 m7 l j room v6 v10) = true := by
  have : freeL Try.prog 1 (vH da db cs m0 m1 m2 m3 m4 m5 m6 m7 l j room v6 v10) = (free Try.prog 1 v6 && (free Try.prog 1 v10 && true)) := by kernel_rfl
  rw [this, h, h']; rfl
theorem frB (X : List AV) : freeB Try.prog 1 (rw0 X) = true := by kernel_rfl
theorem gj_at {k : Nat} (h : k < 8) : inb ((k : Nat) : Int) 8 = true ∧ gj k = true ∧ ctsAt [CT.int IntKind.i64, CT.int IntKind.i64, CT.int IntKind.i64, CT.int IntKind.i64, CT.int IntKind.i64, CT.int IntKind.i64, CT.int IntKind.i64, CT.int IntKind.i64] (0 + (k : Int).toNat * 1) (cts Try.prog 3) = true := by
  rcases k with _ | _ | _ | _ | _ | _ | _ | _ | k
  all_goals first | (exfalso; omega) | (exact ⟨by kernel_rfl, by kernel_rfl, by kernel_rfl⟩)
end Go.Proofs.Ytgifjphinkbcaaa

set_option maxRecDepth 100000
set_option linter.unusedVariables false
set_option linter.unusedSimpArgs false
namespace Go.Proofs.Ytgifjphinkbcaaa
open Go Go.Ev Go.RowKit
/-- What an array of eight hands over. -/
def ag8 (X : List AV) : AV := .agg [.i .i64 (fI X 0), .i .i64 (fI X 1), .i .i64 (fI X 2), .i .i64 (fI X 3), .i .i64 (fI X 4), .i .i64 (fI X 5), .i .i64 (fI X 6), .i .i64 (fI X 7)]
def enc8 (X : List AV) : List AV := [ag8 X]
def wid (db : Int) (cs : List (List AV)) (j : Nat) : Int := IntKind.i64.wrap (fI (cs.getD j []) 0 + db)
/-- The patterns, one behind the other: 'false': from a place on; 'true': from a count at a place on. -/
inductive PT (db : Int) (cs : List (List AV)) (ms : List AV) : Bool → Nat → Int → List AV → List (List AV) → List AV → Prop
  | leaf {room : Int} {X : List AV} : PT db cs ms false cs.length room X [enc8 X] X
  | node {j : Nat} {room : Int} {X X' : List AV} {l : List (List AV)} : j < cs.length → j < 8 → PT db cs ms true j room (setCs X j [.i .i64 0]) l X' → PT db cs ms false j room X l (setCs X' j [.i .i64 0])
  | stop {j : Nat} {room : Int} {X : List AV} : (decide (fI X j ≤ fI ms j) && decide (room ≥ 0)) = false → PT db cs ms true j room X [] X
  | step {j : Nat} {room : Int} {X X1 X2 : List AV} {l1 l2 : List (List AV)} : fI X j ≤ fI ms j → 0 ≤ room → PT db cs ms false (j + 1) room X l1 X1 →
      PT db cs ms true j (IntKind.i64.wrap (room - wid db cs j)) (setCs X1 j [.i .i64 (IntKind.i64.wrap (fI X1 j + 1))]) l2 X2 → PT db cs ms true j room X (l1 ++ l2) X2

/-- Around the iterator. -/
structure Env (l : Nat) (X : Nat → Nat → Prop) (Y : Nat → Prop) (R : Nat → Option (Nat × Nat × Nat)) (pb : Nat) (xs : List (List AV)) (J : (Nat → Prop) → Nat → World → Prop) (Jx : (Nat → Prop) → World → Prop) : Prop where
  R0 : R 0 = some (pb, 8, 0)
  R1 : ∀ id, 1 ≤ id → R id = none
  YX : ∀ b o, Y b → X b o
  pX : ∀ o, ¬ X pb o
  hJ : ∀ Z i W W', J Z i W → BelowZ Z W W' → J (fun b => Z b ∨ (W.heap.size ≤ b ∧ b < W'.heap.size)) i W'
  yield : ∀ Z i x W m, J Z i W → xs[i]? = some x → YieldAt (FW none) m Try.prog l (encV x) W fun e W' => (e = .returned (.bool true) ∧ J Z (i + 1) W' ∧ KpOf Y W W') ∨ (e = .returned (.bool false) ∧ Jx Z W' ∧ KpOf Y W W')
/-- The world at a place. -/
structure At (l : Nat) (X : Nat → Nat → Prop) (R : Nat → Option (Nat × Nat × Nat)) (pb : Nat) (p : List AV) (W : World) : Prop where
  xl : ∀ b o, X b o → b < W.heap.size
  pl : pb < W.heap.size
  row : RowOK Try.prog (XR X R) R W 0 (rw0 p)

variable {da db : Int} {cs : List (List AV)} {m0 m1 m2 m3 m4 m5 m6 m7 : Int} {l : Nat} {X : Nat → Nat → Prop} {Y : Nat → Prop} {R : Nat → Option (Nat × Nat × Nat)} {pb : Nat} {xs : List (List AV)} {J : (Nat → Prop) → Nat → World → Prop} {Jx : (Nat → Prop) → World → Prop}
noncomputable def RP (da db : Int) (cs : List (List AV)) (m0 m1 m2 m3 m4 m5 m6 m7 : Int) (l : Nat) : Nat → AV
  | 0 => .u
  | d + 1 => .rp [.oth] [fn89 da db cs m0 m1 m2 m3 m4 m5 m6 m7 l (RP da db cs m0 m1 m2 m3 m4 m5 m6 m7 l d)] 0
theorem RP_free : ∀ d, free Try.prog 1 (RP da db cs m0 m1 m2 m3 m4 m5 m6 m7 l d) = true
  | 0 => rfl
  | d + 1 => by
    have : free Try.prog 1 (RP da db cs m0 m1 m2 m3 m4 m5 m6 m7 l (d + 1)) = (free Try.prog 1 (RP da db cs m0 m1 m2 m3 m4 m5 m6 m7 l d) && true && true) := by kernel_rfl
    rw [this, RP_free d]; rfl
/-- At a head. -/
structure Hd (da db : Int) (cs : List (List AV)) (m0 m1 m2 m3 m4 m5 m6 m7 : Int) (l : Nat) (X : Nat → Nat → Prop) (R : Nat → Option (Nat × Nat × Nat)) (pb : Nat) (j room : Int) (v6 v10 : AV) (p : List AV) (a : Act) (W : World) : Prop where
  at_ : At l X R pb p W
  tmp : ∀ k, k < 8 → VR Try.prog (XR X R) R W ((vH da db cs m0 m1 m2 m3 m4 m5 m6 m7 l j room v6 v10).getD k .u) (a.tmps.getD (ts8.getD k 0) undef)
  nt : a.tmps.size = 57
  df : a.defers = []
theorem Hd.sr {j room : Int} {v6 v10 : AV} {p : List AV} {a : Act} {W : World} (E : Env l X Y R pb xs J Jx) (h : Hd da db cs m0 m1 m2 m3 m4 m5 m6 m7 l X R pb j room v6 v10 p a W) :
    SR Try.prog ⟨W, rowsOf R, fun id => id < 1, W.heap.size, Nat.le_refl _⟩ (XR X R) (XR X R) R (stH (vH da db cs m0 m1 m2 m3 m4 m5 m6 m7 l j room v6 v10) p) a W := by
  refine mkSR E.R1 (fun id b s e => ?_) h.at_.xl (fun t => ?_) h.nt rfl (fun id hid => ?_) h.at_.row h.df
  · rcases Nat.eq_zero_or_pos id with e0 | e0
    · rw [e0, E.R0] at e; cases e; exact ⟨h.at_.pl, by simp⟩
    · rw [E.R1 id e0] at e; cases e
  · exact gt_zip (f := fun t => a.tmps.getD t undef) ts8 _ (fun k hk => h.tmp k hk) t
  · cases id with
    | zero => omega
    | succ id => rfl
theorem Hd.fresh (E : Env l X Y R pb xs J Jx) : Fresh R 1 := fun id hid => E.R1 id hid
/-- Behind a piece. -/
theorem At.left {p p' : List AV} {W W' : World} {st : St} {a a' : Act} {ts : List Nat} {vs : List AV} (h : At l X R pb p W) (k : LeftP Try.prog X R st a W ts vs (rw0 p') a' W') : At l X R pb p' W' :=
  ⟨fun b o hx => Nat.lt_of_lt_of_le (h.xl b o hx) k.below.size, Nat.lt_of_lt_of_le h.pl k.below.size, k.row⟩
theorem Hd.left {j room : Int} {v6 v10 : AV} {p p' : List AV} {W W' : World} {st : St} {a a' : Act} {ts : List Nat} {vs : List AV} (h : At l X R pb p W) (hts : ts.take 8 = ts8) (hvs : vs.take 8 = vH da db cs m0 m1 m2 m3 m4 m5 m6 m7 l j room v6 v10) (hnt : st.nt = 57) (hd : a.defers = [])
    (k : LeftP Try.prog X R st a W ts vs (rw0 p') a' W') : Hd da db cs m0 m1 m2 m3 m4 m5 m6 m7 l X R pb j room v6 v10 p' a' W' := by
  have hl : 8 ≤ ts.length := by have := congrArg List.length hts; simp at this; omega
  refine ⟨h.left k, fun i hi => ?_, k.nt.trans hnt, k.df.trans hd⟩
  have := k.tmp i (by omega)
  have e1 : vs.getD i .u = (vs.take 8).getD i .u := by simp [List.getD_eq_getElem?_getD, List.getElem?_take, hi]
  have e2 : ts.getD i 0 = (ts.take 8).getD i 0 := by simp [List.getD_eq_getElem?_getD, List.getElem?_take, hi]
  rw [e1, e2, hvs, hts] at this
  exact this
theorem belowZ {Z : Nat → Prop} (E : Env l X Y R pb xs J Jx) (hZ : Z pb) {W W' : World} (h : BelowY ⟨W, rowsOf R, fun id => id < 1, W.heap.size, Nat.le_refl _⟩ W') : BelowZ Z W W' :=
  ⟨h.os, h.tape, h.output, h.size, fun k hk hz => h.block k hk fun ⟨id, s, e⟩ => hz (by
    rcases Nat.eq_zero_or_pos id with e0 | e0
    · rw [e0, E.R0] at e; cases e; exact hZ
    · rw [E.R1 id e0] at e; cases e)⟩
/-- What is to be shown of a place. -/
def Done (l : Nat) (X : Nat → Nat → Prop) (R : Nat → Option (Nat × Nat × Nat)) (pb : Nat) (J : (Nat → Prop) → Nat → World → Prop) (Jx : (Nat → Prop) → World → Prop) (W : World) (n : Nat) (p' : List AV) (e : Ending) (W' : World) : Prop :=
  (e = .returned (.bool true) ∧ ∃ Z', Z' pb ∧ J Z' n W' ∧ At l X R pb p' W' ∧ GoodW X R W W') ∨ (e = .returned (.bool false) ∧ ∃ Z', Jx Z' W')
end Go.Proofs.Ytgifjphinkbcaaa

set_option maxRecDepth 100000
set_option linter.unusedVariables false
set_option linter.unusedSimpArgs false
namespace Go.Proofs.Ytgifjphinkbcaaa
open Go Go.Ev Go.RowKit
variable {da db : Int} {cs : List (List AV)} {m0 m1 m2 m3 m4 m5 m6 m7 : Int} {l : Nat} {X : Nat → Nat → Prop} {Y : Nat → Prop} {R : Nat → Option (Nat × Nat × Nat)} {pb : Nat} {xs : List (List AV)} {J : (Nat → Prop) → Nat → World → Prop} {Jx : (Nat → Prop) → World → Prop}

theorem freeL_app {nb : Nat} : ∀ {x y : List AV}, freeL Try.prog nb x = true → freeL Try.prog nb y = true → freeL Try.prog nb (x ++ y) = true
  | [], y, _, h => h
  | a :: x, y, h, h' => by
    simp only [freeL, Bool.and_eq_true, List.cons_append] at h ⊢
    exact ⟨h.1, freeL_app h.2 h'⟩
theorem stp {Z : Nat → Prop} {i : Nat} {st : St} {a a' : Act} {W W' : World} {ts : List Nat} {vs : List AV} {blk : Blk} (E : Env l X Y R pb xs J Jx) (hZ : Z pb) (hJ : J Z i W) (k : LeftP Try.prog X R st a W ts vs blk a' W') :
    ∃ Z', Z' pb ∧ J Z' i W' ∧ GoodW X R W W' := ⟨_, .inl hZ, E.hJ _ _ _ _ hJ (belowZ E hZ k.below), good_below k.below⟩
theorem put_get {a : Act} {d t : Nat} {v : Value} (h : d < a.tmps.size) : (a.put (some d) v).tmps.getD t undef = if t = d then v else a.tmps.getD t undef := by
  show (a.tmps.setIfInBounds d v).getD t undef = _
  by_cases e : t = d
  · subst e; simp [Array.getD_eq_getD_getElem?, h]
  · simp [Array.getD_eq_getD_getElem?, Array.getElem?_setIfInBounds, e, Ne.symm e]
theorem put_size {a : Act} {d : Nat} {v : Value} : (a.put (some d) v).tmps.size = a.tmps.size := by
  show (a.tmps.setIfInBounds d v).size = _
  simp
theorem fin89 {A : Ending → World → Prop} {a : Act} {W : World} {b : Bool} (hd : a.defers = []) (ht : a.tmps.getD 9 undef = .bool b) (hA : A (.returned (.bool b)) W) : bodyPost Try.prog Try.f89 A .ret a W := by
  refine ⟨hd, .bool b, ?_, hA⟩
  simp only [results, res89]
  simpa [Array.getD_eq_getD_getElem?] using ht
theorem pre89 (E : Env l X Y R pb xs J Jx) {j room : Int} {v6 : AV} {p : List AV} {W : World} {Z : Nat → Prop} {i : Nat} {av : Array Value} (hv6 : free Try.prog 1 v6 = true) (h : At l X R pb p W) (hs : av.size = 7)
    (hv : ∀ k, k < 7 → VR Try.prog (XR X R) R W (([.i .i64 j, .i .i64 room, rpR da db cs, rpY l, .p 0 0 0, rpM m0 m1 m2 m3 m4 m5 m6 m7, v6] : List AV).getD k .u) (av.getD k undef)) (hZ : Z pb) (hJ : J Z i W) {Q : Exit → Act → World → Prop}
    (hc : ∀ a' W' Z', Hd da db cs m0 m1 m2 m3 m4 m5 m6 m7 l X R pb j room v6 .u p a' W' → a'.eval (.tmp 15) = .bool (j == (cs.length : Int)) → Z' pb → J Z' i W' → GoodW X R W W' →
      (Code.cond (.tmp 15) (.seq q2 .ret) .skip).wpIn (FW none) 0 Try.prog (Exit.then (fun a w => (Code.seq q3 (.seq (.seq q4 (.block 0 (.loop qB))) (.seq q10 (.seq q11 .ret)))).wpIn (FW none) 0 Try.prog Q a w) Q) a' W') :
    bd89.wpIn (FW none) 0 Try.prog Q { tmps := av ++ Array.replicate (57 - av.size) undef, defers := [] } W := by
  rw [bd89_eq]
  have h0 : SR Try.prog ⟨W, rowsOf R, fun id => id < 1, W.heap.size, Nat.le_refl _⟩ (XR X R) (XR X R) R (st0 j room (rpR da db cs) (rpY l) (rpM m0 m1 m2 m3 m4 m5 m6 m7) v6 p) { tmps := av ++ Array.replicate (57 - av.size) undef, defers := [] } W :=
    init_SR (args := [.i .i64 j, .i .i64 room, rpR da db cs, rpY l, .p 0 0 0, rpM m0 m1 m2 m3 m4 m5 m6 m7, v6]) (rows := [rw0 p]) h.xl E.R1 (fun id b s e => by
      rcases Nat.eq_zero_or_pos id with e0 | e0
      · rw [e0, E.R0] at e; cases e; exact ⟨h.pl, by simp⟩
      · rw [E.R1 id e0] at e; cases e) (fun id id' b s s' e e' => by
      rcases Nat.eq_zero_or_pos id with e0 | e0
      · rcases Nat.eq_zero_or_pos id' with e1 | e1
        · rw [e0, e1]
        · rw [E.R1 id' e1] at e'; cases e'
      · rw [E.R1 id e0] at e; cases e) rfl (fun id hid => by
      have : id = 0 := by simp at hid; omega
      subst this
      exact h.row) hs (show 7 ≤ 57 by decide) hv
  refine wpIn_seq (piece_sound S0_ok mixed E.R0 h0 (fun id hid => E.R1 id hid) (Nat.le_refl 1) (lokP q0 (by kernel_rfl)) (by simp) (pe0 da db cs m0 m1 m2 m3 m4 m5 m6 m7 j room l v6 p) (fr8 _ _ _ _ _ _ _ _ _ _ _ _ _ _ _ _ hv6 rfl) (frB p) fun a1 W1 k1 => ?_)
  obtain ⟨Z1, z1, j1, g1⟩ := stp E hZ hJ k1
  have H1 : Hd da db cs m0 m1 m2 m3 m4 m5 m6 m7 l X R pb j room v6 .u p a1 W1 := Hd.left h rfl rfl rfl rfl k1
  refine wpIn_seq (wpIn_seq (piece_sound S0_ok mixed E.R0 (H1.sr E) (fun id hid => E.R1 id hid) (Nat.le_refl 1) (lokP q1 (by kernel_rfl)) (by simp) (pe1 da db cs m0 m1 m2 m3 m4 m5 m6 m7 j room l v6 p) (freeL_app (fr8 _ _ _ _ _ _ _ _ _ _ _ _ _ _ _ _ hv6 rfl) rfl) (frB p) fun a2 W2 k2 => ?_))
  obtain ⟨Z2, z2, j2, g2⟩ := stp E z1 j1 k2
  have H2 : Hd da db cs m0 m1 m2 m3 m4 m5 m6 m7 l X R pb j room v6 .u p a2 W2 := Hd.left H1.at_ rfl rfl rfl H1.df k2
  exact hc a2 W2 Z2 H2 (k2.tmp 8 (by decide)).bool_inv z2 j2 (g1.trans g2)

theorem plain8 {D : Nat → Nat → Prop} {W : World} {p : List AV} {v : Value} (h : VR Try.prog D R W (ag8 p) v) : plain (ag8 p) = true := by
  obtain ⟨cv, _, _, h⟩ := h.agg_inv
  have k : ∀ i, i < 8 → IntKind.i64.min ≤ fI p i ∧ fI p i ≤ IntKind.i64.max := by
    intro i hi
    have := h i hi
    rcases i with _ | _ | _ | _ | _ | _ | _ | _ | i
    all_goals first | (exfalso; omega) | exact VR.int_inv this |>.2
  have := k 0 (by decide); have := k 1 (by decide); have := k 2 (by decide); have := k 3 (by decide)
  have := k 4 (by decide); have := k 5 (by decide); have := k 6 (by decide); have := k 7 (by decide)
  simp only [ag8, plain, plainL, Bool.and_eq_true, decide_eq_true_eq, and_true]
  exact ⟨k 0 (by decide), k 1 (by decide), k 2 (by decide), k 3 (by decide), k 4 (by decide), k 5 (by decide), k 6 (by decide), k 7 (by decide)⟩
/-- A leaf. -/
theorem leaf89 (E : Env l X Y R pb xs J Jx) {room : Int} {v6 : AV} {p : List AV} {W : World} {Z : Nat → Prop} {i : Nat} {av : Array Value} (hv6 : free Try.prog 1 v6 = true) (h : At l X R pb p W) (hs : av.size = 7)
    (hv : ∀ k, k < 7 → VR Try.prog (XR X R) R W (([.i .i64 (cs.length : Nat), .i .i64 room, rpR da db cs, rpY l, .p 0 0 0, rpM m0 m1 m2 m3 m4 m5 m6 m7, v6] : List AV).getD k .u) (av.getD k undef)) (hZ : Z pb) (hJ : J Z i W)
    (hx : xs[i]? = some (enc8 p)) : Calls Try.prog 89 av W (Done l X R pb J Jx W (i + 1) p) := by
  refine calls_of_FW (ro := none) (n := 0) (callsIn_of_wp Try.func89 body89 trivial ?_)
  refine pre89 E hv6 h hs hv hZ hJ fun a2 W2 Z2 H2 ht z2 j2 g2 => ?_
  refine wpIn_cond (t := true) (ht.trans (by simp)) ?_
  simp only [if_true]
  rw [q2_eq]
  refine wpIn_seq (wpIn_region ?_)
  rw [sz2, show List.range 4 = List.range' 0 2 ++ [2, 3] by decide]
  refine pieceB_sound S0_ok E.R0 (H2.sr E) (fun id hid => E.R1 id hid) (Nat.le_refl 1) (by rw [sz2]; decide) (by simp) (pe2 da db cs m0 m1 m2 m3 m4 m5 m6 m7 _ room l v6 p) (by kernel_rfl) (frB p) fun a3 W3 k3 => ?_
  obtain ⟨Z3, z3, j3, g3⟩ := stp E z2 j2 k3
  have A3 := H2.at_.left k3
  have hy : a3.eval (.tmp 16) = .func (.yield l) #[] #[] := by
    have := k3.tmp 0 (by decide)
    simp only [List.getD_cons_zero] at this
    show a3.tmps.getD 16 undef = _
    generalize a3.tmps.getD 16 undef = q at this
    cases this; rfl
  have sz3 : a3.tmps.size = 57 := k3.nt.trans rfl
  have df3 : a3.defers = [] := k3.df.trans H2.df
  simp only [wpOpsIn, o2a_at, o2b_at]
  rw [if_pos (by simp [Region.wanted, o2a_g])]
  have hx8 : VR Try.prog (XR X R) R W3 (ag8 p) (a3.eval (.tmp 17)) := k3.tmp 1 (by decide)
  refine yield_op o2a_op rfl rfl hy hx8 (plain8 hx8) (fun m => E.yield Z3 i _ W3 m j3 hx) fun e4 W4 he => ?_
  have tl : ∀ (b : Bool) (Q : Exit → Act → World → Prop), (∀ a', a'.defers = [] → a'.tmps.getD 9 undef = .bool b → Q .normal a' W4) → (if Region.wanted o2b (yielded ops2 (a3.put o2a.dst (.bool b)).tmps) = true then o2b.wpIn (FW none) 0 Try.prog (a3.put o2a.dst (.bool b)) W4 (fun a w => Q .normal a w) Q
      else (∀ f, o2b.about Try.prog W4 (a3.put o2a.dst (.bool b)).eval = some f → (FW none).fn f) ∧ Q .normal ((a3.put o2a.dst (.bool b)).put o2b.dst undef) W4) := by
    intro b Q hQ
    rw [if_pos (by simp [Region.wanted, o2b_g])]
    have e18 : (a3.put o2a.dst (.bool b)).eval (.tmp 18) = .bool b := by
      rw [o2a_d]
      exact (put_get (by rw [sz3]; decide)).trans (if_pos rfl)
    refine wpIn_value (w' := W4) (v := .bool b) (fun c hc => by rw [o2b_op] at hc; cases hc) (by simp only [execOp, o2b_op, e18, Sem.run_pure]) (hQ _ ?_ ?_)
    · rw [put_defers, put_defers]; exact df3
    · rw [o2b_d, o2a_d]
      exact (put_get (by rw [put_size, sz3]; decide)).trans (if_pos rfl)
  rcases he with ⟨rfl, j4, kp⟩ | ⟨rfl, jx, kp⟩
  · refine ⟨_, rfl, tl true _ fun a' hd' ht' => ?_⟩
    refine wpIn_ret (fin89 hd' ht' (.inl ⟨rfl, Z3, z3, j4, ⟨fun b o hb => Nat.lt_of_lt_of_le (A3.xl b o hb) kp.size, Nat.lt_of_lt_of_le A3.pl kp.size, row_kp kp E.YX (fun b s o e => ?_) A3.row⟩, (g2.trans g3).trans (good_kp kp E.YX)⟩))
    rw [E.R0] at e; cases e; exact E.pX o
  · refine ⟨_, rfl, tl false _ fun a' hd' ht' => ?_⟩
    exact wpIn_ret (fin89 hd' ht' (.inr ⟨rfl, Z3, jx⟩))
end Go.Proofs.Ytgifjphinkbcaaa

set_option maxRecDepth 100000
set_option linter.unusedVariables false
set_option linter.unusedSimpArgs false
namespace Go.Proofs.Ytgifjphinkbcaaa
open Go Go.Ev Go.RowKit
noncomputable def o8 : Oper := (match q8 with | .region _ o _ => o | _ => #[])[0]?.getD default
theorem q8_eq : q8 = .region 8 #[o8] false := by kernel_rfl
theorem o8_op : o8.op = .assign (.const (.bool false)) := by kernel_rfl
theorem o8_g : o8.guard = none := by kernel_rfl
theorem o8_d : o8.dst = some 9 := by kernel_rfl
section
variable (da db : Int) (cs : List (List AV)) (m0 m1 m2 m3 m4 m5 m6 m7 : Int) (l : Nat) (X : Nat → Nat → Prop) (R : Nat → Option (Nat × Nat × Nat)) (pb : Nat) (xs : List (List AV)) (J : (Nat → Prop) → Nat → World → Prop) (Jx : (Nat → Prop) → World → Prop)
def RecOK (j : Nat) (room : Int) (p : List AV) (lst : List (List AV)) (p' : List AV) : Prop :=
  ∀ (W : World) (Z : Nat → Prop) (i : Nat) (av : Array Value), At l X R pb p W → av.size = 7 →
    (∀ k, k < 7 → VR Try.prog (XR X R) R W (([.i .i64 (j : Nat), .i .i64 room, rpR da db cs, rpY l, .p 0 0 0, rpM m0 m1 m2 m3 m4 m5 m6 m7, RP da db cs m0 m1 m2 m3 m4 m5 m6 m7 l (cs.length - j)] : List AV).getD k .u) (av.getD k undef)) → Z pb → J Z i W →
    (∀ q x, lst[q]? = some x → xs[i + q]? = some x) → Calls Try.prog 89 av W (Done l X R pb J Jx W (i + lst.length) p')
def LoopOK (j : Nat) (room : Int) (p : List AV) (lst : List (List AV)) (p' : List AV) : Prop :=
  ∀ (W : World) (Z : Nat → Prop) (i : Nat) (a : Act), j < cs.length → j < 8 → Hd da db cs m0 m1 m2 m3 m4 m5 m6 m7 l X R pb j room (RP da db cs m0 m1 m2 m3 m4 m5 m6 m7 l (cs.length - j)) (.i .i64 (wid db cs j)) p a W → Z pb → J Z i W →
    (∀ q x, lst[q]? = some x → xs[i + q]? = some x) → ∀ (Q : Exit → Act → World → Prop),
    (∀ a' W' Z' room', Hd da db cs m0 m1 m2 m3 m4 m5 m6 m7 l X R pb j room' (RP da db cs m0 m1 m2 m3 m4 m5 m6 m7 l (cs.length - j)) (.i .i64 (wid db cs j)) p' a' W' → Z' pb → J Z' (i + lst.length) W' → GoodW X R W W' → Q .normal a' W') →
    (∀ a' W' Z', a'.defers = [] → a'.tmps.getD 9 undef = .bool false → Jx Z' W' → Q .ret a' W') →
    ∀ (bf : Frame) (k : List Item) (fs : List Frame), bf.roundOf = (FW none).round → (FW none).fn bf.fn → (FW none).room (fs.length + 1 + 0) → ∃ e a' w', Exit.inBlock 0 Q e a' w' ∧ ArrivesIn (Machine.fenced Try.prog (FW none)) Try.prog (lone (bf.atR a (.code qB :: .inLoop qB :: k)) fs W) bf k fs e a' w'
end
variable {da db : Int} {cs : List (List AV)} {m0 m1 m2 m3 m4 m5 m6 m7 : Int} {l : Nat} {X : Nat → Nat → Prop} {Y : Nat → Prop} {R : Nat → Option (Nat × Nat × Nat)} {pb : Nat} {xs : List (List AV)} {J : (Nat → Prop) → Nat → World → Prop} {Jx : (Nat → Prop) → World → Prop}
theorem idx (j : Nat) : 0 + ((j : Nat) : Int).toNat * 1 = j := by simp
theorem node89 (E : Env l X Y R pb xs J Jx) {j : Nat} {room : Int} {p p' : List AV} {lst : List (List AV)} (hj : j < cs.length) (h8 : j < 8)
    (ih : LoopOK da db cs m0 m1 m2 m3 m4 m5 m6 m7 l X R pb xs J Jx j room (setCs p j [.i .i64 0]) lst p') : RecOK da db cs m0 m1 m2 m3 m4 m5 m6 m7 l X R pb xs J Jx j room p lst (setCs p' j [.i .i64 0]) := by
  intro W Z i av h hs hv hZ hJ hx
  obtain ⟨g1, g2, g3⟩ := gj_at h8
  have gl : inb ((j : Nat) : Int) cs.length = true := by simp [inb, hj]
  have hv6 := RP_free (da := da) (db := db) (cs := cs) (m0 := m0) (m1 := m1) (m2 := m2) (m3 := m3) (m4 := m4) (m5 := m5) (m6 := m6) (m7 := m7) (l := l) (cs.length - j)
  refine calls_of_FW (ro := none) (n := 0) (callsIn_of_wp Try.func89 body89 trivial ?_)
  refine pre89 E hv6 h hs hv hZ hJ fun a2 W2 Z2 H2 ht z2 j2 k2 => ?_
  refine wpIn_cond (t := false) (ht.trans (by congr 1; simp; omega)) ?_
  refine wpIn_skip ?_
  show (Code.seq q3 _).wpIn _ _ _ _ _ _
  have E3 := pe3 da db cs m0 m1 m2 m3 m4 m5 m6 m7 j room l (RP da db cs m0 m1 m2 m3 m4 m5 m6 m7 l (cs.length - j)) p
  rw [gl, cond_true] at E3
  refine wpIn_seq (piece_sound S0_ok mixed E.R0 (H2.sr E) (fun id hid => E.R1 id hid) (Nat.le_refl 1) (lokP q3 (by kernel_rfl)) (by simp) E3 (fr8 _ _ _ _ _ _ _ _ _ _ _ _ _ _ _ _ hv6 rfl) (frB p) fun a3 W3 k3 => ?_)
  obtain ⟨Z3, z3, j3, q3'⟩ := stp E z2 j2 k3
  have H3 : Hd da db cs m0 m1 m2 m3 m4 m5 m6 m7 l X R pb j room (RP da db cs m0 m1 m2 m3 m4 m5 m6 m7 l (cs.length - j)) (.i .i64 (wid db cs j)) p a3 W3 := Hd.left H2.at_ rfl rfl rfl H2.df k3
  have E4 := pe4 da db cs m0 m1 m2 m3 m4 m5 m6 m7 j room (wid db cs j) l (RP da db cs m0 m1 m2 m3 m4 m5 m6 m7 l (cs.length - j)) p
  rw [g1, g2, idx] at E4
  refine wpIn_seq (wpIn_seq (piece_sound S0_ok mixed E.R0 (H3.sr E) (fun id hid => E.R1 id hid) (Nat.le_refl 1) (lokP q4 (by kernel_rfl)) (by simp) E4 (fr8 _ _ _ _ _ _ _ _ _ _ _ _ _ _ _ _ hv6 rfl) (frB _) fun a4 W4 k4 => ?_))
  obtain ⟨Z4, z4, j4, q4'⟩ := stp E z3 j3 k4
  have H4 : Hd da db cs m0 m1 m2 m3 m4 m5 m6 m7 l X R pb j room (RP da db cs m0 m1 m2 m3 m4 m5 m6 m7 l (cs.length - j)) (.i .i64 (wid db cs j)) (setCs p j [.i .i64 0]) a4 W4 := Hd.left H3.at_ rfl rfl rfl H3.df k4
  refine wpIn_block (loop_of ?_)
  refine ih W4 Z4 i a4 hj h8 H4 z4 j4 hx _ (fun a5 W5 Z5 room' H5 z5 j5 q5' => ?_) (fun a5 W5 Z5 d5 t5 jx => ?_)
  · show (Code.seq q10 (.seq q11 .ret)).wpIn _ _ _ _ _ _
    have EA := peA da db cs m0 m1 m2 m3 m4 m5 m6 m7 j room' (wid db cs j) l (RP da db cs m0 m1 m2 m3 m4 m5 m6 m7 l (cs.length - j)) p'
    rw [g1, g2, idx] at EA
    refine wpIn_seq (piece_sound S0_ok mixed E.R0 (H5.sr E) (fun id hid => E.R1 id hid) (Nat.le_refl 1) (lokP q10 (by kernel_rfl)) (by simp) EA (fr8 _ _ _ _ _ _ _ _ _ _ _ _ _ _ _ _ hv6 rfl) (frB _) fun a6 W6 k6 => ?_)
    obtain ⟨Z6, z6, j6, q6'⟩ := stp E z5 j5 k6
    have H6 : Hd da db cs m0 m1 m2 m3 m4 m5 m6 m7 l X R pb j room' (RP da db cs m0 m1 m2 m3 m4 m5 m6 m7 l (cs.length - j)) (.i .i64 (wid db cs j)) (setCs p' j [.i .i64 0]) a6 W6 := Hd.left H5.at_ rfl rfl rfl H5.df k6
    refine wpIn_seq (piece_sound S0_ok mixed E.R0 (H6.sr E) (fun id hid => E.R1 id hid) (Nat.le_refl 1) (lokP q11 (by kernel_rfl)) (by simp) (peB da db cs m0 m1 m2 m3 m4 m5 m6 m7 j room' (wid db cs j) l _ _) rfl (frB _) fun a7 W7 k7 => ?_)
    obtain ⟨Z7, z7, j7, q7'⟩ := stp E z6 j6 k7
    exact wpIn_ret (fin89 (k7.df.trans H6.df) (k7.tmp 0 (by decide)).bool_inv (.inl ⟨rfl, Z7, z7, j7, H6.at_.left k7, k2.trans (q3'.trans (q4'.trans (q5'.trans (q6'.trans q7'))))⟩))
  · exact fin89 d5 t5 (.inr ⟨rfl, Z5, jx⟩)
theorem stop89 (E : Env l X Y R pb xs J Jx) {j : Nat} {room : Int} {p : List AV} (hst : (decide (fI p j ≤ fI [AV.i IntKind.i64 m0, AV.i IntKind.i64 m1, AV.i IntKind.i64 m2, AV.i IntKind.i64 m3, AV.i IntKind.i64 m4, AV.i IntKind.i64 m5, AV.i IntKind.i64 m6, AV.i IntKind.i64 m7] j) && decide (room ≥ 0)) = false) :
    LoopOK da db cs m0 m1 m2 m3 m4 m5 m6 m7 l X R pb xs J Jx j room p [] p := by
  intro W Z i a hj h8 H hZ hJ hx Q h1 h2
  obtain ⟨g1, g2, g3⟩ := gj_at h8
  have hv6 := RP_free (da := da) (db := db) (cs := cs) (m0 := m0) (m1 := m1) (m2 := m2) (m3 := m3) (m4 := m4) (m5 := m5) (m6 := m6) (m7 := m7) (l := l) (cs.length - j)
  have E5 := pe5 da db cs m0 m1 m2 m3 m4 m5 m6 m7 j room (wid db cs j) l (RP da db cs m0 m1 m2 m3 m4 m5 m6 m7 l (cs.length - j)) p
  rw [g1, g2, g3, idx] at E5
  have E5' : piece q5 [0, 1, 2, 3, 4, 5, 6, 10, 40] (stH (vH da db cs m0 m1 m2 m3 m4 m5 m6 m7 l j room (RP da db cs m0 m1 m2 m3 m4 m5 m6 m7 l (cs.length - j)) (.i .i64 (wid db cs j))) p) = some (.nrm, vH da db cs m0 m1 m2 m3 m4 m5 m6 m7 l j room (RP da db cs m0 m1 m2 m3 m4 m5 m6 m7 l (cs.length - j)) (.i .i64 (wid db cs j)) ++ [.b false], rw0 p) := by
    rw [E5]
    cases hd : decide (fI p j ≤ fI [AV.i IntKind.i64 m0, AV.i IntKind.i64 m1, AV.i IntKind.i64 m2, AV.i IntKind.i64 m3, AV.i IntKind.i64 m4, AV.i IntKind.i64 m5, AV.i IntKind.i64 m6, AV.i IntKind.i64 m7] j) with
    | false => rfl
    | true =>
      rw [hd, Bool.true_and] at hst
      simp only [cond_true, hst]
      rfl
  refine of_loop ?_
  have hq := qB_eq
  generalize hB : qB = B at hq ⊢
  rw [hq]
  refine wpIn_seq (wpIn_seq (piece_sound S0_ok mixed E.R0 (H.sr E) (fun id hid => E.R1 id hid) (Nat.le_refl 1) (lokP q5 (by kernel_rfl)) (by simp) E5' (freeL_app (fr8 _ _ _ _ _ _ _ _ _ _ _ _ _ _ _ _ hv6 rfl) rfl) (frB _) fun a1 W1 k1 => ?_))
  obtain ⟨Z1, z1, j1, q1'⟩ := stp E hZ hJ k1
  have H1 : Hd da db cs m0 m1 m2 m3 m4 m5 m6 m7 l X R pb j room (RP da db cs m0 m1 m2 m3 m4 m5 m6 m7 l (cs.length - j)) (.i .i64 (wid db cs j)) p a1 W1 := Hd.left H.at_ rfl rfl rfl H.df k1
  refine wpIn_cond (t := false) (k1.tmp 8 (by decide)).bool_inv ?_
  refine wpIn_exit ?_
  show Exit.inBlock 0 Q (.exit 0) a1 W1
  simp only [Exit.inBlock, if_true]
  exact h1 a1 W1 Z1 room H1 z1 j1 q1'
end Go.Proofs.Ytgifjphinkbcaaa

set_option maxRecDepth 100000
set_option linter.unusedVariables false
set_option linter.unusedSimpArgs false
namespace Go.Proofs.Ytgifjphinkbcaaa
open Go Go.Ev Go.RowKit
variable {da db : Int} {cs : List (List AV)} {m0 m1 m2 m3 m4 m5 m6 m7 : Int} {l : Nat} {X : Nat → Nat → Prop} {Y : Nat → Prop} {R : Nat → Option (Nat × Nat × Nat)} {pb : Nat} {xs : List (List AV)} {J : (Nat → Prop) → Nat → World → Prop} {Jx : (Nat → Prop) → World → Prop}
theorem wrap_id {x : Int} (h0 : -9223372036854775808 ≤ x) (h1 : x ≤ 9223372036854775807) : IntKind.i64.wrap x = x := by
  simp only [IntKind.wrap, IntKind.signed, IntKind.bits]
  simp
  omega
theorem app2_0 {x y : Value} {cv : Array Value} : (#[x, y] ++ cv).getD 0 undef = x := by simp [Array.getD_eq_getD_getElem?, Array.getElem?_append]
theorem app2_1 {x y : Value} {cv : Array Value} : (#[x, y] ++ cv).getD 1 undef = y := by simp [Array.getD_eq_getD_getElem?, Array.getElem?_append]
theorem app2_2 {x y : Value} {cv : Array Value} {k : Nat} : (#[x, y] ++ cv).getD (k + 2) undef = cv.getD k undef := by
  have : ¬ (k + 2 < 2) := by omega
  simp [Array.getD_eq_getD_getElem?, Array.getElem?_append, this]
theorem tab89 : ∃ fn, Try.prog.funcs[89]? = some fn ∧ (fn.name == "runtime.NumGoroutine") = false ∧ fn.body.isSome = true := ⟨Try.f89, Try.func89, names 89 _ Try.func89, by rw [body89]; rfl⟩
theorem step89 (E : Env l X Y R pb xs J Jx) {j : Nat} {room : Int} {p p1 p2 : List AV} {l1 l2 : List (List AV)} (hle : fI p j ≤ fI [AV.i IntKind.i64 m0, AV.i IntKind.i64 m1, AV.i IntKind.i64 m2, AV.i IntKind.i64 m3, AV.i IntKind.i64 m4, AV.i IntKind.i64 m5, AV.i IntKind.i64 m6, AV.i IntKind.i64 m7] j) (hr : 0 ≤ room)
    (ih1 : RecOK da db cs m0 m1 m2 m3 m4 m5 m6 m7 l X R pb xs J Jx (j + 1) room p l1 p1)
    (ih2 : LoopOK da db cs m0 m1 m2 m3 m4 m5 m6 m7 l X R pb xs J Jx j (IntKind.i64.wrap (room - wid db cs j)) (setCs p1 j [.i .i64 (IntKind.i64.wrap (fI p1 j + 1))]) l2 p2) :
    LoopOK da db cs m0 m1 m2 m3 m4 m5 m6 m7 l X R pb xs J Jx j room p (l1 ++ l2) p2 := by
  intro W Z i a hj h8 H hZ hJ hx Q h1 h2
  obtain ⟨g1, g2, g3⟩ := gj_at h8
  obtain ⟨d, hd⟩ : ∃ d, cs.length - j = d + 1 := ⟨cs.length - (j + 1), by omega⟩
  have hd' : cs.length - (j + 1) = d := by omega
  have hv6 : ∀ d, free Try.prog 1 (RP da db cs m0 m1 m2 m3 m4 m5 m6 m7 l d) = true := RP_free
  rw [hd] at H h1
  have hRP : RP da db cs m0 m1 m2 m3 m4 m5 m6 m7 l (d + 1) = .rp [.oth] [fn89 da db cs m0 m1 m2 m3 m4 m5 m6 m7 l (RP da db cs m0 m1 m2 m3 m4 m5 m6 m7 l d)] 0 := rfl
  have E5 := pe5 da db cs m0 m1 m2 m3 m4 m5 m6 m7 j room (wid db cs j) l (RP da db cs m0 m1 m2 m3 m4 m5 m6 m7 l (d + 1)) p
  rw [g1, g2, g3, idx, decide_eq_true hle, show decide (room ≥ 0) = true from decide_eq_true hr] at E5
  refine of_loop ?_
  have hq := qB_eq
  generalize hB : Code.loop qB = B0
  generalize hB : qB = B at hq ⊢
  rw [hq]
  refine wpIn_seq (wpIn_seq (piece_sound S0_ok mixed E.R0 (H.sr E) (fun id hid => E.R1 id hid) (Nat.le_refl 1) (lokP q5 (by kernel_rfl)) (by simp) E5 (freeL_app (fr8 _ _ _ _ _ _ _ _ _ _ _ _ _ _ _ _ (hv6 _) rfl) rfl) (frB _) fun a1 W1 k1 => ?_))
  obtain ⟨Z1, z1, j1, q1'⟩ := stp E hZ hJ k1
  have H1 : Hd da db cs m0 m1 m2 m3 m4 m5 m6 m7 l X R pb j room (RP da db cs m0 m1 m2 m3 m4 m5 m6 m7 l (d + 1)) (.i .i64 (wid db cs j)) p a1 W1 := Hd.left H.at_ rfl rfl rfl H.df k1
  refine wpIn_cond (t := true) (k1.tmp 8 (by decide)).bool_inv ?_
  refine wpIn_skip ?_
  show (Code.seq (.block 1 (.seq (.seq q7 (.cond (.tmp 51) (.seq q8 .ret) .skip)) q9)) q6).wpIn _ _ _ _ _ _
  refine wpIn_seq (wpIn_block (wpIn_seq (wpIn_seq ?_)))
  rw [q7_eq]
  refine wpIn_region ?_
  rw [sz7, show List.range 6 = List.range' 0 4 ++ [4, 5] by decide]
  have H1' := H1
  rw [hRP] at H1'
  refine pieceB_sound S0_ok E.R0 (H1'.sr E) (fun id hid => E.R1 id hid) (Nat.le_refl 1) (by rw [sz7]; decide) (by simp) (pe7 da db cs m0 m1 m2 m3 m4 m5 m6 m7 j room (wid db cs j) l (RP da db cs m0 m1 m2 m3 m4 m5 m6 m7 l d) p) (freeL_app (fr8 _ _ _ _ _ _ _ _ _ _ _ _ _ _ _ _ (hv6 (d + 1)) rfl) ?_) (frB p) fun a2 W2 k2 => ?_
  · have : freeL Try.prog 1 [fn89 da db cs m0 m1 m2 m3 m4 m5 m6 m7 l (RP da db cs m0 m1 m2 m3 m4 m5 m6 m7 l d), .i .i64 (IntKind.i64.wrap ((j : Int) + 1)), .i .i64 room] = ((free Try.prog 1 (RP da db cs m0 m1 m2 m3 m4 m5 m6 m7 l d) && true) && true) := by kernel_rfl
    rw [this, hv6 d]; rfl
  obtain ⟨Z2, z2, j2, q2'⟩ := stp E z1 j1 k2
  have H2 : Hd da db cs m0 m1 m2 m3 m4 m5 m6 m7 l X R pb j room (RP da db cs m0 m1 m2 m3 m4 m5 m6 m7 l (d + 1)) (.i .i64 (wid db cs j)) p a2 W2 := Hd.left H1.at_ rfl rfl rfl H1.df k2
  have t46 := k2.tmp 8 (by decide)
  have t48 := k2.tmp 9 (by decide)
  have t49 := k2.tmp 10 (by decide)
  change VR Try.prog (XR X R) R W2 (fn89 da db cs m0 m1 m2 m3 m4 m5 m6 m7 l (RP da db cs m0 m1 m2 m3 m4 m5 m6 m7 l d)) (a2.tmps.getD 46 undef) at t46
  change VR Try.prog (XR X R) R W2 (.i .i64 (IntKind.i64.wrap ((j : Int) + 1))) (a2.tmps.getD 48 undef) at t48
  change VR Try.prog (XR X R) R W2 (.i .i64 room) (a2.tmps.getD 49 undef) at t49
  rw [show IntKind.i64.wrap ((j : Int) + 1) = ((j + 1 : Nat) : Int) from (wrap_id (by omega) (by omega)).trans (by omega)] at t48
  have hf : ∃ cv, a2.eval (.tmp 46) = .func (.func 89) #[] cv ∧ cv.size = 5 ∧ ∀ k, k < 5 → VR Try.prog (XR X R) R W2 (([rpR da db cs, rpY l, .p 0 0 0, rpM m0 m1 m2 m3 m4 m5 m6 m7, RP da db cs m0 m1 m2 m3 m4 m5 m6 m7 l d] : List AV).getD k .u) (cv.getD k undef) := by
    show ∃ cv, a2.tmps.getD 46 undef = _ ∧ _
    generalize a2.tmps.getD 46 undef = q at t46
    unfold fn89 at t46
    cases t46 with
    | fn c1 c2 => exact ⟨_, rfl, c1, c2⟩
  obtain ⟨cv, hy, c1, c2⟩ := hf
  have sz2' : a2.tmps.size = 57 := k2.nt.trans rfl
  simp only [wpOpsIn, o7a_at, o7b_at]
  rw [if_pos (by simp [Region.wanted, o7a_g])]
  obtain ⟨fn, f1, f2, f3⟩ := tab89
  refine enter_op o7a_op rfl hy f1 f2 f3 (ih1 W2 Z2 i _ H2.at_ (by simp [c1]) (fun k hk => ?_) z2 j2 (fun q x hq => hx q x (by
    have hlt := (List.getElem?_eq_some_iff.1 hq).1
    rw [List.getElem?_append_left hlt]; exact hq))) fun e3 W3 he => ?_
  · rw [hd']
    have em : Array.map a2.eval #[Operand.tmp 48, Operand.tmp 49] = #[a2.tmps.getD 48 undef, a2.tmps.getD 49 undef] := by simp [Act.eval]
    dsimp only
    rw [em]
    rcases k with _ | _ | k
    · rw [app2_0]; exact t48
    · rw [show 0 + 1 = 1 from rfl, app2_1]; exact t49
    · rw [show k + 1 + 1 = k + 2 from rfl, app2_2]; exact c2 k (by omega)
  -- the result, and its opposite
  have e50 : ∀ b : Bool, (a2.put o7a.dst (.bool b)).eval (.tmp 50) = .bool b := fun b => by
    rw [o7a_d]
    exact (put_get (by rw [sz2']; decide)).trans (if_pos rfl)
  have e51 : ∀ b : Bool, ((a2.put o7a.dst (.bool b)).put o7b.dst (.bool (!b))).eval (.tmp 51) = .bool (!b) := fun b => by
    rw [o7a_d, o7b_d]
    exact (put_get (by rw [put_size, sz2']; decide)).trans (if_pos rfl)
  have tl : ∀ (b : Bool) (nx : Act → World → Prop) (Q : Exit → Act → World → Prop), nx ((a2.put o7a.dst (.bool b)).put o7b.dst (.bool (!b))) W3 → (if Region.wanted o7b (yielded ops7 (a2.put o7a.dst (.bool b)).tmps) = true then o7b.wpIn (FW none) 0 Try.prog (a2.put o7a.dst (.bool b)) W3 nx Q
      else (∀ f, o7b.about Try.prog W3 (a2.put o7a.dst (.bool b)).eval = some f → (FW none).fn f) ∧ nx ((a2.put o7a.dst (.bool b)).put o7b.dst undef) W3) := by
    intro b nx Q hQ
    rw [if_pos (by simp [Region.wanted, o7b_g])]
    refine wpIn_value (w' := W3) (v := .bool (!b)) (fun c hc => by rw [o7b_op] at hc; cases hc) ?_ hQ
    simp only [execOp, o7b_op, e50 b]
    simp [Op.unary]
  have dfs : ∀ b : Bool, ((a2.put o7a.dst (.bool b)).put o7b.dst (.bool (!b))).defers = [] := fun b => by rw [put_defers, put_defers]; exact H2.df
  rcases he with ⟨rfl, Z3, z3, j3, A3, q3'⟩ | ⟨rfl, Z3, jx⟩
  · refine ⟨_, rfl, tl true _ _ ?_⟩
    show (Code.cond (.tmp 51) (.seq q8 .ret) .skip).wpIn (FW none) 0 Try.prog _ _ W3
    refine wpIn_cond (t := false) (e51 true) ?_
    refine wpIn_skip ?_
    show q9.wpIn (FW none) 0 Try.prog _ _ W3
    have H3 : Hd da db cs m0 m1 m2 m3 m4 m5 m6 m7 l X R pb j room (RP da db cs m0 m1 m2 m3 m4 m5 m6 m7 l (d + 1)) (.i .i64 (wid db cs j)) p1 ((a2.put o7a.dst (.bool true)).put o7b.dst (.bool (!true))) W3 := by
      refine ⟨A3, fun k hk => ?_, ?_, dfs true⟩
      · rw [o7a_d, o7b_d, put_get (by rw [put_size, sz2']; decide), put_get (by rw [sz2']; decide)]
        rw [if_neg (by rcases k with _ | _ | _ | _ | _ | _ | _ | _ | k <;> first | (exfalso; omega) | decide), if_neg (by rcases k with _ | _ | _ | _ | _ | _ | _ | _ | k <;> first | (exfalso; omega) | decide)]
        exact q3'.VR (H2.tmp k hk)
      · rw [o7a_d, o7b_d, put_size, put_size]; exact sz2'
    refine piece_sound S0_ok mixed E.R0 (H3.sr E) (fun id hid => E.R1 id hid) (Nat.le_refl 1) (lokP q9 (by kernel_rfl)) (by simp) (pe9 da db cs m0 m1 m2 m3 m4 m5 m6 m7 j room (wid db cs j) l _ p1) (fr8 _ _ _ _ _ _ _ _ _ _ _ _ _ _ _ _ (hv6 _) rfl) (frB _) fun a4 W4 k4 => ?_
    obtain ⟨Z4, z4, j4, q4'⟩ := stp E z3 j3 k4
    have H4 : Hd da db cs m0 m1 m2 m3 m4 m5 m6 m7 l X R pb j (IntKind.i64.wrap (room - wid db cs j)) (RP da db cs m0 m1 m2 m3 m4 m5 m6 m7 l (d + 1)) (.i .i64 (wid db cs j)) p1 a4 W4 := Hd.left H3.at_ rfl rfl rfl H3.df k4
    show q6.wpIn (FW none) 0 Try.prog _ a4 W4
    have E6 := pe6 da db cs m0 m1 m2 m3 m4 m5 m6 m7 j (IntKind.i64.wrap (room - wid db cs j)) (wid db cs j) l (RP da db cs m0 m1 m2 m3 m4 m5 m6 m7 l (d + 1)) p1
    rw [g1, g2, idx] at E6
    refine piece_sound S0_ok mixed E.R0 (H4.sr E) (fun id hid => E.R1 id hid) (Nat.le_refl 1) (lokP q6 (by kernel_rfl)) (by simp) E6 (fr8 _ _ _ _ _ _ _ _ _ _ _ _ _ _ _ _ (hv6 _) rfl) (frB _) fun a5 W5 k5 => ?_
    obtain ⟨Z5, z5, j5, q5'⟩ := stp E z4 j4 k5
    have H5 : Hd da db cs m0 m1 m2 m3 m4 m5 m6 m7 l X R pb j (IntKind.i64.wrap (room - wid db cs j)) (RP da db cs m0 m1 m2 m3 m4 m5 m6 m7 l (d + 1)) (.i .i64 (wid db cs j)) (setCs p1 j [.i .i64 (IntKind.i64.wrap (fI p1 j + 1))]) a5 W5 := Hd.left H4.at_ rfl rfl rfl H4.df k5
    subst hB
    have hgood := q1'.trans (q2'.trans (q3'.trans (q4'.trans q5')))
    refine ih2 W5 Z5 (i + l1.length) a5 hj h8 (by rw [hd]; exact H5) z5 j5 (fun q x hq => ?_) Q (fun a6 W6 Z6 room' H6 z6 j6 q6' => ?_) h2
    · have := hx (l1.length + q) x (by rw [List.getElem?_append_right (by omega), Nat.add_sub_cancel_left]; exact hq)
      rw [Nat.add_assoc]; exact this
    · rw [hd] at H6
      refine h1 a6 W6 Z6 room' H6 z6 ?_ (hgood.trans q6')
      rw [List.length_append, ← Nat.add_assoc]; exact j6
  · refine ⟨_, rfl, tl false _ _ ?_⟩
    show (Code.cond (.tmp 51) (.seq q8 .ret) .skip).wpIn (FW none) 0 Try.prog _ _ W3
    refine wpIn_cond (t := true) (e51 false) ?_
    simp only [if_true]
    rw [q8_eq]
    refine wpIn_seq (wpIn_region ?_)
    show wpOpsIn (FW none) 0 Try.prog #[o8] _ [0] _ W3
    simp only [wpOpsIn, List.getElem?_toArray, List.getElem?_cons_zero]
    rw [if_pos (by simp [Region.wanted, o8_g])]
    refine wpIn_value (w' := W3) (v := .bool false) (fun c hc => by rw [o8_op] at hc; cases hc) (by simp only [execOp, o8_op, Sem.run_pure]; rfl) ?_
    refine wpIn_ret ?_
    show Q .ret _ W3
    refine h2 _ W3 Z3 ?_ ?_ jx
    · rw [put_defers]; exact dfs false
    · rw [o8_d]
      exact (put_get (by rw [o7b_d, o7a_d, put_size, put_size, sz2']; decide)).trans (if_pos rfl)
def Goal89 (da db : Int) (cs : List (List AV)) (m0 m1 m2 m3 m4 m5 m6 m7 : Int) (l : Nat) (X : Nat → Nat → Prop) (R : Nat → Option (Nat × Nat × Nat)) (pb : Nat) (xs : List (List AV)) (J : (Nat → Prop) → Nat → World → Prop) (Jx : (Nat → Prop) → World → Prop) : Bool → Nat → Int → List AV → List (List AV) → List AV → Prop
  | false => RecOK da db cs m0 m1 m2 m3 m4 m5 m6 m7 l X R pb xs J Jx
  | true => LoopOK da db cs m0 m1 m2 m3 m4 m5 m6 m7 l X R pb xs J Jx
theorem rec89 (E : Env l X Y R pb xs J Jx) {b : Bool} {j : Nat} {room : Int} {p p' : List AV} {lst : List (List AV)} (h : PT db cs [AV.i IntKind.i64 m0, AV.i IntKind.i64 m1, AV.i IntKind.i64 m2, AV.i IntKind.i64 m3, AV.i IntKind.i64 m4, AV.i IntKind.i64 m5, AV.i IntKind.i64 m6, AV.i IntKind.i64 m7] b j room p lst p') :
    Goal89 da db cs m0 m1 m2 m3 m4 m5 m6 m7 l X R pb xs J Jx b j room p lst p' := by
  induction h with
  | leaf => 
    intro W Z i av h hs hv hZ hJ hx
    exact leaf89 E (RP_free _) h hs hv hZ hJ (by simpa using hx 0 _ rfl)
  | node hj h8 _ ih => exact node89 E hj h8 ih
  | stop h => exact stop89 E h
  | step h1 h2 _ _ ih1 ih2 => exact step89 E h1 h2 ih1 ih2
end Go.Proofs.Ytgifjphinkbcaaa

set_option maxRecDepth 100000
set_option linter.unusedVariables false
set_option linter.unusedSimpArgs false
namespace Go.Proofs.Ytgifjphinkbcaaa
open Go Go.Ev Go.RowKit
variable {da db : Int} {cs : List (List AV)} {m0 m1 m2 m3 m4 m5 m6 m7 : Int} {l : Nat} {X : Nat → Nat → Prop} {Y : Nat → Prop} {R : Nat → Option (Nat × Nat × Nat)} {pb : Nat} {xs : List (List AV)} {J : (Nat → Prop) → Nat → World → Prop} {Jx : (Nat → Prop) → World → Prop}
/-! ### Values in range -/
def rng (X : List AV) : Prop := ∀ k, IntKind.i64.min ≤ fI X k ∧ fI X k ≤ IntKind.i64.max
theorem wrap_rng (x : Int) : IntKind.i64.min ≤ IntKind.i64.wrap x ∧ IntKind.i64.wrap x ≤ IntKind.i64.max := by
  simp only [IntKind.wrap, IntKind.signed, IntKind.bits, IntKind.min, IntKind.max]
  simp
  omega
theorem rng_set {X : List AV} (h : rng X) (j : Nat) {v : Int} (hv : IntKind.i64.min ≤ v ∧ v ≤ IntKind.i64.max) : rng (setCs X j [.i .i64 v]) := by
  intro k
  have e : fI (setCs X j [.i .i64 v]) k = v ∨ fI (setCs X j [.i .i64 v]) k = fI X k ∨ fI (setCs X j [.i .i64 v]) k = 0 := by
    show toI ((X.set j (.i .i64 v)).getD k .u) = v ∨ toI ((X.set j (.i .i64 v)).getD k .u) = toI (X.getD k .u) ∨ toI ((X.set j (.i .i64 v)).getD k .u) = 0
    simp only [List.getD_eq_getElem?_getD, List.getElem?_set]
    split
    · split
      · exact .inl rfl
      · exact .inr (.inr rfl)
    · exact .inr (.inl rfl)
  rcases e with e | e | e <;> rw [e]
  · exact hv
  · exact h k
  · decide
theorem plain_of_rng {X : List AV} (k : rng X) : plainL (enc8 X) = true := by
  simp only [enc8, ag8, plain, plainL, Bool.and_eq_true, decide_eq_true_eq, and_true]
  exact ⟨k 0, k 1, k 2, k 3, k 4, k 5, k 6, k 7⟩
theorem PT.plain {ms : List AV} {b : Bool} {j : Nat} {room : Int} {p p' : List AV} {lst : List (List AV)} (h : PT db cs ms b j room p lst p') : rng p → (∀ x, x ∈ lst → plainL x = true) ∧ rng p' := by
  induction h with
  | leaf =>
    intro hr
    refine ⟨fun x hx => ?_, hr⟩
    simp only [List.mem_singleton] at hx
    subst hx
    exact plain_of_rng hr
  | node _ _ _ ih =>
    intro hr
    obtain ⟨i1, i2⟩ := ih (rng_set hr _ (by decide))
    exact ⟨i1, rng_set i2 _ (by decide)⟩
  | stop _ =>
    intro hr
    refine ⟨fun x hx => ?_, hr⟩
    cases hx
  | step _ _ _ _ ih1 ih2 =>
    intro hr
    obtain ⟨i1, i2⟩ := ih1 hr
    obtain ⟨i3, i4⟩ := ih2 (rng_set i2 _ (wrap_rng _))
    refine ⟨fun x hx => ?_, i4⟩
    rcases List.mem_append.1 hx with hx | hx
    · exact i1 x hx
    · exact i3 x hx
/-! ### The iterator -/
noncomputable def bd88 : Code := match Try.f88.body with | some c => c | _ => .skip
noncomputable def at88 (p : List Bool) : Code := match locate bd88 p with | some c => c | _ => .skip
noncomputable def y0 : Code := at88 [false]
noncomputable def y1 : Code := at88 [true, false]
noncomputable def y2 : Code := at88 [true, true, false]
noncomputable def y3 : Code := at88 [true, true, true, false]
noncomputable def y4 : Code := at88 [true, true, true, true]
noncomputable def opsY : Array Oper := match y4 with | .region _ o _ => o | _ => #[]
theorem bd88_eq : bd88 = .seq y0 (.seq y1 (.seq y2 (.seq y3 y4))) := by kernel_rfl
theorem y4_eq : y4 = .region 4 opsY false := by kernel_rfl
theorem szY : opsY.size = 7 := by kernel_rfl
noncomputable def oY : Oper := (opsY[6]?).getD default
theorem oY_at : opsY[6]? = some oY := by kernel_rfl
theorem oY_op : oY.op = .call { callee := .value (.tmp 7), args := #[.const (.int .i64 0), .tmp 12], argTypes := #[3, 3] } := by kernel_rfl
theorem oY_g : oY.guard = none := by kernel_rfl
theorem body88 : Try.f88.body = some bd88 := by kernel_rfl
theorem res88 : Try.f88.results = #[] := by kernel_rfl
noncomputable def ro88 (t : Nat) : Bool := cond (Nat.beq t 4) false (ro 88 t)
noncomputable def fnY (da db : Int) (cs : List (List AV)) (m0 m1 m2 m3 m4 m5 m6 m7 : Int) (l : Nat) : AV := .fn 89 [rpR da db cs, rpY l, .p 1 0 0, rpM m0 m1 m2 m3 m4 m5 m6 m7, .p 2 0 0]
def zero8 : List AV := [.i .i64 0, .i .i64 0, .i .i64 0, .i .i64 0, .i .i64 0, .i .i64 0, .i .i64 0, .i .i64 0]
/-- All up to the call. -/
noncomputable def upY (st : St) : Option (AV × AV × Blk × Blk) := evC Try.prog S0 ro88 (fun _ _ => none) y0 [] st fun e s => match e with
  | .nrm => evC Try.prog S0 ro88 (fun _ _ => none) y1 [] s fun e s => match e with
    | .nrm => evC Try.prog S0 ro88 (fun _ _ => none) y2 [] s fun e s => match e with
      | .nrm => evC Try.prog S0 ro88 (fun _ _ => none) y3 [] s fun e s => match e with
        | .nrm => evOpsB Try.prog S0 ro88 opsY s.nx (opsY.toList.take 6) 0 s fun s => some (gt s.t 7, gt s.t 12, gm s.m 1, gm s.m 2)
        | _ => none
      | _ => none
    | _ => none
  | _ => none
theorem upY_eq (da db : Int) (cs : List (List AV)) (m0 m1 m2 m3 m4 m5 m6 m7 : Int) (l : Nat) : upY (initSt 14 [.yl l, rpR da db cs, rpM m0 m1 m2 m3 m4 m5 m6 m7] []) = some (fnY da db cs m0 m1 m2 m3 m4 m5 m6 m7 l, .i .i64 (IntKind.i64.wrap (da + db)), rw0 zero8, .row 125 [[fnY da db cs m0 m1 m2 m3 m4 m5 m6 m7 l]]) := by kernel_rfl
theorem rp_chain {W : World} {fb : Nat} {cv : Array Value} (hc : W.cell? ⟨fb, 0, none⟩ = some (.func (.func 89) #[] cv)) (hs : cv.size = 5) (hX : ∀ o, ¬ XR X R fb o) (h4 : cv.getD 4 undef = .pointer (some ⟨fb, 0, none⟩))
    (h : ∀ k, k < 4 → VR Try.prog (XR X R) R W (([rpR da db cs, rpY l, .p 0 0 0, rpM m0 m1 m2 m3 m4 m5 m6 m7] : List AV).getD k .u) (cv.getD k undef)) :
    ∀ d, VR Try.prog (XR X R) R W (RP da db cs m0 m1 m2 m3 m4 m5 m6 m7 l d) (.pointer (some ⟨fb, 0, none⟩))
  | 0 => .u
  | d + 1 => by
    refine .rp (b := fb) (o := 0) (j := 0) (f := fun _ => .func (.func 89) #[] cv) (fun k hk => hX _) (by simp) ⟨rfl, fun j hj => ?_⟩ (fun k hk => ?_) (fun k hk => ?_)
    · have : j = 0 := by simp at hj; omega
      subst this
      exact .oth
    · have : k = 0 := by simp at hk; omega
      subst this
      exact hc
    · have : k = 0 := by simp at hk; omega
      subst this
      refine .fn hs fun k hk => ?_
      rcases Nat.lt_or_ge k 4 with g | g
      · have := h k g
        rcases k with _ | _ | _ | _ | k
        · exact this
        · exact this
        · exact this
        · exact this
        · omega
      · have : k = 4 := by simp at hk; omega
        subst this
        rw [h4]
        exact rp_chain hc hs hX h4 h d
end Go.Proofs.Ytgifjphinkbcaaa

set_option maxRecDepth 100000
set_option linter.unusedVariables false
set_option linter.unusedSimpArgs false
namespace Go.Proofs.Ytgifjphinkbcaaa
open Go Go.Ev Go.RowKit
variable {da db : Int} {cs : List (List AV)} {m0 m1 m2 m3 m4 m5 m6 m7 : Int}
theorem lokY (c : Code) (h : (match c with | .region _ _ _ => true | _ => false) = true) : LOK Try.prog S0 ro88 (fun _ _ => none) 0 true c [] := by
  split at h
  · trivial
  · cases h
theorem cells104 : Try.prog.cellsOf 104 = 8 := by kernel_rfl
theorem cells125 : Try.prog.cellsOf 125 = 1 := by kernel_rfl
/-- **The iterator over the patterns.** -/
theorem pat_con {lst : List (List AV)} {p' : List AV} (h : PT db cs [AV.i IntKind.i64 m0, AV.i IntKind.i64 m1, AV.i IntKind.i64 m2, AV.i IntKind.i64 m3, AV.i IntKind.i64 m4, AV.i IntKind.i64 m5, AV.i IntKind.i64 m6, AV.i IntKind.i64 m7] false 0 (IntKind.i64.wrap (da + db)) zero8 lst p') :
    SeqCon Try.prog 88 [rpR da db cs, rpM m0 m1 m2 m3 m4 m5 m6 m7] lst := by
  refine ⟨⟨Try.f88, Try.func88, names 88 _ Try.func88, by rw [body88]; rfl⟩, (h.plain fun k => ?_).1, ?_⟩
  · rcases k with _ | _ | _ | _ | _ | _ | _ | _ | k <;> exact (show IntKind.i64.min ≤ (0 : Int) ∧ (0 : Int) ≤ IntKind.i64.max from ⟨by decide, by decide⟩)
  intro X Y n w lb hX hYX hlb hcaps l J Jx hJ hJx hJ0 hyield
  refine callsIn_FW (calls_of_FW (ro := none) (n := 0) (callsIn_of_wp Try.func88 body88 trivial ?_))
  have h0 : SR Try.prog ⟨w, rowsOf none2, fun id => id < 0, w.heap.size, Nat.le_refl _⟩ (XR X none2) (XR X none2) none2 (initSt 14 [.yl l, rpR da db cs, rpM m0 m1 m2 m3 m4 m5 m6 m7] []) { tmps := (#[Value.func (.yield l) #[] #[]] ++ lb) ++ Array.replicate (14 - (#[Value.func (.yield l) #[] #[]] ++ lb).size) undef, defers := [] } w :=
    init_SR (rows := []) hX (fun _ _ => rfl) (fun _ _ _ e => by cases e) (fun _ _ _ _ _ e => by cases e) rfl (fun id hid => by simp at hid) (by simp at hlb; simp [hlb]) (show 3 ≤ 14 by decide) (fun k hk => by
      cases k with
      | zero =>
        have e : (#[Value.func (.yield l) #[] #[]] ++ lb).getD 0 undef = .func (.yield l) #[] #[] := by simp [Array.getD_eq_getD_getElem?, Array.getElem?_append]
        rw [e]
        exact .yl
      | succ k =>
        have := (hcaps k (by simp at hk ⊢; omega)).to_xr_none
        simpa [Array.getD_eq_getD_getElem?, Array.getElem?_append] using this)
  rw [bd88_eq]
  have hW := upY_eq da db cs m0 m1 m2 m3 m4 m5 m6 m7 l
  unfold upY at hW
  refine wpIn_seq (evC_sound S0_ok mixed y0 [] 0 true none 0 (lokY y0 (by kernel_rfl)) (fun h => by cases h) h0 (fun _ _ => rfl) (Nat.zero_le _) hW fun D1 R1 e1 s1 a1 w1 hS1 hF1 _ hd1 _ ht1 hK1 => ?_)
  cases e1 with
  | ext k => cases hK1
  | ret => cases hK1
  | nrm =>
  refine wpIn_seq (evC_sound S0_ok mixed y1 [] 0 true none 0 (lokY y1 (by kernel_rfl)) (fun h => by cases h) hS1 hF1 (Nat.zero_le _) hK1 fun D2 R2 e2 s2 a2 w2 hS2 hF2 _ hd2 _ ht2 hK2 => ?_)
  cases e2 with
  | ext k => cases hK2
  | ret => cases hK2
  | nrm =>
  refine wpIn_seq (evC_sound S0_ok mixed y2 [] 0 true none 0 (lokY y2 (by kernel_rfl)) (fun h => by cases h) hS2 hF2 (Nat.zero_le _) hK2 fun D3 R3 e3 s3 a3 w3 hS3 hF3 _ hd3 _ ht3 hK3 => ?_)
  cases e3 with
  | ext k => cases hK3
  | ret => cases hK3
  | nrm =>
  refine wpIn_seq (evC_sound S0_ok mixed y3 [] 0 true none 0 (lokY y3 (by kernel_rfl)) (fun h => by cases h) hS3 hF3 (Nat.zero_le _) hK3 fun D4 R4 e4 s4 a4 w4 hS4 hF4 _ hd4 _ ht4 hK4 => ?_)
  cases e4 with
  | ext k => cases hK4
  | ret => cases hK4
  | nrm =>
  show y4.wpIn (FW none) 0 Try.prog _ a4 w4
  rw [y4_eq]
  refine wpIn_region ?_
  rw [szY, show List.range 7 = List.range' 0 6 ++ [6] by decide]
  have hl : (opsY.toList.take 6).length = 6 := by simp [szY]
  obtain ⟨rest, hrest⟩ : ∃ rest : List Nat, rest = [6] := ⟨_, rfl⟩
  rw [← hrest, ← hl]
  refine evOpsB_cut S0_ok (opsY.toList.take 6) 0 (fun i hi => ?_) hS4 (by simpa using hF4) hK4 fun D R' s a W hS hF hRR hd _ hnt hK => ?_
  · rw [hl] at hi
    simp [List.getElem?_take, hi]
  simp only [Option.some.injEq, Prod.mk.injEq] at hK
  obtain ⟨k7, k12, kr1, kr2⟩ := hK
  have dfa : a.defers = [] := hd.trans ((hd4 rfl).trans ((hd3 rfl).trans ((hd2 rfl).trans (hd1 rfl))))
  -- where the rows lie
  have r1 := hS.mem 1
  rw [kr1] at r1
  have r2 := hS.mem 2
  rw [kr2] at r2
  obtain ⟨pb, c1, ty1, g1, hb1, _⟩ := r1 (by simp)
  obtain ⟨fb, c2, ty2, g2, hb2, _, _, _, _, hv2⟩ := r2 (by simp)
  rw [cells104] at g1
  rw [cells125] at g2
  have o1 := hS.own 1 pb _ g1 (by simp)
  have o2 := hS.own 2 fb _ g2 (by simp)
  have p1 : w.heap.size ≤ pb := by
    rcases o1.1 with g | ⟨_, g⟩
    · exact g
    · simp only at g; omega
  have p2 : w.heap.size ≤ fb := by
    rcases o2.1 with g | ⟨_, g⟩
    · exact g
    · simp only at g; omega
  have hne : fb ≠ pb := fun e => by
    subst e
    have := hS.inj 1 2 fb _ _ g1 g2 (by simp) (by simp) (by rw [kr1]; rfl) (by rw [kr2]; rfl)
    omega
  obtain ⟨R3', hR3⟩ : ∃ R3' : Nat → Option (Nat × Nat × Nat), R3' = fun id => if id = 0 then some (pb, 8, 0) else none := ⟨_, rfl⟩
  have E : Env l X Y R3' pb lst J Jx := ⟨by rw [hR3]; rfl, fun id hid => by rw [hR3]; exact if_neg (by omega), hYX, fun o hx => by have := hX _ _ hx; omega, hJ, hyield⟩
  have hsub : ∀ b o, XR X R3' b o → D b o := by
    rintro b o (hx | ⟨id, s, e⟩)
    · exact hS.X b o (.inl hx)
    · rw [hR3] at e
      simp only at e
      split at e
      · cases e
        exact hS.dom 1 pb _ o g1 (by rw [kr1]; trivial)
      · cases e
  have toD : ∀ {x : AV} {v : Value}, VR Try.prog D R3' W x v → VR Try.prog (XR X R3') R3' W x v := fun hv => hv.mono' (fun _ _ e => e) fun b o u hd hc => ⟨fun hx => hd (hsub b o hx), hc⟩
  have toX : ∀ {x : AV} {v : Value}, VR Try.prog D R' W x v → free Try.prog 0 x = true → VR Try.prog (XR X R3') R3' W x v := fun hv hf => toD (hv.free_any (nb := 0) (fun id y h => by omega) hf)
  have A : At l X R3' pb zero8 W := by
    refine ⟨fun b o hx => Nat.lt_of_lt_of_le (hX b o hx) hS.old.size, o1.2, ?_⟩
    exact (RowOK.free (nb := 0) (R' := R3') (id := 1) (id' := 0) (fun id y h => by omega) (fun y e => by rw [g1] at e; cases e; exact E.R0) r1 (by kernel_rfl)).mono rfl (fun _ _ _ _ => rfl) fun _ _ => toD
  -- the function's value
  have cap : ∀ v, VR Try.prog D R' W (fnY da db cs m0 m1 m2 m3 m4 m5 m6 m7 l) v → ∃ cv, v = .func (.func 89) #[] cv ∧ cv.size = 5 ∧ cv.getD 4 undef = .pointer (some ⟨fb, 0, none⟩) ∧
      ∀ k, k < 4 → VR Try.prog (XR X R3') R3' W (([rpR da db cs, rpY l, .p 0 0 0, rpM m0 m1 m2 m3 m4 m5 m6 m7] : List AV).getD k .u) (cv.getD k undef) := by
    intro v hv
    unfold fnY at hv
    cases hv with
    | @fn _ _ cv q1 q2 =>
      have t0 := q2 0 (by simp)
      have t1 := q2 1 (by simp)
      have t2 := q2 2 (by simp)
      have t3 := q2 3 (by simp)
      have t4 := q2 4 (by simp)
      simp only [List.getD_cons_zero, List.getD_cons_succ] at t0 t1 t2 t3 t4
      refine ⟨cv, rfl, q1, ?_, fun k hk => ?_⟩
      · generalize cv.getD 4 undef = u at t4
        cases t4 with
        | @p _ _ _ b sz hR =>
          rw [g2] at hR
          cases hR
          rfl
      · rcases k with _ | _ | _ | _ | k
        · exact toX t0 (by kernel_rfl)
        · exact toX t1 (by kernel_rfl)
        · show VR _ _ _ _ (.p 0 0 0) (cv.getD 2 undef)
          generalize cv.getD 2 undef = u at t2
          cases t2 with
          | @p _ _ _ b sz hR =>
            rw [g1] at hR
            cases hR
            exact .p E.R0
        · exact toX t3 (by kernel_rfl)
        · omega
  -- the box that holds it
  obtain ⟨vb, hvb, hvv⟩ := hv2 0 0 (by simp) (by rw [cells125]; decide)
  obtain ⟨cvb, rfl, b1, b2, b3⟩ := cap vb hvv
  have hcell : W.cell? ⟨fb, 0, none⟩ = some (.func (.func 89) #[] cvb) := by
    simp only [cells125, Nat.mul_one, Nat.add_zero] at hvb
    simp only [World.cell?, hb2]
    simpa using hvb
  have chain := rp_chain (da := da) (db := db) (cs := cs) (m0 := m0) (m1 := m1) (m2 := m2) (m3 := m3) (m4 := m4) (m5 := m5) (m6 := m6) (m7 := m7) (l := l) hcell b1 (fun o hx => by
    rcases hx with hx | ⟨id, s, e⟩
    · have := hX _ _ hx; omega
    · rw [hR3] at e
      simp only at e
      split at e
      · cases e; exact hne rfl
      · cases e) b2 b3
  have t7 := hS.tmp 7
  rw [k7] at t7
  obtain ⟨cv, hy, d1, d2, d3⟩ := cap _ t7
  have t12 := hS.tmp 12
  rw [k12] at t12
  rw [hrest]
  simp only [wpOpsIn, oY_at]
  rw [if_pos (by simp [Region.wanted, oY_g])]
  obtain ⟨fn, f1, f2, f3⟩ := tab89
  have hrec := rec89 (da := da) E h
  have hJ1 := hJ _ _ _ _ hJ0 (show BelowZ (fun _ => False) w W from ⟨hS.old.os, hS.old.tape, hS.old.output, hS.old.size, fun k hk _ => hS.old.block k hk (by rintro ⟨_, _, e⟩; cases e)⟩)
  refine enter_op oY_op rfl hy f1 f2 f3 (hrec W _ 0 _ A (by simp [d1]) (fun k hk => ?_) (.inr ⟨p1, o1.2⟩) hJ1 (fun q x hq => by simpa using hq)) fun e5 W5 he => ?_
  · have em : Array.map a.eval #[Operand.const (.int .i64 0), Operand.tmp 12] = #[.int .i64 0, a.tmps.getD 12 undef] := by simp [Act.eval]
    dsimp only
    rw [em]
    rcases k with _ | _ | k
    · rw [app2_0]; exact .i (by decide) (by decide)
    · rw [show 0 + 1 = 1 from rfl, app2_1]; exact toX t12 (by kernel_rfl)
    · rw [show k + 1 + 1 = k + 2 from rfl, app2_2]
      rcases Nat.lt_or_ge k 4 with g | g
      · have := d3 k g
        rcases k with _ | _ | _ | _ | k
        · exact this
        · exact this
        · exact this
        · exact this
        · omega
      · have : k = 4 := by omega
        subst this
        rw [d2]
        exact chain _
  · have fin : ∀ v : Value, (∃ v', Ending.returned v = .returned v') ∧ ((∃ Z, J Z lst.length W5) ∨ ∃ Z, Jx Z W5) → ∃ v', Ending.returned v = .returned v' ∧ wpOpsIn (FW none) 0 Try.prog opsY (bodyPost Try.prog Try.f88 fun e W' => (∃ v, e = .returned v) ∧ ((∃ Z, J Z lst.length W') ∨ ∃ Z, Jx Z W')) [] (a.put oY.dst v') W5 := by
      intro v hv
      refine ⟨v, rfl, (put_defers _ _ _).trans dfa, ?_⟩
      have hr : ∃ u, (results Try.f88 (a.put oY.dst v).tmps).run Try.prog W5 = .ok u W5 := by simp [results, res88]
      obtain ⟨u, hu⟩ := hr
      exact ⟨u, hu, ⟨u, rfl⟩, hv.2⟩
    rcases he with ⟨rfl, Z', _, hj, _⟩ | ⟨rfl, Z', hj⟩
    · exact fin _ ⟨⟨_, rfl⟩, .inl ⟨Z', by simpa using hj⟩⟩
    · exact fin _ ⟨⟨_, rfl⟩, .inr ⟨Z', hj⟩⟩
end Go.Proofs.Ytgifjphinkbcaaa

set_option maxRecDepth 100000
set_option linter.unusedVariables false
namespace Go.Proofs.Ytgifjphinkbcaaa
open Go Go.Ev
/-- Are there patterns? -/
def Pats (da db : Int) (cs : List (List AV)) (ms : List AV) (Xs : List (List AV)) : Prop := ∃ p', PT db cs ms false 0 (IntKind.i64.wrap (da + db)) zero8 (Xs.map enc8) p'
open Classical in
noncomputable def okP (da db : Int) (cs : List (List AV)) (m0 m1 m2 m3 m4 m5 m6 m7 : Int) : Bool := decide (∃ Xs, Pats da db cs [.i .i64 m0, .i .i64 m1, .i .i64 m2, .i .i64 m3, .i .i64 m4, .i .i64 m5, .i .i64 m6, .i .i64 m7] Xs)
open Classical in
noncomputable def patX (da db : Int) (cs : List (List AV)) (m0 m1 m2 m3 m4 m5 m6 m7 : Int) : List (List AV) := if h : ∃ Xs, Pats da db cs [.i .i64 m0, .i .i64 m1, .i .i64 m2, .i .i64 m3, .i .i64 m4, .i .i64 m5, .i .i64 m6, .i .i64 m7] Xs then h.choose else []
theorem patX_ok {da db : Int} {cs : List (List AV)} {m0 m1 m2 m3 m4 m5 m6 m7 : Int} (h : okP da db cs m0 m1 m2 m3 m4 m5 m6 m7 = true) : Pats da db cs [.i .i64 m0, .i .i64 m1, .i .i64 m2, .i .i64 m3, .i .i64 m4, .i .i64 m5, .i .i64 m6, .i .i64 m7] (patX da db cs m0 m1 m2 m3 m4 m5 m6 m7) := by
  unfold okP at h
  simp only [decide_eq_true_eq] at h
  unfold patX
  rw [dif_pos h]
  exact h.choose_spec
theorem patX_con {da db : Int} {cs : List (List AV)} {m0 m1 m2 m3 m4 m5 m6 m7 : Int} (h : okP da db cs m0 m1 m2 m3 m4 m5 m6 m7 = true) :
    SeqCon Try.prog 88 [.rp [.int .i64, .int .i64, .sl 64] [.i .i64 da, .i .i64 db, .rs 64 cs] 0, .rp [.int .i64, .int .i64, .int .i64, .int .i64, .int .i64, .int .i64, .int .i64, .int .i64] [.i .i64 m0, .i .i64 m1, .i .i64 m2, .i .i64 m3, .i .i64 m4, .i .i64 m5, .i .i64 m6, .i .i64 m7] 0] ((patX da db cs m0 m1 m2 m3 m4 m5 m6 m7).map enc8) := by
  obtain ⟨p', h⟩ := patX_ok h
  exact pat_con h
theorem enc8_len {Xs : List (List AV)} {x : List AV} (h : x ∈ Xs.map enc8) : x.length = 1 := by
  obtain ⟨y, _, rfl⟩ := List.mem_map.1 h
  rfl
end Go.Proofs.Ytgifjphinkbcaaa

set_option maxRecDepth 1000000
set_option maxHeartbeats 0
set_option linter.unusedVariables false
namespace Go.Proofs.Ytgifjphinkbcaaa
open Go Go.Ev
/-- The patterns, reckoned. -/
def patF (db : Int) (cs : List (List AV)) (ms : List AV) : Nat → Bool → Nat → Int → List AV → Option (List (List AV) × List AV)
  | 0, _, _, _, _ => none
  | n + 1, false, j, room, X => cond (Nat.beq j cs.length) (some ([enc8 X], X)) (cond (Nat.blt j cs.length && Nat.blt j 8) (match patF db cs ms n true j room (setCs X j [.i .i64 0]) with
    | some (l, X') => some (l, setCs X' j [.i .i64 0])
    | none => none) none)
  | n + 1, true, j, room, X => cond (decide (fI X j ≤ fI ms j) && decide (room ≥ 0)) (match patF db cs ms n false (j + 1) room X with
    | some (l1, X1) => match patF db cs ms n true j (IntKind.i64.wrap (room - wid db cs j)) (setCs X1 j [.i .i64 (IntKind.i64.wrap (fI X1 j + 1))]) with
      | some (l2, X2) => some (l1 ++ l2, X2)
      | none => none
    | none => none) (some ([], X))
theorem patF_ok {db : Int} {cs : List (List AV)} {ms : List AV} : ∀ {n : Nat} {b : Bool} {j : Nat} {room : Int} {X X' : List AV} {l : List (List AV)}, patF db cs ms n b j room X = some (l, X') → PT db cs ms b j room X l X'
  | 0, _, _, _, _, _, _, h => by cases h
  | n + 1, false, j, room, X, X', l, h => by
    simp only [patF] at h
    cases hb : Nat.beq j cs.length with
    | true =>
      rw [hb] at h
      simp only [cond_true, Option.some.injEq, Prod.mk.injEq] at h
      obtain ⟨rfl, rfl⟩ := h
      rw [Nat.eq_of_beq_eq_true hb]
      exact .leaf
    | false =>
      rw [hb] at h
      simp only [cond_false] at h
      obtain ⟨hc, h⟩ := cond_some h
      simp only [Bool.and_eq_true, Nat.blt_eq] at hc
      split at h
      · rename_i l1 X1 h1
        simp only [Option.some.injEq, Prod.mk.injEq] at h
        obtain ⟨rfl, rfl⟩ := h
        exact .node hc.1 hc.2 (patF_ok h1)
      · cases h
  | n + 1, true, j, room, X, X', l, h => by
    simp only [patF] at h
    cases hb : (decide (fI X j ≤ fI ms j) && decide (room ≥ 0)) with
    | false =>
      rw [hb] at h
      simp only [cond_false, Option.some.injEq, Prod.mk.injEq] at h
      obtain ⟨rfl, rfl⟩ := h
      exact .stop hb
    | true =>
      rw [hb] at h
      simp only [cond_true] at h
      simp only [Bool.and_eq_true, decide_eq_true_eq] at hb
      split at h
      · rename_i l1 X1 h1
        split at h
        · rename_i l2 X2 h2
          simp only [Option.some.injEq, Prod.mk.injEq] at h
          obtain ⟨rfl, rfl⟩ := h
          exact .step hb.1 hb.2 (patF_ok h1) (patF_ok h2)
        · cases h
      · cases h
def its : ISpec := fun g caps => cond (Nat.beq g 88) (match caps with
  | [.rp [.int .i64, .int .i64, .sl 64] [.i .i64 da, .i .i64 db, .rs 64 cs] 0, .rp [.int .i64, .int .i64, .int .i64, .int .i64, .int .i64, .int .i64, .int .i64, .int .i64] [.i .i64 m0, .i .i64 m1, .i .i64 m2, .i .i64 m3, .i .i64 m4, .i .i64 m5, .i .i64 m6, .i .i64 m7] 0] =>
    match patF db cs [.i .i64 m0, .i .i64 m1, .i .i64 m2, .i .i64 m3, .i .i64 m4, .i .i64 m5, .i .i64 m6, .i .i64 m7] 100 false 0 (IntKind.i64.wrap (da + db)) zero8 with
    | some (l, _) => some l
    | none => none
  | _ => none) none
theorem its_ok : IOK Try.prog its := by
  intro g caps xs h
  unfold its at h
  obtain ⟨hg, h2⟩ := cond_some h
  clear h
  have hg := Nat.eq_of_beq_eq_true hg
  subst hg
  split at h2
  · split at h2
    · rename_i l X' h3
      cases h2
      exact pat_con (patF_ok h3)
    · cases h2
  · cases h2
noncomputable def SL : Ev.Spec := runS Try.prog its ro (fun _ _ _ => none) 300 5 12
theorem SL_ok : SpecOK Try.prog SL := runS_ok its_ok mixed names (fun _ _ _ _ _ _ h => by cases h) 12
theorem lives_eq : SL 19 [] [] = some (true, .b true, []) := by kernel_rfl
theorem lives_con : Con Try.prog 19 [] [] (.b true) [] := SL_ok _ _ _ _ _ _ lives_eq rfl
end Go.Proofs.Ytgifjphinkbcaaa

set_option maxRecDepth 100000
set_option linter.unusedVariables false
namespace Go.Proofs.Ytgifjphinkbcaaa
open Go Go.Ev
/-! ### The patterns -/
/-- Kinds of cuts: size, weight, how many. -/
def en (db : Int) (cs ws : List (List AV)) : List (Int × Int × Int) := (List.range cs.length).map fun j => (ln cs j + db, vv ws j, mn cs j)
theorem en_len (db : Int) (cs ws : List (List AV)) : (en db cs ws).length = cs.length := by simp [en]
theorem en_drop {db : Int} {cs ws : List (List AV)} {j : Nat} (h : j < cs.length) : (en db cs ws).drop j = (ln cs j + db, vv ws j, mn cs j) :: (en db cs ws).drop (j + 1) := by
  rw [drop_cons (0, 0, 0) (by rw [en_len]; exact h)]
  congr 1
  simp [en, List.getD_eq_getElem?_getD, h]
theorem en_end (db : Int) (cs ws : List (List AV)) : (en db cs ws).drop cs.length = [] := List.drop_of_length_le (by rw [en_len]; exact Nat.le_refl _)
/-- The weight of a pattern's first kinds. -/
def wX (ws : List (List AV)) (X : List AV) : Nat → Int
  | 0 => 0
  | n + 1 => wX ws X n + vv ws n * fI X n
theorem wX_congr {ws : List (List AV)} {X Y : List AV} : ∀ {n : Nat}, (∀ i, i < n → fI X i = fI Y i) → wX ws X n = wX ws Y n
  | 0, _ => rfl
  | n + 1, h => by
    show wX ws X n + vv ws n * fI X n = wX ws Y n + vv ws n * fI Y n
    rw [wX_congr (n := n) (fun i hi => h i (by omega)), h n (by omega)]
theorem fI_set {X : List AV} {j i : Nat} {v : Int} (h : j < X.length) : fI (setCs X j [.i .i64 v]) i = if i = j then v else fI X i := by
  show toI ((X.set j (.i .i64 v)).getD i .u) = _
  rw [List.getD_eq_getElem?_getD, List.getElem?_set]
  by_cases e : j = i
  · subst e
    rw [if_pos rfl, if_pos h, if_pos rfl]
    rfl
  · rw [if_neg e, if_neg (fun e' => e e'.symm), ← List.getD_eq_getElem?_getD]
    rfl
theorem set_len (X : List AV) (j : Nat) (v : AV) : (setCs X j [v]).length = X.length := List.length_set
theorem PT_keep {db : Int} {cs : List (List AV)} {ms : List AV} {b : Bool} {j : Nat} {room : Int} {X X' : List AV} {l : List (List AV)} (h : PT db cs ms b j room X l X') : X.length = 8 → j ≤ 8 → (b = true → j < 8) → X'.length = 8 ∧ ∀ i, i < j → fI X' i = fI X i := by
  induction h with
  | leaf => exact fun h _ _ => ⟨h, fun _ _ => rfl⟩
  | @node j room X X' l h1 h2 h3 ih =>
    intro hX hj _
    obtain ⟨i1, i2⟩ := ih (by rw [set_len]; exact hX) hj (fun _ => h2)
    refine ⟨by rw [set_len]; exact i1, fun i hi => ?_⟩
    rw [fI_set (by omega), if_neg (by omega), i2 i hi, fI_set (by omega), if_neg (by omega)]
  | stop _ => exact fun h _ _ => ⟨h, fun _ _ => rfl⟩
  | @step j room X X1 X2 l1 l2 h1 h2 h3 h4 ih1 ih2 =>
    intro hX hj hb
    have hj8 := hb rfl
    obtain ⟨i1, i2⟩ := ih1 hX (by omega) (fun h => by cases h)
    obtain ⟨i3, i4⟩ := ih2 (by rw [set_len]; exact i1) hj (fun _ => hj8)
    refine ⟨i3, fun i hi => ?_⟩
    rw [i4 i hi, fI_set (by omega), if_neg (by omega), i2 i (by omega)]
section
variable {da db : Int} {cs ws : List (List AV)} {ms : List AV}
/-- What the patterns from a kind on are, by their weights. -/
def ClaimF (db : Int) (cs ws : List (List AV)) (j : Nat) (room : Int) (X : List AV) (l : List (List AV)) : Prop :=
  (∀ e, e ∈ l → ∃ Y s, e = enc8 Y ∧ (∀ i, i < j → fI Y i = fI X i) ∧ (∀ i, j ≤ i → i < cs.length → 0 ≤ fI Y i ∧ fI Y i ≤ 12) ∧ KV ((en db cs ws).drop j) room s ∧ wX ws Y cs.length = wX ws X j + s) ∧
  ∀ s, KV ((en db cs ws).drop j) room s → ∃ e, e ∈ l ∧ ∃ Y, e = enc8 Y ∧ wX ws Y cs.length = wX ws X j + s
def ClaimT (db : Int) (cs ws : List (List AV)) (j : Nat) (room : Int) (X : List AV) (l : List (List AV)) : Prop :=
  (∀ e, e ∈ l → ∃ Y k s, e = enc8 Y ∧ (∀ i, i < j → fI Y i = fI X i) ∧ (∀ i, j ≤ i → i < cs.length → 0 ≤ fI Y i ∧ fI Y i ≤ 12) ∧ fI X j ≤ k ∧ k ≤ mn cs j ∧ KV ((en db cs ws).drop (j + 1)) (room - (k - fI X j) * (ln cs j + db)) s ∧ wX ws Y cs.length = wX ws X j + k * vv ws j + s) ∧
  ∀ k s, fI X j ≤ k → k ≤ mn cs j → KV ((en db cs ws).drop (j + 1)) (room - (k - fI X j) * (ln cs j + db)) s → ∃ e, e ∈ l ∧ ∃ Y, e = enc8 Y ∧ wX ws Y cs.length = wX ws X j + k * vv ws j + s
theorem en_nonneg (hF : RFine da db cs) (j : Nat) : ∀ e, e ∈ (en db cs ws).drop j → 0 ≤ e.1 := by
  intro e he
  obtain ⟨i, hi, rfl⟩ := List.mem_map.1 (List.mem_of_mem_drop he)
  have := hF.c i (by simpa using hi)
  have := hF.b
  unfold okCut at *
  show 0 ≤ ln cs i + db
  omega
theorem wid_eq (hF : RFine da db cs) {j : Nat} (hj : j < cs.length) : wid db cs j = ln cs j + db := by
  have h1 := hF.c j hj
  have h2 := hF.b
  unfold okCut at h1
  exact wrap64 (by show _ ≤ ln cs j + db; omega) (by show ln cs j + db ≤ _; omega)
theorem PT_claim (hF : RFine da db cs) (hms : ∀ j, j < cs.length → fI ms j = mn cs j) {b : Bool} {j : Nat} {room : Int} {X X' : List AV} {l : List (List AV)} (h : PT db cs ms b j room X l X') :
    X.length = 8 → j ≤ cs.length → -200000 ≤ room → room ≤ 200000 → (b = false → 0 ≤ room → ClaimF db cs ws j room X l) ∧ (b = true → j < cs.length → 0 ≤ fI X j → ClaimT db cs ws j room X l) := by
  have hN := hF.l
  induction h with
  | @leaf room X =>
    intro hX hj r1 r2
    refine ⟨fun _ hr => ⟨fun e he => ?_, fun s hs => ?_⟩, fun h => by cases h⟩
    · rw [List.mem_singleton] at he
      refine ⟨X, 0, he, fun _ _ => rfl, fun i h1 h2 => by omega, ?_, by omega⟩
      rw [en_end]
      exact ⟨hr, rfl⟩
    · rw [en_end] at hs
      obtain ⟨_, rfl⟩ := hs
      exact ⟨enc8 X, by simp, X, rfl, by omega⟩
  | @node j room X X' l h1 h2 h3 ih =>
    intro hX hj r1 r2
    refine ⟨fun _ hr => ?_, fun h => by cases h⟩
    have hx0 : fI (setCs X j [.i .i64 0]) j = 0 := by rw [fI_set (by omega), if_pos rfl]
    obtain ⟨c1, c2⟩ := (ih (by rw [set_len]; exact hX) hj r1 r2).2 rfl h1 (by rw [hx0]; exact Int.le_refl _)
    have hag : ∀ i, i < j → fI (setCs X j [.i .i64 0]) i = fI X i := fun i hi => by rw [fI_set (by omega), if_neg (by omega)]
    have hw : wX ws (setCs X j [.i .i64 0]) j = wX ws X j := wX_congr hag
    rw [hx0] at c1 c2
    refine ⟨fun e he => ?_, fun s hs => ?_⟩
    · obtain ⟨Y, k, s, e1, e2, e3, e4, e5, e6, e7⟩ := c1 e he
      refine ⟨Y, k * vv ws j + s, e1, fun i hi => (e2 i hi).trans (hag i hi), e3, ?_, by rw [e7, hw, Int.add_assoc]⟩
      rw [en_drop h1]
      refine ⟨k.toNat, by omega, ?_⟩
      have : ((k.toNat : Nat) : Int) = k := by omega
      rw [this, show k * vv ws j + s - k * vv ws j = s by omega]
      rw [Int.sub_zero] at e6
      exact e6
    · rw [en_drop h1] at hs
      obtain ⟨k, hk, hs⟩ := hs
      obtain ⟨e, he, Y, e1, e2⟩ := c2 (k : Int) (s - (k : Int) * vv ws j) (by omega) hk (by rw [Int.sub_zero]; exact hs)
      exact ⟨e, he, Y, e1, by rw [e2, hw]; omega⟩
  | @stop j room X h =>
    intro hX hj r1 r2
    refine ⟨fun h => (by cases h), fun _ hjN hx => ⟨fun e he => (by cases he), fun k s hk1 hk2 hs => ?_⟩⟩
    exfalso
    have hr := KV_room (en_nonneg (ws := ws) hF (j + 1)) hs
    have hc := hF.c j hjN
    have hb := hF.b
    unfold okCut at hc
    have hz : 0 ≤ (k - fI X j) * (ln cs j + db) := Int.mul_nonneg (by omega) (by omega)
    rw [hms j hjN, decide_eq_true (show fI X j ≤ mn cs j by omega), decide_eq_true (show room ≥ 0 by omega)] at h
    cases h
  | @step j room X X1 X2 l1 l2 h1 h2 h3 h4 ih1 ih2 =>
    intro hX hj r1 r2
    refine ⟨fun h => (by cases h), fun _ hjN hx => ?_⟩
    have hc := hF.c j hjN
    have hb := hF.b
    unfold okCut at hc
    rw [hms j hjN] at h1
    obtain ⟨k1, k2⟩ := PT_keep h3 hX (by omega) (fun h => by cases h)
    have hxj : fI X1 j = fI X j := k2 j (by omega)
    have hwk : IntKind.i64.wrap (fI X1 j + 1) = fI X j + 1 := by rw [hxj]; exact wrap64 (by omega) (by omega)
    have hwr : IntKind.i64.wrap (room - wid db cs j) = room - (ln cs j + db) := by rw [wid_eq hF hjN]; exact wrap64 (by omega) (by omega)
    rw [hwk, hwr] at ih2
    obtain ⟨a1, a2⟩ := (ih1 hX (by omega) r1 r2).1 rfl h2
    have hx3 : fI (setCs X1 j [.i .i64 (fI X j + 1)]) j = fI X j + 1 := by rw [fI_set (by omega), if_pos rfl]
    obtain ⟨b1, b2⟩ := (ih2 (by rw [set_len]; exact k1) hj (by omega) (by omega)).2 rfl hjN (by rw [hx3]; omega)
    have hag : ∀ i, i < j → fI (setCs X1 j [.i .i64 (fI X j + 1)]) i = fI X i := fun i hi => by rw [fI_set (by omega), if_neg (by omega), k2 i (by omega)]
    have hw : wX ws (setCs X1 j [.i .i64 (fI X j + 1)]) j = wX ws X j := wX_congr hag
    rw [hx3, hw] at b1 b2
    have hmul : ∀ k : Int, room - (ln cs j + db) - (k - (fI X j + 1)) * (ln cs j + db) = room - (k - fI X j) * (ln cs j + db) := fun k => by
      rw [show k - fI X j = (k - (fI X j + 1)) + 1 by omega, Int.add_mul, Int.one_mul]
      omega
    have hsx : wX ws X (j + 1) = wX ws X j + fI X j * vv ws j := by
      show wX ws X j + vv ws j * fI X j = _
      rw [Int.mul_comm]
    refine ⟨fun e he => ?_, fun k s hk1 hk2 hs => ?_⟩
    · rcases List.mem_append.1 he with he | he
      · obtain ⟨Y, s, e1, e2, e3, e4, e5⟩ := a1 e he
        refine ⟨Y, fI X j, s, e1, fun i hi => e2 i (by omega), fun i h1' h2' => ?_, Int.le_refl _, h1, ?_, by rw [e5, hsx]⟩
        · rcases Nat.eq_or_lt_of_le h1' with rfl | h'
          · rw [e2 j (by omega)]; omega
          · exact e3 i h' h2'
        · rw [Int.sub_self, Int.zero_mul, Int.sub_zero]
          exact e4
      · obtain ⟨Y, k, s, e1, e2, e3, e4, e5, e6, e7⟩ := b1 e he
        rw [hmul] at e6
        exact ⟨Y, k, s, e1, fun i hi => (e2 i hi).trans (hag i hi), e3, by omega, e5, e6, e7⟩
    · rcases Int.lt_or_eq_of_le hk1 with hlt | heq
      · obtain ⟨e, he, Y, e1, e2⟩ := b2 k s (by omega) hk2 (by rw [hmul]; exact hs)
        exact ⟨e, List.mem_append.2 (.inr he), Y, e1, e2⟩
      · subst heq
        rw [Int.sub_self, Int.zero_mul, Int.sub_zero] at hs
        obtain ⟨e, he, Y, e1, e2⟩ := a2 s hs
        exact ⟨e, List.mem_append.2 (.inl he), Y, e1, by rw [e2, hsx]⟩
theorem PT_ex (hF : RFine da db cs) (hms : ∀ j, j < cs.length → fI ms j = mn cs j) : ∀ (d j : Nat), cs.length - j = d → j ≤ cs.length → ∀ (room : Int) (X : List AV), X.length = 8 → ∃ l X', PT db cs ms false j room X l X'
  | 0, j, hd, hj, room, X, hX => by
    obtain rfl : j = cs.length := by omega
    exact ⟨_, _, .leaf⟩
  | d + 1, j, hd, hj, room, X, hX => by
    have hN := hF.l
    have hjN : j < cs.length := by omega
    have hc := hF.c j hjN
    unfold okCut at hc
    have inner : ∀ (t : Nat) (room : Int) (X : List AV), X.length = 8 → 0 ≤ fI X j → mn cs j + 1 - fI X j ≤ (t : Int) → ∃ l X', PT db cs ms true j room X l X' := by
      intro t
      induction t with
      | zero =>
        intro room X hX hx ht
        refine ⟨[], X, .stop ?_⟩
        rw [hms j hjN, decide_eq_false (by omega)]
        rfl
      | succ t ih =>
        intro room X hX hx ht
        cases hcond : (decide (fI X j ≤ fI ms j) && decide (room ≥ 0)) with
        | false => exact ⟨[], X, .stop hcond⟩
        | true =>
          rw [Bool.and_eq_true, decide_eq_true_eq, decide_eq_true_eq] at hcond
          obtain ⟨l1, X1, p1⟩ := PT_ex hF hms d (j + 1) (by omega) (by omega) room X hX
          obtain ⟨k1, k2⟩ := PT_keep p1 hX (by omega) (fun h => by cases h)
          have hxj : fI X1 j = fI X j := k2 j (by omega)
          have hle := hcond.1
          rw [hms j hjN] at hle
          have hwk : IntKind.i64.wrap (fI X1 j + 1) = fI X j + 1 := by rw [hxj]; exact wrap64 (by omega) (by omega)
          have hx3 : fI (setCs X1 j [.i .i64 (IntKind.i64.wrap (fI X1 j + 1))]) j = fI X j + 1 := by rw [fI_set (by omega), if_pos rfl, hwk]
          obtain ⟨l2, X2, p2⟩ := ih (IntKind.i64.wrap (room - wid db cs j)) (setCs X1 j [.i .i64 (IntKind.i64.wrap (fI X1 j + 1))]) (by rw [set_len]; exact k1) (by rw [hx3]; omega) (by rw [hx3]; omega)
          exact ⟨l1 ++ l2, X2, .step hcond.1 hcond.2 p1 p2⟩
    obtain ⟨l, X', p⟩ := inner 14 room (setCs X j [.i .i64 0]) (by rw [set_len]; exact hX) (by rw [fI_set (by omega), if_pos rfl]; exact Int.le_refl _) (by rw [fI_set (by omega), if_pos rfl]; omega)
    exact ⟨l, _, .node hjN (by omega) p⟩
end
end Go.Proofs.Ytgifjphinkbcaaa

set_option maxRecDepth 100000
set_option linter.unusedVariables false
namespace Go.Proofs.Ytgifjphinkbcaaa
open Go Go.Ev

/-! ### Fewest -/
noncomputable def c47 : Code := match Try.f47.body with | some c => c | _ => .skip
noncomputable def lp47a : Code := loopAt c47 [true, true, true, true, false, true, false]
noncomputable def s47a (t2 : Int) (t3 : List (List AV)) (t4 : List (List AV)) (t5 : Nat) (t6 : Int) (m11 : List (List AV)) : St :=
  { t := [(2, .i .i64 t2), (3, .rs 3 t3), (4, .rs 4 t4), (5, .sl 11 0 t5), (6, .i .i64 t6)], m := [(0, .dead), (1, .dead), (2, .dead), (3, .dead), (4, .dead), (5, .dead), (6, .dead), (7, .dead), (8, .dead), (9, .dead), (10, .dead), (11, .row 3 m11)], nx := 12, nt := 70 }
noncomputable def lp47aa : Code := loopAt c47 [true, true, true, true, false, true, false, false, true, false, false, true, true, true, false]
noncomputable def s47aa (t2 : Int) (t3 : List (List AV)) (t4 : List (List AV)) (t5 : Nat) (t6 : Int) (t7 : Int) (t8 : Int) (m11 : List (List AV)) : St :=
  { t := [(2, .i .i64 t2), (3, .rs 3 t3), (4, .rs 4 t4), (5, .sl 11 0 t5), (6, .i .i64 t6), (7, .i .i64 t7), (8, .i .i64 t8)], m := [(0, .dead), (1, .dead), (2, .dead), (3, .dead), (4, .dead), (5, .dead), (6, .dead), (7, .dead), (8, .dead), (9, .dead), (10, .dead), (11, .row 3 m11)], nx := 12, nt := 70 }
structure S47aa where
  t8 : Int
  m11 : List (List AV)
inductive T47aa where
  | x0 (t8 : Int) (m11 : List (List AV))
noncomputable def stp47aa (t2 : Int) (t3 : List (List AV)) (t4 : List (List AV)) (t5 : Nat) (t6 : Int) (t7 : Int) (t8 : Int) (m11 : List (List AV)) : Lp S47aa T47aa :=
  cond (decide (t8 > 0)) (cond (IntKind.i64.wrap (↑(BitVec.ofInt 64 t8 &&& BitVec.ofInt 64 t7).toNat : Int) != 0) (cond (inb t8 t4.length) (cond (fB (t4.getD t8.toNat []) 0) (cond (inb t6 t5 && (0 + t6.toNat).blt m11.length) (cond ((0 + t6.toNat).blt m11.length) (cond (inb (IntKind.i64.wrap (t6 - t8)) t5 && (0 + (IntKind.i64.wrap (t6 - t8)).toNat).blt m11.length) (cond ((0 + (IntKind.i64.wrap (t6 - t8)).toNat).blt m11.length) (cond (inb t6 t5 && (0 + t6.toNat).blt m11.length) (cond ((0 + t6.toNat).blt m11.length) (.go ⟨IntKind.i64.wrap (↑(BitVec.ofInt 64 (IntKind.i64.wrap (t8 - 1)) &&& BitVec.ofInt 64 t6).toNat : Int), m11.set (0 + t6.toNat) (setCs (m11.getD (0 + t6.toNat) []) 0 [AV.i IntKind.i64 (bmin (fI (m11.getD (0 + t6.toNat) []) 0) (IntKind.i64.wrap (1 + fI (m11.getD (0 + (IntKind.i64.wrap (t6 - t8)).toNat) []) 0)))])⟩) (.bad)) (.bad)) (.bad)) (.bad)) (.bad)) (.bad)) (.go ⟨IntKind.i64.wrap (↑(BitVec.ofInt 64 (IntKind.i64.wrap (t8 - 1)) &&& BitVec.ofInt 64 t6).toNat : Int), m11⟩)) (.bad)) (.go ⟨IntKind.i64.wrap (↑(BitVec.ofInt 64 (IntKind.i64.wrap (t8 - 1)) &&& BitVec.ofInt 64 t6).toNat : Int), m11⟩)) (.out (.x0 t8 m11))
noncomputable def o47aa_0 (t2 : Int) (t3 : List (List AV)) (t4 : List (List AV)) (t5 : Nat) (t6 : Int) (t7 : Int) (t8 : Int) (m11 : List (List AV)) : St :=
  { t := [(2, .i .i64 t2), (3, .rs 3 t3), (4, .rs 4 t4), (5, .sl 11 0 t5), (6, .i .i64 t6), (7, .i .i64 t7), (8, .i .i64 t8)], m := [(0, .dead), (1, .dead), (2, .dead), (3, .dead), (4, .dead), (5, .dead), (6, .dead), (7, .dead), (8, .dead), (9, .dead), (10, .dead), (11, .row 3 m11)], nx := 12, nt := 70 }
noncomputable def ou47aa (t2 : Int) (t3 : List (List AV)) (t4 : List (List AV)) (t5 : Nat) (t6 : Int) (t7 : Int) : T47aa → Ex × St
  | .x0 t8 m11 => (.ext 2, o47aa_0 t2 t3 t4 t5 t6 t7 t8 m11)
noncomputable def r47aa (t2 : Int) (t3 : List (List AV)) (t4 : List (List AV)) (t5 : Nat) (t6 : Int) (t7 : Int) (t8 : Int) (m11 : List (List AV)) : Option T47aa := run (fun x => stp47aa t2 t3 t4 t5 t6 t7 x.t8 x.m11) (⟨t8, m11⟩ : S47aa)
noncomputable def i47aa_0 (t2 : Int) (t3 : List (List AV)) (t4 : List (List AV)) (t5 : Nat) (t6 : Int) (t7 : Int) (t8 : Int) (m11 : List (List AV)) : Bool := match r47aa t2 t3 t4 t5 t6 t7 t8 m11 with
  | some (.x0 _ _) => true
  | _ => false
noncomputable def v47aa_0_t8 (t2 : Int) (t3 : List (List AV)) (t4 : List (List AV)) (t5 : Nat) (t6 : Int) (t7 : Int) (t8 : Int) (m11 : List (List AV)) : Int := match r47aa t2 t3 t4 t5 t6 t7 t8 m11 with
  | some (.x0 t8 _) => t8
  | _ => default
noncomputable def v47aa_0_m11 (t2 : Int) (t3 : List (List AV)) (t4 : List (List AV)) (t5 : Nat) (t6 : Int) (t7 : Int) (t8 : Int) (m11 : List (List AV)) : List (List AV) := match r47aa t2 t3 t4 t5 t6 t7 t8 m11 with
  | some (.x0 _ m11) => m11
  | _ => default
noncomputable def l47aa (st : St) : Option (List (Bool × Ex × St)) := match normW Try.prog [(2, none), (3, none), (4, none), (5, none), (6, none), (7, none), (8, none)] 12 st with
  | some ([.i .i64 t2, .rs 3 t3, .rs 4 t4, .sl 11 0 t5, .i .i64 t6, .i .i64 t7, .i .i64 t8], [(0, .dead), (1, .dead), (2, .dead), (3, .dead), (4, .dead), (5, .dead), (6, .dead), (7, .dead), (8, .dead), (9, .dead), (10, .dead), (11, .row 3 m11)], 12, 70) => some [(i47aa_0 t2 t3 t4 t5 t6 t7 t8 m11, .ext 2, o47aa_0 t2 t3 t4 t5 t6 t7 (v47aa_0_t8 t2 t3 t4 t5 t6 t7 t8 m11) (v47aa_0_m11 t2 t3 t4 t5 t6 t7 t8 m11))]
  | _ => none
structure S47a where
  t6 : Int
  m11 : List (List AV)
inductive T47a where
  | x0 (t6 : Int) (m11 : List (List AV))
noncomputable def stp47a (t2 : Int) (t3 : List (List AV)) (t4 : List (List AV)) (t5 : Nat) (t6 : Int) (m11 : List (List AV)) : Lp S47a T47a :=
  cond (decide (t6 < (↑t4.length : Int))) (cond (inb t6 t5 && (0 + t6.toNat).blt m11.length) (cond ((0 + t6.toNat).blt m11.length) (cond (i47aa_0 t2 t3 t4 t5 t6 (IntKind.i64.wrap (↑(BitVec.ofInt 64 t6 &&& BitVec.ofInt 64 (IntKind.i64.wrap (0 - t6))).toNat : Int)) t6 (m11.set (0 + t6.toNat) (setCs (m11.getD (0 + t6.toNat) []) 0 [AV.i IntKind.i64 (↑t3.length : Int)]))) (.go ⟨IntKind.i64.wrap (t6 + 1), v47aa_0_m11 t2 t3 t4 t5 t6 (IntKind.i64.wrap (↑(BitVec.ofInt 64 t6 &&& BitVec.ofInt 64 (IntKind.i64.wrap (0 - t6))).toNat : Int)) t6 (m11.set (0 + t6.toNat) (setCs (m11.getD (0 + t6.toNat) []) 0 [AV.i IntKind.i64 (↑t3.length : Int)]))⟩) (.bad)) (.bad)) (.bad)) (.out (.x0 t6 m11))
noncomputable def o47a_0 (t2 : Int) (t3 : List (List AV)) (t4 : List (List AV)) (t5 : Nat) (t6 : Int) (m11 : List (List AV)) : St :=
  { t := [(2, .i .i64 t2), (3, .rs 3 t3), (4, .rs 4 t4), (5, .sl 11 0 t5), (6, .i .i64 t6)], m := [(0, .dead), (1, .dead), (2, .dead), (3, .dead), (4, .dead), (5, .dead), (6, .dead), (7, .dead), (8, .dead), (9, .dead), (10, .dead), (11, .row 3 m11)], nx := 12, nt := 70 }
noncomputable def ou47a (t2 : Int) (t3 : List (List AV)) (t4 : List (List AV)) (t5 : Nat) : T47a → Ex × St
  | .x0 t6 m11 => (.ext 0, o47a_0 t2 t3 t4 t5 t6 m11)
noncomputable def r47a (t2 : Int) (t3 : List (List AV)) (t4 : List (List AV)) (t5 : Nat) (t6 : Int) (m11 : List (List AV)) : Option T47a := run (fun x => stp47a t2 t3 t4 t5 x.t6 x.m11) (⟨t6, m11⟩ : S47a)
noncomputable def i47a_0 (t2 : Int) (t3 : List (List AV)) (t4 : List (List AV)) (t5 : Nat) (t6 : Int) (m11 : List (List AV)) : Bool := match r47a t2 t3 t4 t5 t6 m11 with
  | some (.x0 _ _) => true
  | _ => false
noncomputable def v47a_0_t6 (t2 : Int) (t3 : List (List AV)) (t4 : List (List AV)) (t5 : Nat) (t6 : Int) (m11 : List (List AV)) : Int := match r47a t2 t3 t4 t5 t6 m11 with
  | some (.x0 t6 _) => t6
  | _ => default
noncomputable def v47a_0_m11 (t2 : Int) (t3 : List (List AV)) (t4 : List (List AV)) (t5 : Nat) (t6 : Int) (m11 : List (List AV)) : List (List AV) := match r47a t2 t3 t4 t5 t6 m11 with
  | some (.x0 _ m11) => m11
  | _ => default
noncomputable def l47a (st : St) : Option (List (Bool × Ex × St)) := match normW Try.prog [(2, none), (3, none), (4, none), (5, none), (6, none)] 12 st with
  | some ([.i .i64 t2, .rs 3 t3, .rs 4 t4, .sl 11 0 t5, .i .i64 t6], [(0, .dead), (1, .dead), (2, .dead), (3, .dead), (4, .dead), (5, .dead), (6, .dead), (7, .dead), (8, .dead), (9, .dead), (10, .dead), (11, .row 3 m11)], 12, 70) => some [(i47a_0 t2 t3 t4 t5 t6 m11, .ext 0, o47a_0 t2 t3 t4 t5 (v47a_0_t6 t2 t3 t4 t5 t6 m11) (v47a_0_m11 t2 t3 t4 t5 t6 m11))]
  | _ => none
noncomputable def L47 : LSpec := fun p st => match p with
  | [false, true, true, true, false, false, true, false, false, true, false, true, true, true, true] => l47aa st
  | [false, true, false, true, true, true, true] => l47a st
  | _ => none
theorem is47aa_0 (t2 : Int) (t3 : List (List AV)) (t4 : List (List AV)) (t5 : Nat) (t6 : Int) (t7 : Int) (t8 : Int) (m11 : List (List AV)) (h : i47aa_0 t2 t3 t4 t5 t6 t7 t8 m11 = true) : r47aa t2 t3 t4 t5 t6 t7 t8 m11 = some (.x0 (v47aa_0_t8 t2 t3 t4 t5 t6 t7 t8 m11) (v47aa_0_m11 t2 t3 t4 t5 t6 t7 t8 m11)) := by
  unfold i47aa_0 at h
  unfold v47aa_0_t8 v47aa_0_m11
  generalize r47aa t2 t3 t4 t5 t6 t7 t8 m11 = r at h ⊢
  rcases r with _ | y
  · cases h
  · cases y <;> first | rfl | cases h
theorem round47aa (t2 : Int) (t3 : List (List AV)) (t4 : List (List AV)) (t5 : Nat) (t6 : Int) (t7 : Int) (t8 : Int) (m11 : List (List AV)) : round Try.prog Sj (ro 47) L47 lp47aa [false, true, true, true, false, false, true, false, false, true, false, true, true, true, true] [(2, none), (3, none), (4, none), (5, none), (6, none), (7, none), (8, none)] 12 (s47aa t2 t3 t4 t5 t6 t7 t8 m11) =
    cond (decide (t8 > 0)) (cond (IntKind.i64.wrap (↑(BitVec.ofInt 64 t8 &&& BitVec.ofInt 64 t7).toNat : Int) != 0) (cond (inb t8 t4.length) (cond (fB (t4.getD t8.toNat []) 0) (cond (inb t6 t5 && (0 + t6.toNat).blt m11.length) (cond ((0 + t6.toNat).blt m11.length) (cond (inb (IntKind.i64.wrap (t6 - t8)) t5 && (0 + (IntKind.i64.wrap (t6 - t8)).toNat).blt m11.length) (cond ((0 + (IntKind.i64.wrap (t6 - t8)).toNat).blt m11.length) (cond (inb t6 t5 && (0 + t6.toNat).blt m11.length) (cond ((0 + t6.toNat).blt m11.length) (some (.nrm, s47aa t2 t3 t4 t5 t6 t7 (IntKind.i64.wrap (↑(BitVec.ofInt 64 (IntKind.i64.wrap (t8 - 1)) &&& BitVec.ofInt 64 t6).toNat : Int)) (m11.set (0 + t6.toNat) (setCs (m11.getD (0 + t6.toNat) []) 0 [AV.i IntKind.i64 (bmin (fI (m11.getD (0 + t6.toNat) []) 0) (IntKind.i64.wrap (1 + fI (m11.getD (0 + (IntKind.i64.wrap (t6 - t8)).toNat) []) 0)))])))) (none)) (none)) (none)) (none)) (none)) (none)) (some (.nrm, s47aa t2 t3 t4 t5 t6 t7 (IntKind.i64.wrap (↑(BitVec.ofInt 64 (IntKind.i64.wrap (t8 - 1)) &&& BitVec.ofInt 64 t6).toNat : Int)) m11))) (none)) (some (.nrm, s47aa t2 t3 t4 t5 t6 t7 (IntKind.i64.wrap (↑(BitVec.ofInt 64 (IntKind.i64.wrap (t8 - 1)) &&& BitVec.ofInt 64 t6).toNat : Int)) m11))) (some (.ext 2, o47aa_0 t2 t3 t4 t5 t6 t7 t8 m11)) := by kernel_rfl
theorem rnd47aa (t2 : Int) (t3 : List (List AV)) (t4 : List (List AV)) (t5 : Nat) (t6 : Int) (t7 : Int) (x : S47aa) : round Try.prog Sj (ro 47) L47 lp47aa [false, true, true, true, false, false, true, false, false, true, false, true, true, true, true] [(2, none), (3, none), (4, none), (5, none), (6, none), (7, none), (8, none)] 12 ((fun x => s47aa t2 t3 t4 t5 t6 t7 x.t8 x.m11) x) = toR (fun x => s47aa t2 t3 t4 t5 t6 t7 x.t8 x.m11) (ou47aa t2 t3 t4 t5 t6 t7) (stp47aa t2 t3 t4 t5 t6 t7 x.t8 x.m11) := by
  refine (round47aa _ _ _ _ _ _ _ _ ).trans ?_
  unfold stp47aa
  simp only [toR_cond]
  rfl
theorem lok47aa {st : St} {outs : List (Bool × Ex × St)} {e : Ex} {s : St} (hl : l47aa st = some outs) (hch : Chosen outs e s) :
    ∃ keep nb, 0 ≤ nb ∧ LB Try.prog Sj (ro 47) L47 lp47aa [false, true, true, true, false, false, true, false, false, true, false, true, true, true, true] keep nb st e s := by
  unfold l47aa at hl
  split at hl
  · rename_i t2 t3 t4 t5 t6 t7 t8 m11 hno
    cases hl
    have hno := normW_norm hno
    refine ⟨_, _, ?_, .enter hno ?_⟩
    · decide
    have main := fun y h => LB_run (x := (⟨t8, m11⟩ : S47aa)) (y := y) (nb := 12) (fun y => by cases y <;> simp [ou47aa]) (rnd47aa t2 t3 t4 t5 t6 t7) h
    obtain ⟨x, hx, hg, rfl, rfl⟩ := chosen_any hch
    simp only [List.mem_cons, List.not_mem_nil, or_false] at hx
    subst hx
    exact main _ (is47aa_0 t2 t3 t4 t5 t6 t7 t8 m11 hg)
  · cases hl
theorem is47a_0 (t2 : Int) (t3 : List (List AV)) (t4 : List (List AV)) (t5 : Nat) (t6 : Int) (m11 : List (List AV)) (h : i47a_0 t2 t3 t4 t5 t6 m11 = true) : r47a t2 t3 t4 t5 t6 m11 = some (.x0 (v47a_0_t6 t2 t3 t4 t5 t6 m11) (v47a_0_m11 t2 t3 t4 t5 t6 m11)) := by
  unfold i47a_0 at h
  unfold v47a_0_t6 v47a_0_m11
  generalize r47a t2 t3 t4 t5 t6 m11 = r at h ⊢
  rcases r with _ | y
  · cases h
  · cases y <;> first | rfl | cases h
theorem round47a (t2 : Int) (t3 : List (List AV)) (t4 : List (List AV)) (t5 : Nat) (t6 : Int) (m11 : List (List AV)) : round Try.prog Sj (ro 47) L47 lp47a [false, true, false, true, true, true, true] [(2, none), (3, none), (4, none), (5, none), (6, none)] 12 (s47a t2 t3 t4 t5 t6 m11) =
    cond (decide (t6 < (↑t4.length : Int))) (cond (inb t6 t5 && (0 + t6.toNat).blt m11.length) (cond ((0 + t6.toNat).blt m11.length) (cond (i47aa_0 t2 t3 t4 t5 t6 (IntKind.i64.wrap (↑(BitVec.ofInt 64 t6 &&& BitVec.ofInt 64 (IntKind.i64.wrap (0 - t6))).toNat : Int)) t6 (m11.set (0 + t6.toNat) (setCs (m11.getD (0 + t6.toNat) []) 0 [AV.i IntKind.i64 (↑t3.length : Int)]))) (some (.nrm, s47a t2 t3 t4 t5 (IntKind.i64.wrap (t6 + 1)) (v47aa_0_m11 t2 t3 t4 t5 t6 (IntKind.i64.wrap (↑(BitVec.ofInt 64 t6 &&& BitVec.ofInt 64 (IntKind.i64.wrap (0 - t6))).toNat : Int)) t6 (m11.set (0 + t6.toNat) (setCs (m11.getD (0 + t6.toNat) []) 0 [AV.i IntKind.i64 (↑t3.length : Int)]))))) (none)) (none)) (none)) (some (.ext 0, o47a_0 t2 t3 t4 t5 t6 m11)) := by kernel_rfl
theorem rnd47a (t2 : Int) (t3 : List (List AV)) (t4 : List (List AV)) (t5 : Nat) (x : S47a) : round Try.prog Sj (ro 47) L47 lp47a [false, true, false, true, true, true, true] [(2, none), (3, none), (4, none), (5, none), (6, none)] 12 ((fun x => s47a t2 t3 t4 t5 x.t6 x.m11) x) = toR (fun x => s47a t2 t3 t4 t5 x.t6 x.m11) (ou47a t2 t3 t4 t5) (stp47a t2 t3 t4 t5 x.t6 x.m11) := by
  refine (round47a _ _ _ _ _ _ ).trans ?_
  unfold stp47a
  simp only [toR_cond]
  rfl
theorem lok47a {st : St} {outs : List (Bool × Ex × St)} {e : Ex} {s : St} (hl : l47a st = some outs) (hch : Chosen outs e s) :
    ∃ keep nb, 0 ≤ nb ∧ LB Try.prog Sj (ro 47) L47 lp47a [false, true, false, true, true, true, true] keep nb st e s := by
  unfold l47a at hl
  split at hl
  · rename_i t2 t3 t4 t5 t6 m11 hno
    cases hl
    have hno := normW_norm hno
    refine ⟨_, _, ?_, .enter hno ?_⟩
    · decide
    have main := fun y h => LB_run (x := (⟨t6, m11⟩ : S47a)) (y := y) (nb := 12) (fun y => by cases y <;> simp [ou47a]) (rnd47a t2 t3 t4 t5) h
    obtain ⟨x, hx, hg, rfl, rfl⟩ := chosen_any hch
    simp only [List.mem_cons, List.not_mem_nil, or_false] at hx
    subst hx
    exact main _ (is47a_0 t2 t3 t4 t5 t6 m11 hg)
  · cases hl
theorem L47_ok (q : Pl) (c : Code) (hq : locate c47 q.reverse = some (.loop c)) (st : St) (outs : List (Bool × Ex × St)) (e : Ex) (s : St) (hl : L47 q st = some outs) (hch : Chosen outs e s) :
    ∃ keep nb, 0 ≤ nb ∧ LB Try.prog Sj (ro 47) L47 c q keep nb st e s := by
  unfold L47 at hl
  split at hl
  · have : locate c47 ([false, true, true, true, false, false, true, false, false, true, false, true, true, true, true] : Pl).reverse = some (.loop lp47aa) := by kernel_rfl
    rw [this] at hq
    cases hq
    exact lok47aa hl hch
  · have : locate c47 ([false, true, false, true, true, true, true] : Pl).reverse = some (.loop lp47a) := by kernel_rfl
    rw [this] at hq
    cases hq
    exact lok47a hl hch
  · cases hl
theorem lok47 : LOK Try.prog Sj (ro 47) L47 0 false c47 [] :=
  lok_lo L47_ok c47 [] false (locate_nil _) (by kernel_rfl)
noncomputable def t47 (da db : Int) (cs : List (List AV)) : Tr ((Int)) :=
  .cn (g79 da db cs) (.cn (g80 da db cs (w79_0 da db cs)) (.cn (decide ((↑(w80_0 da db cs (w79_0 da db cs)).length : Int) = (↑(w80_0 da db cs (w79_0 da db cs)).length : Int)) && (decide (0 ≤ (↑(w80_0 da db cs (w79_0 da db cs)).length : Int)) && decide ((↑(w80_0 da db cs (w79_0 da db cs)).length : Int) * (↑8 : Int) ≤ 140737488355328) && decide ((↑(w80_0 da db cs (w79_0 da db cs)).length : Int) ≤ 9223372036854775807))) (.cn (i47a_0 0 (w79_0 da db cs) (w80_0 da db cs (w79_0 da db cs)) (↑(w80_0 da db cs (w79_0 da db cs)).length : Int).toNat 1 (List.replicate (↑(w80_0 da db cs (w79_0 da db cs)).length : Int).toNat [AV.i IntKind.i64 0])) (.cn (inb (IntKind.i64.wrap ((↑(w80_0 da db cs (w79_0 da db cs)).length : Int) - 1)) (↑(w80_0 da db cs (w79_0 da db cs)).length : Int).toNat && (0 + (IntKind.i64.wrap ((↑(w80_0 da db cs (w79_0 da db cs)).length : Int) - 1)).toNat).blt (v47a_0_m11 0 (w79_0 da db cs) (w80_0 da db cs (w79_0 da db cs)) (↑(w80_0 da db cs (w79_0 da db cs)).length : Int).toNat 1 (List.replicate (↑(w80_0 da db cs (w79_0 da db cs)).length : Int).toNat [AV.i IntKind.i64 0])).length) (.cn ((0 + (IntKind.i64.wrap ((↑(w80_0 da db cs (w79_0 da db cs)).length : Int) - 1)).toNat).blt (v47a_0_m11 0 (w79_0 da db cs) (w80_0 da db cs (w79_0 da db cs)) (↑(w80_0 da db cs (w79_0 da db cs)).length : Int).toNat 1 (List.replicate (↑(w80_0 da db cs (w79_0 da db cs)).length : Int).toNat [AV.i IntKind.i64 0])).length) (.lf (fI ((v47a_0_m11 0 (w79_0 da db cs) (w80_0 da db cs (w79_0 da db cs)) (↑(w80_0 da db cs (w79_0 da db cs)).length : Int).toNat 1 (List.replicate (↑(w80_0 da db cs (w79_0 da db cs)).length : Int).toNat [AV.i IntKind.i64 0])).getD (0 + (IntKind.i64.wrap ((↑(w80_0 da db cs (w79_0 da db cs)).length : Int) - 1)).toNat) []) 0)) (.nn)) (.nn)) (.nn)) (.nn)) (.nn)) (.nn)
noncomputable def g47 (da db : Int) (cs : List (List AV)) : Bool := (t47 da db cs).g
noncomputable def w47_0 (da db : Int) (cs : List (List AV)) : Int := (t47 da db cs).val
theorem eq47 (da db : Int) (cs : List (List AV)) : evF Try.prog Sj (ro 47) L47 Try.f47 [.agg [.i .i64 da, .i .i64 db, .rs 64 cs]] = (t47 da db cs).opt (fun (x : (Int)) => (.i .i64 x : AV)) := by kernel_rfl
theorem con47 (da db : Int) (cs : List (List AV)) (h : g47 da db cs = true) : Con Try.prog 47 [.agg [.i .i64 da, .i .i64 db, .rs 64 cs]] [] (.i .i64 (w47_0 da db cs)) [] :=
  con_of Sj_ok mixed Try.func47 (c := c47) rfl (names 47 _ Try.func47) lok47 ((eq47 da db cs).trans (Tr.sound _ _ h))
noncomputable def e47 (args : List AV) (rows : List Blk) : Option (Bool × AV × List Blk) := match args, rows with
  | [.agg [.i .i64 da, .i .i64 db, .rs 64 cs]], [] => some (g47 da db cs, .i .i64 (w47_0 da db cs), [])
  | _, _ => none
theorem e47_ok (args : List AV) (rows : List Blk) (pre : Bool) (v : AV) (rows' : List Blk) (h : e47 args rows = some (pre, v, rows')) (hp : pre = true) : Con Try.prog 47 args rows v rows' := by
  unfold e47 at h
  split at h
  · cases h; exact con47 _ _ _ hp
  · cases h
-- SPEC 47
end Go.Proofs.Ytgifjphinkbcaaa

set_option maxRecDepth 100000
set_option linter.unusedVariables false
namespace Go.Proofs.Ytgifjphinkbcaaa
open Go Go.Ev
noncomputable def Sk : Ev.Spec := insS 47 e47 (insS 58 e58 (Sj))
theorem Sk_ok : SpecOK Try.prog Sk := insS_ok e47_ok (insS_ok e58_ok (Sj_ok))
end Go.Proofs.Ytgifjphinkbcaaa

set_option maxRecDepth 100000
set_option maxHeartbeats 1000000
set_option linter.unusedVariables false
namespace Go.Proofs.Ytgifjphinkbcaaa
open Go Go.Ev

/-! ### ridge.bound -/
noncomputable def c56 : Code := match Try.f56.body with | some c => c | _ => .skip
noncomputable def as56a : Code := rangeA c56 [true, true, true, true, true, false, true, false]
noncomputable def bd56a : Code := rangeB c56 [true, true, true, true, true, false, true, false]
noncomputable def s56a (t4 : Int) (t6 : Int) (t19_0 : Int) (t19_1 : Int) (t19_2 : List (List AV)) (t19_3 : Int) (t19_4 : Int) (t19_5 : Int) (t19_6 : Int) (t19_7 : Int) (t19_8 : Int) (t19_9 : Int) (t19_10 : Int) (ws : List (List AV)) (m13 : Int) : St :=
  { t := [(4, .i .i64 t4), (5, .p 4 0 0), (6, .i .i64 t6), (7, .p 13 0 0), (19, .fn 88 [.rp [.int .i64, .int .i64, .sl 64] [.i .i64 t19_0, .i .i64 t19_1, .rs 64 t19_2] 0, .rp [.int .i64, .int .i64, .int .i64, .int .i64, .int .i64, .int .i64, .int .i64, .int .i64] [.i .i64 t19_3, .i .i64 t19_4, .i .i64 t19_5, .i .i64 t19_6, .i .i64 t19_7, .i .i64 t19_8, .i .i64 t19_9, .i .i64 t19_10] 0])], m := [(0, .dead), (1, .dead), (2, .dead), (3, .dead), (4, .row 118 [[.fn 82 [.rp [.sl 3] [.rs 3 ws] 0]]]), (5, .dead), (6, .dead), (7, .dead), (8, .dead), (9, .dead), (10, .dead), (11, .dead), (12, .dead), (13, .row 3 [[.i .i64 m13]]), (14, .dead), (15, .dead), (16, .dead), (17, .dead), (18, .dead)], nx := 19, nt := 32 }
structure S56a where
  m13 : Int
inductive T56a where
noncomputable def stp56a (t4 : Int) (t6 : Int) (t19_0 : Int) (t19_1 : Int) (t19_2 : List (List AV)) (t19_3 : Int) (t19_4 : Int) (t19_5 : Int) (t19_6 : Int) (t19_7 : Int) (t19_8 : Int) (t19_9 : Int) (t19_10 : Int) (ws : List (List AV)) (m13 : Int) (it : List AV) : Lp S56a T56a :=
  cond (g82 ws (fI it 0) (fI it 1) (fI it 2) (fI it 3) (fI it 4) (fI it 5) (fI it 6) (fI it 7)) (.go ⟨bmax m13 (w82_0 ws (fI it 0) (fI it 1) (fI it 2) (fI it 3) (fI it 4) (fI it 5) (fI it 6) (fI it 7))⟩) (.bad)
noncomputable def ou56a (t4 : Int) (t6 : Int) (t19_0 : Int) (t19_1 : Int) (t19_2 : List (List AV)) (t19_3 : Int) (t19_4 : Int) (t19_5 : Int) (t19_6 : Int) (t19_7 : Int) (t19_8 : Int) (t19_9 : Int) (t19_10 : Int) (ws : List (List AV)) : T56a → Ex × St := fun y => nomatch y
noncomputable def r56a (t4 : Int) (t6 : Int) (t19_0 : Int) (t19_1 : Int) (t19_2 : List (List AV)) (t19_3 : Int) (t19_4 : Int) (t19_5 : Int) (t19_6 : Int) (t19_7 : Int) (t19_8 : Int) (t19_9 : Int) (t19_10 : Int) (ws : List (List AV)) (m13 : Int) (da' db' : Int) (cs' : List (List AV)) (q0 q1 q2 q3 q4 q5 q6 q7 : Int) : Option (Sum S56a T56a) := iterR (fun x it => stp56a t4 t6 t19_0 t19_1 t19_2 t19_3 t19_4 t19_5 t19_6 t19_7 t19_8 t19_9 t19_10 ws x.m13 it) (patX da' db' cs' q0 q1 q2 q3 q4 q5 q6 q7) (⟨m13⟩ : S56a)
noncomputable def i56a_0 (t4 : Int) (t6 : Int) (t19_0 : Int) (t19_1 : Int) (t19_2 : List (List AV)) (t19_3 : Int) (t19_4 : Int) (t19_5 : Int) (t19_6 : Int) (t19_7 : Int) (t19_8 : Int) (t19_9 : Int) (t19_10 : Int) (ws : List (List AV)) (m13 : Int) (da' db' : Int) (cs' : List (List AV)) (q0 q1 q2 q3 q4 q5 q6 q7 : Int) : Bool := match r56a t4 t6 t19_0 t19_1 t19_2 t19_3 t19_4 t19_5 t19_6 t19_7 t19_8 t19_9 t19_10 ws m13 da' db' cs' q0 q1 q2 q3 q4 q5 q6 q7 with
  | some (.inl ⟨_⟩) => true
  | _ => false
noncomputable def v56a_0_m13 (t4 : Int) (t6 : Int) (t19_0 : Int) (t19_1 : Int) (t19_2 : List (List AV)) (t19_3 : Int) (t19_4 : Int) (t19_5 : Int) (t19_6 : Int) (t19_7 : Int) (t19_8 : Int) (t19_9 : Int) (t19_10 : Int) (ws : List (List AV)) (m13 : Int) (da' db' : Int) (cs' : List (List AV)) (q0 q1 q2 q3 q4 q5 q6 q7 : Int) : Int := match r56a t4 t6 t19_0 t19_1 t19_2 t19_3 t19_4 t19_5 t19_6 t19_7 t19_8 t19_9 t19_10 ws m13 da' db' cs' q0 q1 q2 q3 q4 q5 q6 q7 with
  | some (.inl ⟨m13⟩) => m13
  | _ => default
noncomputable def l56a (st : St) : Option (List (Bool × Ex × St)) := match normV Try.prog [(4, none), (5, none), (6, none), (7, none), (19, none)] 19 st, gt st.t 19 with
  | some ([.i .i64 t4, .p 4 0 0, .i .i64 t6, .p 13 0 0, .fn 88 [.rp [.int .i64, .int .i64, .sl 64] [.i .i64 t19_0, .i .i64 t19_1, .rs 64 t19_2] 0, .rp [.int .i64, .int .i64, .int .i64, .int .i64, .int .i64, .int .i64, .int .i64, .int .i64] [.i .i64 t19_3, .i .i64 t19_4, .i .i64 t19_5, .i .i64 t19_6, .i .i64 t19_7, .i .i64 t19_8, .i .i64 t19_9, .i .i64 t19_10] 0]], [(0, .dead), (1, .dead), (2, .dead), (3, .dead), (4, .row 118 [[.fn 82 [.rp [.sl 3] [.rs 3 ws] 0]]]), (5, .dead), (6, .dead), (7, .dead), (8, .dead), (9, .dead), (10, .dead), (11, .dead), (12, .dead), (13, .row 3 [[.i .i64 m13]]), (14, .dead), (15, .dead), (16, .dead), (17, .dead), (18, .dead)], 19, 32), .fn 88 [.rp [.int .i64, .int .i64, .sl 64] [.i .i64 da', .i .i64 db', .rs 64 cs'] 0, .rp [.int .i64, .int .i64, .int .i64, .int .i64, .int .i64, .int .i64, .int .i64, .int .i64] [.i .i64 q0, .i .i64 q1, .i .i64 q2, .i .i64 q3, .i .i64 q4, .i .i64 q5, .i .i64 q6, .i .i64 q7] 0] => some [(okP da' db' cs' q0 q1 q2 q3 q4 q5 q6 q7 && i56a_0 t4 t6 t19_0 t19_1 t19_2 t19_3 t19_4 t19_5 t19_6 t19_7 t19_8 t19_9 t19_10 ws m13 da' db' cs' q0 q1 q2 q3 q4 q5 q6 q7, .nrm, s56a t4 t6 t19_0 t19_1 t19_2 t19_3 t19_4 t19_5 t19_6 t19_7 t19_8 t19_9 t19_10 ws (v56a_0_m13 t4 t6 t19_0 t19_1 t19_2 t19_3 t19_4 t19_5 t19_6 t19_7 t19_8 t19_9 t19_10 ws m13 da' db' cs' q0 q1 q2 q3 q4 q5 q6 q7))]
  | _, _ => none
noncomputable def L56 : LSpec := fun p st => match p with
  | [false, true, false, true, true, true, true, true] => l56a st
  | _ => none
theorem is56a_0 (t4 : Int) (t6 : Int) (t19_0 : Int) (t19_1 : Int) (t19_2 : List (List AV)) (t19_3 : Int) (t19_4 : Int) (t19_5 : Int) (t19_6 : Int) (t19_7 : Int) (t19_8 : Int) (t19_9 : Int) (t19_10 : Int) (ws : List (List AV)) (m13 : Int) (da' db' : Int) (cs' : List (List AV)) (q0 q1 q2 q3 q4 q5 q6 q7 : Int) (h : i56a_0 t4 t6 t19_0 t19_1 t19_2 t19_3 t19_4 t19_5 t19_6 t19_7 t19_8 t19_9 t19_10 ws m13 da' db' cs' q0 q1 q2 q3 q4 q5 q6 q7 = true) : r56a t4 t6 t19_0 t19_1 t19_2 t19_3 t19_4 t19_5 t19_6 t19_7 t19_8 t19_9 t19_10 ws m13 da' db' cs' q0 q1 q2 q3 q4 q5 q6 q7 = some (.inl ⟨(v56a_0_m13 t4 t6 t19_0 t19_1 t19_2 t19_3 t19_4 t19_5 t19_6 t19_7 t19_8 t19_9 t19_10 ws m13 da' db' cs' q0 q1 q2 q3 q4 q5 q6 q7)⟩) := by
  unfold i56a_0 at h
  unfold v56a_0_m13
  generalize r56a t4 t6 t19_0 t19_1 t19_2 t19_3 t19_4 t19_5 t19_6 t19_7 t19_8 t19_9 t19_10 ws m13 da' db' cs' q0 q1 q2 q3 q4 q5 q6 q7 = r at h ⊢
  rcases r with _ | y
  · cases h
  · rcases y with y | y <;> first | rfl | (cases h; done) | (cases y <;> first | rfl | cases h)
theorem round56a (t4 : Int) (t6 : Int) (t19_0 : Int) (t19_1 : Int) (t19_2 : List (List AV)) (t19_3 : Int) (t19_4 : Int) (t19_5 : Int) (t19_6 : Int) (t19_7 : Int) (t19_8 : Int) (t19_9 : Int) (t19_10 : Int) (ws : List (List AV)) (m13 : Int) (it : List AV) : roundF Try.prog Sk (ro 56) L56 [20] as56a bd56a [false, true, false, true, true, true, true, true] 19 (s56a t4 t6 t19_0 t19_1 t19_2 t19_3 t19_4 t19_5 t19_6 t19_7 t19_8 t19_9 t19_10 ws m13) (enc8 it) =
    cond (g82 ws (fI it 0) (fI it 1) (fI it 2) (fI it 3) (fI it 4) (fI it 5) (fI it 6) (fI it 7)) (some (.nrm, s56a t4 t6 t19_0 t19_1 t19_2 t19_3 t19_4 t19_5 t19_6 t19_7 t19_8 t19_9 t19_10 ws (bmax m13 (w82_0 ws (fI it 0) (fI it 1) (fI it 2) (fI it 3) (fI it 4) (fI it 5) (fI it 6) (fI it 7))))) (none) := by kernel_rfl
theorem rnd56a (t4 : Int) (t6 : Int) (t19_0 : Int) (t19_1 : Int) (t19_2 : List (List AV)) (t19_3 : Int) (t19_4 : Int) (t19_5 : Int) (t19_6 : Int) (t19_7 : Int) (t19_8 : Int) (t19_9 : Int) (t19_10 : Int) (ws : List (List AV)) (x : S56a) (it : List AV) : roundF Try.prog Sk (ro 56) L56 [20] as56a bd56a [false, true, false, true, true, true, true, true] 19 ((fun x => s56a t4 t6 t19_0 t19_1 t19_2 t19_3 t19_4 t19_5 t19_6 t19_7 t19_8 t19_9 t19_10 ws x.m13) x) (enc8 it) = toR (fun x => s56a t4 t6 t19_0 t19_1 t19_2 t19_3 t19_4 t19_5 t19_6 t19_7 t19_8 t19_9 t19_10 ws x.m13) (ou56a t4 t6 t19_0 t19_1 t19_2 t19_3 t19_4 t19_5 t19_6 t19_7 t19_8 t19_9 t19_10 ws) (stp56a t4 t6 t19_0 t19_1 t19_2 t19_3 t19_4 t19_5 t19_6 t19_7 t19_8 t19_9 t19_10 ws x.m13 it) := by
  refine (round56a _ _ _ _ _ _ _ _ _ _ _ _ _ _ _ _ ).trans ?_
  unfold stp56a
  simp only [toR_cond]
  rfl
theorem lok56a {st : St} {outs : List (Bool × Ex × St)} {e : Ex} {s : St} {lo : Nat} (hlo : lo ≤ st.nx) (hl : l56a st = some outs) (hch : Chosen outs e s) :
    ∃ keep nb, lo ≤ nb ∧ RB Try.prog Sk (ro 56) L56 (.tmp 19) [20] as56a bd56a [false, true, false, true, true, true, true, true] keep nb st e s := by
  unfold l56a at hl
  split at hl
  · rename_i t4 t6 t19_0 t19_1 t19_2 t19_3 t19_4 t19_5 t19_6 t19_7 t19_8 t19_9 t19_10 ws m13 da' db' cs' q0 q1 q2 q3 q4 q5 q6 q7 hno hgf
    cases hl
    obtain ⟨hnx, hno⟩ := normV_norm hno
    obtain ⟨x, hx, hg, rfl, rfl⟩ := chosen_any hch
    simp only [List.mem_cons, List.not_mem_nil, or_false] at hx
    subst hx
    have hgg := (Bool.and_eq_true_iff.1 hg).1
    have main := fun y h => rounds_iter (x := (⟨m13⟩ : S56a)) (y := y) (nb := 19) (fun y => by cases y <;> simp [ou56a]) (rnd56a t4 t6 t19_0 t19_1 t19_2 t19_3 t19_4 t19_5 t19_6 t19_7 t19_8 t19_9 t19_10 ws) (xs := patX da' db' cs' q0 q1 q2 q3 q4 q5 q6 q7) h
    refine ⟨_, _, hnx ▸ hlo, _, _, (patX da' db' cs' q0 q1 q2 q3 q4 q5 q6 q7).map enc8, _, hgf, by kernel_rfl, patX_con hgg, fun x hx => enc8_len hx, fun q hq => ?_, hno, rfl, ?_⟩
    · have hn := norm_nt hno
      simp only [List.mem_cons, List.not_mem_nil, or_false] at hq
      subst hq
      rw [← hn]
      exact Nat.le_of_ble_eq_true rfl
    rw [show liveOnly Try.prog { t := (([(4, none), (5, none), (6, none), (7, none), (19, none)] : List (Nat × Option TypeId)).map Prod.fst).zip [.i .i64 t4, .p 4 0 0, .i .i64 t6, .p 13 0 0, .fn 88 [.rp [.int .i64, .int .i64, .sl 64] [.i .i64 t19_0, .i .i64 t19_1, .rs 64 t19_2] 0, .rp [.int .i64, .int .i64, .int .i64, .int .i64, .int .i64, .int .i64, .int .i64, .int .i64] [.i .i64 t19_3, .i .i64 t19_4, .i .i64 t19_5, .i .i64 t19_6, .i .i64 t19_7, .i .i64 t19_8, .i .i64 t19_9, .i .i64 t19_10] 0]], m := [(0, .dead), (1, .dead), (2, .dead), (3, .dead), (4, .row 118 [[.fn 82 [.rp [.sl 3] [.rs 3 ws] 0]]]), (5, .dead), (6, .dead), (7, .dead), (8, .dead), (9, .dead), (10, .dead), (11, .dead), (12, .dead), (13, .row 3 [[.i .i64 m13]]), (14, .dead), (15, .dead), (16, .dead), (17, .dead), (18, .dead)], nx := 19, nt := 32 } = s56a t4 t6 t19_0 t19_1 t19_2 t19_3 t19_4 t19_5 t19_6 t19_7 t19_8 t19_9 t19_10 ws m13 from by kernel_rfl]
    exact main _ (is56a_0 t4 t6 t19_0 t19_1 t19_2 t19_3 t19_4 t19_5 t19_6 t19_7 t19_8 t19_9 t19_10 ws m13 da' db' cs' q0 q1 q2 q3 q4 q5 q6 q7 (Bool.and_eq_true_iff.1 hg).2)
  · cases hl
theorem L56_ok (q : Pl) (c : Code) (hq : locate c56 q.reverse = some (.loop c)) (lo : Nat) (st : St) (outs : List (Bool × Ex × St)) (e : Ex) (s : St) (hlo : lo ≤ st.nx) (hl : L56 q st = some outs) (hch : Chosen outs e s) :
    ∃ keep nb, lo ≤ nb ∧ LB Try.prog Sk (ro 56) L56 c q keep nb st e s := by
  unfold L56 at hl
  split at hl
  · have : locate c56 ([false, true, false, true, true, true, true, true] : Pl).reverse = some (.rangeFunc (.tmp 19) #[20] as56a bd56a) := by kernel_rfl
    rw [this] at hq
    cases hq
  · cases hl
theorem L56_okR (q : Pl) (g : Operand) (ps : Array Nat) (a b : Code) (hq : locate c56 q.reverse = some (.rangeFunc g ps a b)) (lo : Nat) (st : St) (outs : List (Bool × Ex × St)) (e : Ex) (s : St) (hlo : lo ≤ st.nx) (hl : L56 q st = some outs) (hch : Chosen outs e s) :
    ∃ keep nb, lo ≤ nb ∧ RB Try.prog Sk (ro 56) L56 g ps.toList a b q keep nb st e s := by
  unfold L56 at hl
  split at hl
  · have : locate c56 ([false, true, false, true, true, true, true, true] : Pl).reverse = some (.rangeFunc (.tmp 19) #[20] as56a bd56a) := by kernel_rfl
    rw [this] at hq
    cases hq
    exact lok56a hlo hl hch
  · cases hl
theorem lok56 : LOK Try.prog Sk (ro 56) L56 0 false c56 [] :=
  lok_gen L56_ok L56_okR c56 [] 0 false (locate_nil _) (by kernel_rfl)
noncomputable def t56 (da db : Int) (cs : List (List AV)) (ws : List (List AV)) : Tr ((Int)) :=
  .cn (g77 da db cs) (.cn (g82 ws (w77_0 da db cs) (w77_1 da db cs) (w77_2 da db cs) (w77_3 da db cs) (w77_4 da db cs) (w77_5 da db cs) (w77_6 da db cs) (w77_7 da db cs)) (.cn (w82_0 ws (w77_0 da db cs) (w77_1 da db cs) (w77_2 da db cs) (w77_3 da db cs) (w77_4 da db cs) (w77_5 da db cs) (w77_6 da db cs) (w77_7 da db cs) == 0) (.lf (0)) (.cn (g77 da db cs) (.cn (okP (w75_0 da db cs (w77_0 da db cs) (w77_1 da db cs) (w77_2 da db cs) (w77_3 da db cs) (w77_4 da db cs) (w77_5 da db cs) (w77_6 da db cs) (w77_7 da db cs)) (w75_1 da db cs (w77_0 da db cs) (w77_1 da db cs) (w77_2 da db cs) (w77_3 da db cs) (w77_4 da db cs) (w77_5 da db cs) (w77_6 da db cs) (w77_7 da db cs)) (w75_2 da db cs (w77_0 da db cs) (w77_1 da db cs) (w77_2 da db cs) (w77_3 da db cs) (w77_4 da db cs) (w77_5 da db cs) (w77_6 da db cs) (w77_7 da db cs)) (w75_3 da db cs (w77_0 da db cs) (w77_1 da db cs) (w77_2 da db cs) (w77_3 da db cs) (w77_4 da db cs) (w77_5 da db cs) (w77_6 da db cs) (w77_7 da db cs)) (w75_4 da db cs (w77_0 da db cs) (w77_1 da db cs) (w77_2 da db cs) (w77_3 da db cs) (w77_4 da db cs) (w77_5 da db cs) (w77_6 da db cs) (w77_7 da db cs)) (w75_5 da db cs (w77_0 da db cs) (w77_1 da db cs) (w77_2 da db cs) (w77_3 da db cs) (w77_4 da db cs) (w77_5 da db cs) (w77_6 da db cs) (w77_7 da db cs)) (w75_6 da db cs (w77_0 da db cs) (w77_1 da db cs) (w77_2 da db cs) (w77_3 da db cs) (w77_4 da db cs) (w77_5 da db cs) (w77_6 da db cs) (w77_7 da db cs)) (w75_7 da db cs (w77_0 da db cs) (w77_1 da db cs) (w77_2 da db cs) (w77_3 da db cs) (w77_4 da db cs) (w77_5 da db cs) (w77_6 da db cs) (w77_7 da db cs)) (w75_8 da db cs (w77_0 da db cs) (w77_1 da db cs) (w77_2 da db cs) (w77_3 da db cs) (w77_4 da db cs) (w77_5 da db cs) (w77_6 da db cs) (w77_7 da db cs)) (w75_9 da db cs (w77_0 da db cs) (w77_1 da db cs) (w77_2 da db cs) (w77_3 da db cs) (w77_4 da db cs) (w77_5 da db cs) (w77_6 da db cs) (w77_7 da db cs)) (w75_10 da db cs (w77_0 da db cs) (w77_1 da db cs) (w77_2 da db cs) (w77_3 da db cs) (w77_4 da db cs) (w77_5 da db cs) (w77_6 da db cs) (w77_7 da db cs)) && i56a_0 0 (w82_0 ws (w77_0 da db cs) (w77_1 da db cs) (w77_2 da db cs) (w77_3 da db cs) (w77_4 da db cs) (w77_5 da db cs) (w77_6 da db cs) (w77_7 da db cs)) (w75_0 da db cs (w77_0 da db cs) (w77_1 da db cs) (w77_2 da db cs) (w77_3 da db cs) (w77_4 da db cs) (w77_5 da db cs) (w77_6 da db cs) (w77_7 da db cs)) (w75_1 da db cs (w77_0 da db cs) (w77_1 da db cs) (w77_2 da db cs) (w77_3 da db cs) (w77_4 da db cs) (w77_5 da db cs) (w77_6 da db cs) (w77_7 da db cs)) (w75_2 da db cs (w77_0 da db cs) (w77_1 da db cs) (w77_2 da db cs) (w77_3 da db cs) (w77_4 da db cs) (w77_5 da db cs) (w77_6 da db cs) (w77_7 da db cs)) (w75_3 da db cs (w77_0 da db cs) (w77_1 da db cs) (w77_2 da db cs) (w77_3 da db cs) (w77_4 da db cs) (w77_5 da db cs) (w77_6 da db cs) (w77_7 da db cs)) (w75_4 da db cs (w77_0 da db cs) (w77_1 da db cs) (w77_2 da db cs) (w77_3 da db cs) (w77_4 da db cs) (w77_5 da db cs) (w77_6 da db cs) (w77_7 da db cs)) (w75_5 da db cs (w77_0 da db cs) (w77_1 da db cs) (w77_2 da db cs) (w77_3 da db cs) (w77_4 da db cs) (w77_5 da db cs) (w77_6 da db cs) (w77_7 da db cs)) (w75_6 da db cs (w77_0 da db cs) (w77_1 da db cs) (w77_2 da db cs) (w77_3 da db cs) (w77_4 da db cs) (w77_5 da db cs) (w77_6 da db cs) (w77_7 da db cs)) (w75_7 da db cs (w77_0 da db cs) (w77_1 da db cs) (w77_2 da db cs) (w77_3 da db cs) (w77_4 da db cs) (w77_5 da db cs) (w77_6 da db cs) (w77_7 da db cs)) (w75_8 da db cs (w77_0 da db cs) (w77_1 da db cs) (w77_2 da db cs) (w77_3 da db cs) (w77_4 da db cs) (w77_5 da db cs) (w77_6 da db cs) (w77_7 da db cs)) (w75_9 da db cs (w77_0 da db cs) (w77_1 da db cs) (w77_2 da db cs) (w77_3 da db cs) (w77_4 da db cs) (w77_5 da db cs) (w77_6 da db cs) (w77_7 da db cs)) (w75_10 da db cs (w77_0 da db cs) (w77_1 da db cs) (w77_2 da db cs) (w77_3 da db cs) (w77_4 da db cs) (w77_5 da db cs) (w77_6 da db cs) (w77_7 da db cs)) ws 0 (w75_0 da db cs (w77_0 da db cs) (w77_1 da db cs) (w77_2 da db cs) (w77_3 da db cs) (w77_4 da db cs) (w77_5 da db cs) (w77_6 da db cs) (w77_7 da db cs)) (w75_1 da db cs (w77_0 da db cs) (w77_1 da db cs) (w77_2 da db cs) (w77_3 da db cs) (w77_4 da db cs) (w77_5 da db cs) (w77_6 da db cs) (w77_7 da db cs)) (w75_2 da db cs (w77_0 da db cs) (w77_1 da db cs) (w77_2 da db cs) (w77_3 da db cs) (w77_4 da db cs) (w77_5 da db cs) (w77_6 da db cs) (w77_7 da db cs)) (w75_3 da db cs (w77_0 da db cs) (w77_1 da db cs) (w77_2 da db cs) (w77_3 da db cs) (w77_4 da db cs) (w77_5 da db cs) (w77_6 da db cs) (w77_7 da db cs)) (w75_4 da db cs (w77_0 da db cs) (w77_1 da db cs) (w77_2 da db cs) (w77_3 da db cs) (w77_4 da db cs) (w77_5 da db cs) (w77_6 da db cs) (w77_7 da db cs)) (w75_5 da db cs (w77_0 da db cs) (w77_1 da db cs) (w77_2 da db cs) (w77_3 da db cs) (w77_4 da db cs) (w77_5 da db cs) (w77_6 da db cs) (w77_7 da db cs)) (w75_6 da db cs (w77_0 da db cs) (w77_1 da db cs) (w77_2 da db cs) (w77_3 da db cs) (w77_4 da db cs) (w77_5 da db cs) (w77_6 da db cs) (w77_7 da db cs)) (w75_7 da db cs (w77_0 da db cs) (w77_1 da db cs) (w77_2 da db cs) (w77_3 da db cs) (w77_4 da db cs) (w77_5 da db cs) (w77_6 da db cs) (w77_7 da db cs)) (w75_8 da db cs (w77_0 da db cs) (w77_1 da db cs) (w77_2 da db cs) (w77_3 da db cs) (w77_4 da db cs) (w77_5 da db cs) (w77_6 da db cs) (w77_7 da db cs)) (w75_9 da db cs (w77_0 da db cs) (w77_1 da db cs) (w77_2 da db cs) (w77_3 da db cs) (w77_4 da db cs) (w77_5 da db cs) (w77_6 da db cs) (w77_7 da db cs)) (w75_10 da db cs (w77_0 da db cs) (w77_1 da db cs) (w77_2 da db cs) (w77_3 da db cs) (w77_4 da db cs) (w77_5 da db cs) (w77_6 da db cs) (w77_7 da db cs))) (.cn (decide (v56a_0_m13 0 (w82_0 ws (w77_0 da db cs) (w77_1 da db cs) (w77_2 da db cs) (w77_3 da db cs) (w77_4 da db cs) (w77_5 da db cs) (w77_6 da db cs) (w77_7 da db cs)) (w75_0 da db cs (w77_0 da db cs) (w77_1 da db cs) (w77_2 da db cs) (w77_3 da db cs) (w77_4 da db cs) (w77_5 da db cs) (w77_6 da db cs) (w77_7 da db cs)) (w75_1 da db cs (w77_0 da db cs) (w77_1 da db cs) (w77_2 da db cs) (w77_3 da db cs) (w77_4 da db cs) (w77_5 da db cs) (w77_6 da db cs) (w77_7 da db cs)) (w75_2 da db cs (w77_0 da db cs) (w77_1 da db cs) (w77_2 da db cs) (w77_3 da db cs) (w77_4 da db cs) (w77_5 da db cs) (w77_6 da db cs) (w77_7 da db cs)) (w75_3 da db cs (w77_0 da db cs) (w77_1 da db cs) (w77_2 da db cs) (w77_3 da db cs) (w77_4 da db cs) (w77_5 da db cs) (w77_6 da db cs) (w77_7 da db cs)) (w75_4 da db cs (w77_0 da db cs) (w77_1 da db cs) (w77_2 da db cs) (w77_3 da db cs) (w77_4 da db cs) (w77_5 da db cs) (w77_6 da db cs) (w77_7 da db cs)) (w75_5 da db cs (w77_0 da db cs) (w77_1 da db cs) (w77_2 da db cs) (w77_3 da db cs) (w77_4 da db cs) (w77_5 da db cs) (w77_6 da db cs) (w77_7 da db cs)) (w75_6 da db cs (w77_0 da db cs) (w77_1 da db cs) (w77_2 da db cs) (w77_3 da db cs) (w77_4 da db cs) (w77_5 da db cs) (w77_6 da db cs) (w77_7 da db cs)) (w75_7 da db cs (w77_0 da db cs) (w77_1 da db cs) (w77_2 da db cs) (w77_3 da db cs) (w77_4 da db cs) (w77_5 da db cs) (w77_6 da db cs) (w77_7 da db cs)) (w75_8 da db cs (w77_0 da db cs) (w77_1 da db cs) (w77_2 da db cs) (w77_3 da db cs) (w77_4 da db cs) (w77_5 da db cs) (w77_6 da db cs) (w77_7 da db cs)) (w75_9 da db cs (w77_0 da db cs) (w77_1 da db cs) (w77_2 da db cs) (w77_3 da db cs) (w77_4 da db cs) (w77_5 da db cs) (w77_6 da db cs) (w77_7 da db cs)) (w75_10 da db cs (w77_0 da db cs) (w77_1 da db cs) (w77_2 da db cs) (w77_3 da db cs) (w77_4 da db cs) (w77_5 da db cs) (w77_6 da db cs) (w77_7 da db cs)) ws 0 (w75_0 da db cs (w77_0 da db cs) (w77_1 da db cs) (w77_2 da db cs) (w77_3 da db cs) (w77_4 da db cs) (w77_5 da db cs) (w77_6 da db cs) (w77_7 da db cs)) (w75_1 da db cs (w77_0 da db cs) (w77_1 da db cs) (w77_2 da db cs) (w77_3 da db cs) (w77_4 da db cs) (w77_5 da db cs) (w77_6 da db cs) (w77_7 da db cs)) (w75_2 da db cs (w77_0 da db cs) (w77_1 da db cs) (w77_2 da db cs) (w77_3 da db cs) (w77_4 da db cs) (w77_5 da db cs) (w77_6 da db cs) (w77_7 da db cs)) (w75_3 da db cs (w77_0 da db cs) (w77_1 da db cs) (w77_2 da db cs) (w77_3 da db cs) (w77_4 da db cs) (w77_5 da db cs) (w77_6 da db cs) (w77_7 da db cs)) (w75_4 da db cs (w77_0 da db cs) (w77_1 da db cs) (w77_2 da db cs) (w77_3 da db cs) (w77_4 da db cs) (w77_5 da db cs) (w77_6 da db cs) (w77_7 da db cs)) (w75_5 da db cs (w77_0 da db cs) (w77_1 da db cs) (w77_2 da db cs) (w77_3 da db cs) (w77_4 da db cs) (w77_5 da db cs) (w77_6 da db cs) (w77_7 da db cs)) (w75_6 da db cs (w77_0 da db cs) (w77_1 da db cs) (w77_2 da db cs) (w77_3 da db cs) (w77_4 da db cs) (w77_5 da db cs) (w77_6 da db cs) (w77_7 da db cs)) (w75_7 da db cs (w77_0 da db cs) (w77_1 da db cs) (w77_2 da db cs) (w77_3 da db cs) (w77_4 da db cs) (w77_5 da db cs) (w77_6 da db cs) (w77_7 da db cs)) (w75_8 da db cs (w77_0 da db cs) (w77_1 da db cs) (w77_2 da db cs) (w77_3 da db cs) (w77_4 da db cs) (w77_5 da db cs) (w77_6 da db cs) (w77_7 da db cs)) (w75_9 da db cs (w77_0 da db cs) (w77_1 da db cs) (w77_2 da db cs) (w77_3 da db cs) (w77_4 da db cs) (w77_5 da db cs) (w77_6 da db cs) (w77_7 da db cs)) (w75_10 da db cs (w77_0 da db cs) (w77_1 da db cs) (w77_2 da db cs) (w77_3 da db cs) (w77_4 da db cs) (w77_5 da db cs) (w77_6 da db cs) (w77_7 da db cs)) = 0)) (.nn) (.lf (IntKind.i64.wrap ((IntKind.i64.wrap (IntKind.i64.wrap (w82_0 ws (w77_0 da db cs) (w77_1 da db cs) (w77_2 da db cs) (w77_3 da db cs) (w77_4 da db cs) (w77_5 da db cs) (w77_6 da db cs) (w77_7 da db cs) + v56a_0_m13 0 (w82_0 ws (w77_0 da db cs) (w77_1 da db cs) (w77_2 da db cs) (w77_3 da db cs) (w77_4 da db cs) (w77_5 da db cs) (w77_6 da db cs) (w77_7 da db cs)) (w75_0 da db cs (w77_0 da db cs) (w77_1 da db cs) (w77_2 da db cs) (w77_3 da db cs) (w77_4 da db cs) (w77_5 da db cs) (w77_6 da db cs) (w77_7 da db cs)) (w75_1 da db cs (w77_0 da db cs) (w77_1 da db cs) (w77_2 da db cs) (w77_3 da db cs) (w77_4 da db cs) (w77_5 da db cs) (w77_6 da db cs) (w77_7 da db cs)) (w75_2 da db cs (w77_0 da db cs) (w77_1 da db cs) (w77_2 da db cs) (w77_3 da db cs) (w77_4 da db cs) (w77_5 da db cs) (w77_6 da db cs) (w77_7 da db cs)) (w75_3 da db cs (w77_0 da db cs) (w77_1 da db cs) (w77_2 da db cs) (w77_3 da db cs) (w77_4 da db cs) (w77_5 da db cs) (w77_6 da db cs) (w77_7 da db cs)) (w75_4 da db cs (w77_0 da db cs) (w77_1 da db cs) (w77_2 da db cs) (w77_3 da db cs) (w77_4 da db cs) (w77_5 da db cs) (w77_6 da db cs) (w77_7 da db cs)) (w75_5 da db cs (w77_0 da db cs) (w77_1 da db cs) (w77_2 da db cs) (w77_3 da db cs) (w77_4 da db cs) (w77_5 da db cs) (w77_6 da db cs) (w77_7 da db cs)) (w75_6 da db cs (w77_0 da db cs) (w77_1 da db cs) (w77_2 da db cs) (w77_3 da db cs) (w77_4 da db cs) (w77_5 da db cs) (w77_6 da db cs) (w77_7 da db cs)) (w75_7 da db cs (w77_0 da db cs) (w77_1 da db cs) (w77_2 da db cs) (w77_3 da db cs) (w77_4 da db cs) (w77_5 da db cs) (w77_6 da db cs) (w77_7 da db cs)) (w75_8 da db cs (w77_0 da db cs) (w77_1 da db cs) (w77_2 da db cs) (w77_3 da db cs) (w77_4 da db cs) (w77_5 da db cs) (w77_6 da db cs) (w77_7 da db cs)) (w75_9 da db cs (w77_0 da db cs) (w77_1 da db cs) (w77_2 da db cs) (w77_3 da db cs) (w77_4 da db cs) (w77_5 da db cs) (w77_6 da db cs) (w77_7 da db cs)) (w75_10 da db cs (w77_0 da db cs) (w77_1 da db cs) (w77_2 da db cs) (w77_3 da db cs) (w77_4 da db cs) (w77_5 da db cs) (w77_6 da db cs) (w77_7 da db cs)) ws 0 (w75_0 da db cs (w77_0 da db cs) (w77_1 da db cs) (w77_2 da db cs) (w77_3 da db cs) (w77_4 da db cs) (w77_5 da db cs) (w77_6 da db cs) (w77_7 da db cs)) (w75_1 da db cs (w77_0 da db cs) (w77_1 da db cs) (w77_2 da db cs) (w77_3 da db cs) (w77_4 da db cs) (w77_5 da db cs) (w77_6 da db cs) (w77_7 da db cs)) (w75_2 da db cs (w77_0 da db cs) (w77_1 da db cs) (w77_2 da db cs) (w77_3 da db cs) (w77_4 da db cs) (w77_5 da db cs) (w77_6 da db cs) (w77_7 da db cs)) (w75_3 da db cs (w77_0 da db cs) (w77_1 da db cs) (w77_2 da db cs) (w77_3 da db cs) (w77_4 da db cs) (w77_5 da db cs) (w77_6 da db cs) (w77_7 da db cs)) (w75_4 da db cs (w77_0 da db cs) (w77_1 da db cs) (w77_2 da db cs) (w77_3 da db cs) (w77_4 da db cs) (w77_5 da db cs) (w77_6 da db cs) (w77_7 da db cs)) (w75_5 da db cs (w77_0 da db cs) (w77_1 da db cs) (w77_2 da db cs) (w77_3 da db cs) (w77_4 da db cs) (w77_5 da db cs) (w77_6 da db cs) (w77_7 da db cs)) (w75_6 da db cs (w77_0 da db cs) (w77_1 da db cs) (w77_2 da db cs) (w77_3 da db cs) (w77_4 da db cs) (w77_5 da db cs) (w77_6 da db cs) (w77_7 da db cs)) (w75_7 da db cs (w77_0 da db cs) (w77_1 da db cs) (w77_2 da db cs) (w77_3 da db cs) (w77_4 da db cs) (w77_5 da db cs) (w77_6 da db cs) (w77_7 da db cs)) (w75_8 da db cs (w77_0 da db cs) (w77_1 da db cs) (w77_2 da db cs) (w77_3 da db cs) (w77_4 da db cs) (w77_5 da db cs) (w77_6 da db cs) (w77_7 da db cs)) (w75_9 da db cs (w77_0 da db cs) (w77_1 da db cs) (w77_2 da db cs) (w77_3 da db cs) (w77_4 da db cs) (w77_5 da db cs) (w77_6 da db cs) (w77_7 da db cs)) (w75_10 da db cs (w77_0 da db cs) (w77_1 da db cs) (w77_2 da db cs) (w77_3 da db cs) (w77_4 da db cs) (w77_5 da db cs) (w77_6 da db cs) (w77_7 da db cs))) - 1)).tdiv (v56a_0_m13 0 (w82_0 ws (w77_0 da db cs) (w77_1 da db cs) (w77_2 da db cs) (w77_3 da db cs) (w77_4 da db cs) (w77_5 da db cs) (w77_6 da db cs) (w77_7 da db cs)) (w75_0 da db cs (w77_0 da db cs) (w77_1 da db cs) (w77_2 da db cs) (w77_3 da db cs) (w77_4 da db cs) (w77_5 da db cs) (w77_6 da db cs) (w77_7 da db cs)) (w75_1 da db cs (w77_0 da db cs) (w77_1 da db cs) (w77_2 da db cs) (w77_3 da db cs) (w77_4 da db cs) (w77_5 da db cs) (w77_6 da db cs) (w77_7 da db cs)) (w75_2 da db cs (w77_0 da db cs) (w77_1 da db cs) (w77_2 da db cs) (w77_3 da db cs) (w77_4 da db cs) (w77_5 da db cs) (w77_6 da db cs) (w77_7 da db cs)) (w75_3 da db cs (w77_0 da db cs) (w77_1 da db cs) (w77_2 da db cs) (w77_3 da db cs) (w77_4 da db cs) (w77_5 da db cs) (w77_6 da db cs) (w77_7 da db cs)) (w75_4 da db cs (w77_0 da db cs) (w77_1 da db cs) (w77_2 da db cs) (w77_3 da db cs) (w77_4 da db cs) (w77_5 da db cs) (w77_6 da db cs) (w77_7 da db cs)) (w75_5 da db cs (w77_0 da db cs) (w77_1 da db cs) (w77_2 da db cs) (w77_3 da db cs) (w77_4 da db cs) (w77_5 da db cs) (w77_6 da db cs) (w77_7 da db cs)) (w75_6 da db cs (w77_0 da db cs) (w77_1 da db cs) (w77_2 da db cs) (w77_3 da db cs) (w77_4 da db cs) (w77_5 da db cs) (w77_6 da db cs) (w77_7 da db cs)) (w75_7 da db cs (w77_0 da db cs) (w77_1 da db cs) (w77_2 da db cs) (w77_3 da db cs) (w77_4 da db cs) (w77_5 da db cs) (w77_6 da db cs) (w77_7 da db cs)) (w75_8 da db cs (w77_0 da db cs) (w77_1 da db cs) (w77_2 da db cs) (w77_3 da db cs) (w77_4 da db cs) (w77_5 da db cs) (w77_6 da db cs) (w77_7 da db cs)) (w75_9 da db cs (w77_0 da db cs) (w77_1 da db cs) (w77_2 da db cs) (w77_3 da db cs) (w77_4 da db cs) (w77_5 da db cs) (w77_6 da db cs) (w77_7 da db cs)) (w75_10 da db cs (w77_0 da db cs) (w77_1 da db cs) (w77_2 da db cs) (w77_3 da db cs) (w77_4 da db cs) (w77_5 da db cs) (w77_6 da db cs) (w77_7 da db cs)) ws 0 (w75_0 da db cs (w77_0 da db cs) (w77_1 da db cs) (w77_2 da db cs) (w77_3 da db cs) (w77_4 da db cs) (w77_5 da db cs) (w77_6 da db cs) (w77_7 da db cs)) (w75_1 da db cs (w77_0 da db cs) (w77_1 da db cs) (w77_2 da db cs) (w77_3 da db cs) (w77_4 da db cs) (w77_5 da db cs) (w77_6 da db cs) (w77_7 da db cs)) (w75_2 da db cs (w77_0 da db cs) (w77_1 da db cs) (w77_2 da db cs) (w77_3 da db cs) (w77_4 da db cs) (w77_5 da db cs) (w77_6 da db cs) (w77_7 da db cs)) (w75_3 da db cs (w77_0 da db cs) (w77_1 da db cs) (w77_2 da db cs) (w77_3 da db cs) (w77_4 da db cs) (w77_5 da db cs) (w77_6 da db cs) (w77_7 da db cs)) (w75_4 da db cs (w77_0 da db cs) (w77_1 da db cs) (w77_2 da db cs) (w77_3 da db cs) (w77_4 da db cs) (w77_5 da db cs) (w77_6 da db cs) (w77_7 da db cs)) (w75_5 da db cs (w77_0 da db cs) (w77_1 da db cs) (w77_2 da db cs) (w77_3 da db cs) (w77_4 da db cs) (w77_5 da db cs) (w77_6 da db cs) (w77_7 da db cs)) (w75_6 da db cs (w77_0 da db cs) (w77_1 da db cs) (w77_2 da db cs) (w77_3 da db cs) (w77_4 da db cs) (w77_5 da db cs) (w77_6 da db cs) (w77_7 da db cs)) (w75_7 da db cs (w77_0 da db cs) (w77_1 da db cs) (w77_2 da db cs) (w77_3 da db cs) (w77_4 da db cs) (w77_5 da db cs) (w77_6 da db cs) (w77_7 da db cs)) (w75_8 da db cs (w77_0 da db cs) (w77_1 da db cs) (w77_2 da db cs) (w77_3 da db cs) (w77_4 da db cs) (w77_5 da db cs) (w77_6 da db cs) (w77_7 da db cs)) (w75_9 da db cs (w77_0 da db cs) (w77_1 da db cs) (w77_2 da db cs) (w77_3 da db cs) (w77_4 da db cs) (w77_5 da db cs) (w77_6 da db cs) (w77_7 da db cs)) (w75_10 da db cs (w77_0 da db cs) (w77_1 da db cs) (w77_2 da db cs) (w77_3 da db cs) (w77_4 da db cs) (w77_5 da db cs) (w77_6 da db cs) (w77_7 da db cs))))))) (.nn)) (.nn))) (.nn)) (.nn)
noncomputable def g56 (da db : Int) (cs : List (List AV)) (ws : List (List AV)) : Bool := (t56 da db cs ws).g
noncomputable def w56_0 (da db : Int) (cs : List (List AV)) (ws : List (List AV)) : Int := (t56 da db cs ws).val
theorem eq56 (da db : Int) (cs : List (List AV)) (ws : List (List AV)) : evF Try.prog Sk (ro 56) L56 Try.f56 [.agg [.i .i64 da, .i .i64 db, .rs 64 cs], .rs 3 ws] = (t56 da db cs ws).opt (fun (x : (Int)) => (.i .i64 x : AV)) := by kernel_rfl
theorem con56 (da db : Int) (cs : List (List AV)) (ws : List (List AV)) (h : g56 da db cs ws = true) : Con Try.prog 56 [.agg [.i .i64 da, .i .i64 db, .rs 64 cs], .rs 3 ws] [] (.i .i64 (w56_0 da db cs ws)) [] :=
  con_of Sk_ok mixed Try.func56 (c := c56) rfl (names 56 _ Try.func56) lok56 ((eq56 da db cs ws).trans (Tr.sound _ _ h))
noncomputable def e56 (args : List AV) (rows : List Blk) : Option (Bool × AV × List Blk) := match args, rows with
  | [.agg [.i .i64 da, .i .i64 db, .rs 64 cs], .rs 3 ws], [] => some (g56 da db cs ws, .i .i64 (w56_0 da db cs ws), [])
  | _, _ => none
theorem e56_ok (args : List AV) (rows : List Blk) (pre : Bool) (v : AV) (rows' : List Blk) (h : e56 args rows = some (pre, v, rows')) (hp : pre = true) : Con Try.prog 56 args rows v rows' := by
  unfold e56 at h
  split at h
  · cases h; exact con56 _ _ _ _ hp
  · cases h
-- SPEC 56
end Go.Proofs.Ytgifjphinkbcaaa

set_option maxRecDepth 100000
set_option linter.unusedVariables false
namespace Go.Proofs.Ytgifjphinkbcaaa
open Go Go.Ev
/-! ### Weighing -/
def row8 (f : Nat → Int) : List AV := (List.range 8).map fun h => .i .i64 (f h)
theorem row8_get {f : Nat → Int} {h : Nat} (hh : h < 8) : fI (row8 f) h = f h := by
  show toI ((row8 f).getD h .u) = f h
  simp [row8, List.getD_eq_getElem?_getD, hh, toI]
theorem row8_set {f : Nat → Int} {h : Nat} {v : Int} (hh : h < 8) : (row8 f).set h (.i .i64 v) = row8 (upd f h v) := by
  apply List.ext_getElem
  · simp [row8]
  · intro i h1 h2
    have hi : i < 8 := by simpa [row8] using h1
    simp only [row8, List.getElem_set, List.getElem_map, List.getElem_range, upd]
    by_cases e : h = i
    · subst e; simp
    · simp [e, Ne.symm e]
theorem cts104 {A : Nat} (h : A < 8) : ctsAt (cts Try.prog 104) (0 + ((A : Nat) : Int).toNat * 1) (cts Try.prog 3) = true := by
  rcases A with _ | _ | _ | _ | _ | _ | _ | _ | A
  all_goals first | (exfalso; omega) | kernel_rfl
theorem cts8 {A : Nat} (h : A < 8) : ctsAt [CT.int IntKind.i64, CT.int IntKind.i64, CT.int IntKind.i64, CT.int IntKind.i64, CT.int IntKind.i64, CT.int IntKind.i64, CT.int IntKind.i64, CT.int IntKind.i64] (0 + ((A : Nat) : Int).toNat * 1) (cts Try.prog 3) = true := by
  rcases A with _ | _ | _ | _ | _ | _ | _ | _ | A
  all_goals first | (exfalso; omega) | kernel_rfl
def mw (cs : List (List AV)) (i : Nat) : Int := if i < cs.length then mn cs i else 0
def mwTo (cs : List (List AV)) (k i : Nat) : Int := if i < k then mn cs i else 0
theorem wanted_run {cs : List (List AV)} (hl : cs.length ≤ 8) : ∃ a, r77a cs (cs.length : Int) 0 0 0 0 0 0 0 0 0 (row8 fun _ => 0) = some (.x0 a (row8 (mw cs))) := by
  have run : ∃ y, r77a cs (cs.length : Int) 0 0 0 0 0 0 0 0 0 (row8 (mwTo cs 0)) = some y ∧ ∃ a, y = .x0 a (row8 (mw cs)) := by
    unfold r77a
    refine run_for (S := Unit) cs.length (fun k _ => (⟨(k : Int), row8 (mwTo cs k)⟩ : S77a)) (fun _ _ => True) (fun _ _ (y : T77a) => ∃ a, y = .x0 a (row8 (mw cs))) (fun k _ hk _ => ?_) (fun _ _ => ?_) 0 () (Nat.zero_le _) trivial
    · left
      refine ⟨(), ?_, trivial, fun y hy => hy⟩
      show stp77a cs (cs.length : Int) 0 0 0 0 0 0 0 0 (k : Int) (row8 (mwTo cs k)) = _
      unfold stp77a
      have h8 : k < 8 := by omega
      have c := cts104 h8
      have e0 : fI (cs.getD k []) 1 = mn cs k := rfl
      have e1 : Nat.blt 0 [row8 (mwTo cs k)].length = true := rfl
      have e2 : [row8 (mwTo cs k)].getD 0 [] = row8 (mwTo cs k) := rfl
      rw [lt_true hk, inb_true hk, inb_true h8, c, e1, e2, Int.toNat_natCast, e0, wrap_succ (by omega), Nat.zero_add, Nat.mul_one]
      have e3 : setCs (row8 (mwTo cs k)) k [AV.i IntKind.i64 (mn cs k)] = row8 (mwTo cs (k + 1)) := by
        show (row8 (mwTo cs k)).set k (.i .i64 (mn cs k)) = _
        rw [row8_set h8]
        congr 1
        funext i
        unfold upd mwTo
        by_cases e : i = k
        · subst e
          rw [if_pos rfl, if_pos (by omega)]
        · rw [if_neg e]
          by_cases h' : i < k
          · rw [if_pos h', if_pos (by omega)]
          · rw [if_neg h', if_neg (by omega)]
      rw [e3]
      rfl
    · refine ⟨.x0 (cs.length : Int) (row8 (mw cs)), ?_, _, rfl⟩
      show stp77a cs (cs.length : Int) 0 0 0 0 0 0 0 0 (cs.length : Int) (row8 (mwTo cs cs.length)) = _
      unfold stp77a
      rw [lt_false]; rfl
  obtain ⟨y, h1, a, h2⟩ := run
  refine ⟨a, ?_⟩
  have e : row8 (mwTo cs 0) = row8 fun _ => 0 := by
    congr 1
  rw [← e, h1, h2]
theorem wanted_val {da db : Int} {cs : List (List AV)} (hl : cs.length ≤ 8) : g77 da db cs = true ∧ w77_0 da db cs = mw cs 0 ∧ w77_1 da db cs = mw cs 1 ∧ w77_2 da db cs = mw cs 2 ∧ w77_3 da db cs = mw cs 3 ∧ w77_4 da db cs = mw cs 4 ∧ w77_5 da db cs = mw cs 5 ∧ w77_6 da db cs = mw cs 6 ∧ w77_7 da db cs = mw cs 7 := by
  obtain ⟨a, ha⟩ := wanted_run hl
  have ez : [AV.i IntKind.i64 0, AV.i IntKind.i64 0, AV.i IntKind.i64 0, AV.i IntKind.i64 0, AV.i IntKind.i64 0, AV.i IntKind.i64 0, AV.i IntKind.i64 0, AV.i IntKind.i64 0] = row8 fun _ => 0 := rfl
  unfold g77 w77_0 w77_1 w77_2 w77_3 w77_4 w77_5 w77_6 w77_7 t77 i77a_0 v77a_0_m2
  rw [ez, ha]
  exact ⟨rfl, rfl, rfl, rfl, rfl, rfl, rfl, rfl, rfl⟩
def wq (ws : List (List AV)) (q : Nat → Int) : Nat → Int
  | 0 => 0
  | n + 1 => wq ws q n + vv ws n * q n
theorem wX_wq (ws : List (List AV)) (X : List AV) : ∀ n, wX ws X n = wq ws (fun i => fI X i) n
  | 0 => rfl
  | n + 1 => by
    show wX ws X n + _ = wq ws _ n + _
    rw [wX_wq ws X n]
theorem wq_congr {ws : List (List AV)} {q r : Nat → Int} : ∀ {n : Nat}, (∀ i, i < n → q i = r i) → wq ws q n = wq ws r n
  | 0, _ => rfl
  | n + 1, h => by
    show wq ws q n + vv ws n * q n = wq ws r n + vv ws n * r n
    rw [wq_congr (n := n) (fun i hi => h i (by omega)), h n (by omega)]
theorem wq_bd {ws : List (List AV)} {q : Nat → Int} : ∀ {n : Nat}, (∀ i, i < n → 0 ≤ vv ws i ∧ vv ws i ≤ 1000000) → (∀ i, i < n → 0 ≤ q i ∧ q i ≤ 12) → 0 ≤ wq ws q n ∧ wq ws q n ≤ 12000000 * (n : Int)
  | 0, _, _ => ⟨Int.le_refl _, Int.le_refl _⟩
  | n + 1, h1, h2 => by
    have i1 := wq_bd (n := n) (fun i hi => h1 i (by omega)) (fun i hi => h2 i (by omega))
    obtain ⟨a1, a2⟩ := h1 n (by omega)
    obtain ⟨b1, b2⟩ := h2 n (by omega)
    have c1 : 0 ≤ vv ws n * q n := Int.mul_nonneg a1 b1
    have c2 : vv ws n * q n ≤ 1000000 * 12 := Int.mul_le_mul a2 b2 b1 (by omega)
    show 0 ≤ wq ws q n + vv ws n * q n ∧ wq ws q n + vv ws n * q n ≤ _
    omega
theorem q_get (q : Nat → Int) {i : Nat} (h : i < 8) : toI ([AV.i IntKind.i64 (q 0), AV.i IntKind.i64 (q 1), AV.i IntKind.i64 (q 2), AV.i IntKind.i64 (q 3), AV.i IntKind.i64 (q 4), AV.i IntKind.i64 (q 5), AV.i IntKind.i64 (q 6), AV.i IntKind.i64 (q 7)].getD (0 + ((i : Nat) : Int).toNat * 1) AV.u) = q i := by
  rcases i with _ | _ | _ | _ | _ | _ | _ | _ | i
  all_goals first | (exfalso; omega) | rfl
theorem weigh_val {ws : List (List AV)} (q : Nat → Int) (hw : ws.length ≤ 8) (hv : ∀ i, i < ws.length → 0 ≤ vv ws i ∧ vv ws i ≤ 1000000) (hq : ∀ i, i < ws.length → 0 ≤ q i ∧ q i ≤ 12) :
    g82 ws (q 0) (q 1) (q 2) (q 3) (q 4) (q 5) (q 6) (q 7) = true ∧ w82_0 ws (q 0) (q 1) (q 2) (q 3) (q 4) (q 5) (q 6) (q 7) = wq ws q ws.length := by
  have run : ∃ y, r82a (q 0) (q 1) (q 2) (q 3) (q 4) (q 5) (q 6) (q 7) 0 ws (ws.length : Int) 0 0 = some y ∧ ∃ a, y = .x0 (wq ws q ws.length) a := by
    unfold r82a
    refine run_for (S := Unit) ws.length (fun k _ => (⟨wq ws q k, (k : Int)⟩ : S82a)) (fun _ _ => True) (fun _ _ (y : T82a) => ∃ a, y = .x0 (wq ws q ws.length) a) (fun k _ hk _ => ?_) (fun _ _ => ?_) 0 () (Nat.zero_le _) trivial
    · left
      refine ⟨(), ?_, trivial, fun y hy => hy⟩
      show stp82a (q 0) (q 1) (q 2) (q 3) (q 4) (q 5) (q 6) (q 7) 0 ws (ws.length : Int) (wq ws q k) (k : Int) = _
      unfold stp82a
      have h8 : k < 8 := by omega
      have b1 := wq_bd (ws := ws) (q := q) (n := k) (fun i hi => hv i (by omega)) (fun i hi => hq i (by omega))
      obtain ⟨a1, a2⟩ := hv k hk
      obtain ⟨b3, b4⟩ := hq k hk
      have c1 : 0 ≤ vv ws k * q k := Int.mul_nonneg a1 b3
      have c2 : vv ws k * q k ≤ 1000000 * 12 := Int.mul_le_mul a2 b4 b3 (by omega)
      rw [lt_true hk, inb_true hk, inb_true h8, cts8 h8, q_get q h8, Int.toNat_natCast, wrap_succ (by omega)]
      have e0 : fI (ws.getD k []) 0 = vv ws k := rfl
      rw [e0, wrap64 (x := vv ws k * q k) (by omega) (by omega), wrap64 (by omega) (by omega)]
      rfl
    · refine ⟨.x0 (wq ws q ws.length) (ws.length : Int), ?_, _, rfl⟩
      show stp82a (q 0) (q 1) (q 2) (q 3) (q 4) (q 5) (q 6) (q 7) 0 ws (ws.length : Int) (wq ws q ws.length) (ws.length : Int) = _
      unfold stp82a
      rw [lt_false]; rfl
  obtain ⟨y, h1, a, h2⟩ := run
  unfold g82 w82_0 t82 i82a_0 v82a_0_t4
  rw [h1, h2]
  exact ⟨rfl, rfl⟩
theorem enc8_inj {X Y : List AV} (h : enc8 X = enc8 Y) : ∀ i, i < 8 → fI X i = fI Y i := by
  simp only [enc8, ag8, List.cons.injEq, AV.agg.injEq, AV.i.injEq, true_and, and_true] at h
  intro i hi
  rcases i with _ | _ | _ | _ | _ | _ | _ | _ | i
  all_goals first | (exfalso; omega) | (obtain ⟨a0, a1, a2, a3, a4, a5, a6, a7⟩ := h; assumption)
theorem map_of {l : List (List AV)} (h : ∀ e, e ∈ l → ∃ Y, e = enc8 Y) : ∃ Xs : List (List AV), l = Xs.map enc8 := by
  induction l with
  | nil => exact ⟨[], rfl⟩
  | cons e l ih =>
    obtain ⟨Y, rfl⟩ := h e (by simp)
    obtain ⟨Xs, rfl⟩ := ih fun e he => h e (by simp [he])
    exact ⟨Y :: Xs, rfl⟩
theorem iterR_max {σ τ : Type} {step : σ → List AV → Lp σ τ} (mk : Int → σ) (f : List AV → Int) : ∀ (l : List (List AV)) (a : Int), (∀ m it, it ∈ l → step (mk m) it = .go (mk (bmax m (f it)))) → ∃ M, iterR step l (mk a) = some (.inl (mk M)) ∧ a ≤ M ∧ (∀ it, it ∈ l → f it ≤ M) ∧ (M = a ∨ ∃ it, it ∈ l ∧ M = f it)
  | [], a, _ => ⟨a, rfl, Int.le_refl _, fun it h => (by cases h), .inl rfl⟩
  | x :: l, a, h => by
    obtain ⟨M, h1, h2, h3, h4⟩ := iterR_max mk f l (bmax a (f x)) fun m it hit => h m it (by simp [hit])
    have hs := h a x (by simp)
    have hb := bmax_le a (f x)
    refine ⟨M, ?_, ?_, fun it hit => ?_, ?_⟩
    · show (match step (mk a) x with | .go y => iterR step l y | .out y => some (.inr y) | .bad => none) = _
      rw [hs]
      exact h1
    · rw [hb] at h2; split at h2 <;> omega
    · rcases List.mem_cons.1 hit with rfl | hit
      · rw [hb] at h2; split at h2 <;> omega
      · exact h3 it hit
    · rcases h4 with h4 | ⟨it, hit, h4⟩
      · rw [hb] at h4
        split at h4
        · exact .inr ⟨x, by simp, h4⟩
        · exact .inl h4
      · exact .inr ⟨it, by simp [hit], h4⟩
theorem bound_val {da db : Int} {cs ws : List (List AV)} (hF : RFine da db cs) (hl : ws.length = cs.length) (hv : ∀ i, i < ws.length → 0 ≤ vv ws i ∧ vv ws i ≤ 1000000) :
    ∃ M, IsMax (fun s => KV (en db cs ws) (da + db) s) M ∧ ((wq ws (mn cs) cs.length ≠ 0 → M ≠ 0) → g56 da db cs ws = true ∧ w56_0 da db cs ws = bndV (wq ws (mn cs) cs.length) M) := by
  have hN := hF.l
  have ha := hF.a
  have hb := hF.b
  obtain ⟨g77t, e0, e1, e2, e3, e4, e5, e6, e7⟩ := wanted_val (da := da) (db := db) hN
  have hmw : ∀ i, i < cs.length → mw cs i = mn cs i := fun i hi => if_pos hi
  have hq : ∀ i, i < ws.length → 0 ≤ mw cs i ∧ mw cs i ≤ 12 := fun i hi => by
    rw [hmw i (by omega)]
    have := hF.c i (by omega)
    unfold okCut at this
    omega
  obtain ⟨wg, wv⟩ := weigh_val (ws := ws) (mw cs) (by omega) hv hq
  have hall : wq ws (mw cs) ws.length = wq ws (mn cs) cs.length := by
    rw [hl]
    exact wq_congr hmw
  rw [hall] at wv
  have hallb := wq_bd (ws := ws) (q := mn cs) (n := cs.length) (fun i hi => hv i (by omega)) (fun i hi => by
    have := hF.c i hi
    unfold okCut at this
    omega)
  -- the patterns
  have hms : ∀ j, j < cs.length → fI [AV.i .i64 (mw cs 0), .i .i64 (mw cs 1), .i .i64 (mw cs 2), .i .i64 (mw cs 3), .i .i64 (mw cs 4), .i .i64 (mw cs 5), .i .i64 (mw cs 6), .i .i64 (mw cs 7)] j = mn cs j := fun j hj => by
    rw [← hmw j hj]
    have h8 : j < 8 := by omega
    rcases j with _ | _ | _ | _ | _ | _ | _ | _ | j
    all_goals first | (exfalso; omega) | rfl
  have ew : IntKind.i64.wrap (da + db) = da + db := wrap64 (by omega) (by omega)
  obtain ⟨l0, X0, p0⟩ := PT_ex hF hms cs.length 0 rfl (Nat.zero_le _) (da + db) zero8 rfl
  have hex : ∃ Xs, Pats da db cs [AV.i .i64 (mw cs 0), .i .i64 (mw cs 1), .i .i64 (mw cs 2), .i .i64 (mw cs 3), .i .i64 (mw cs 4), .i .i64 (mw cs 5), .i .i64 (mw cs 6), .i .i64 (mw cs 7)] Xs := by
    obtain ⟨c1, _⟩ := (PT_claim (ws := ws) hF hms p0 rfl (Nat.zero_le _) (by omega) (by omega)).1 rfl (by omega)
    obtain ⟨Xs, hXs⟩ := map_of fun e he => by
      obtain ⟨Y, s, h, _⟩ := c1 e he
      exact ⟨Y, h⟩
    subst hXs
    refine ⟨Xs, X0, ?_⟩
    rw [ew]
    exact p0
  have hok : okP da db cs (mw cs 0) (mw cs 1) (mw cs 2) (mw cs 3) (mw cs 4) (mw cs 5) (mw cs 6) (mw cs 7) = true := by
    unfold okP
    simp only [decide_eq_true_eq]
    exact hex
  obtain ⟨X', hp⟩ := patX_ok hok
  rw [ew] at hp
  obtain ⟨c1, c2⟩ := (PT_claim (ws := ws) hF hms hp rfl (Nat.zero_le _) (by omega) (by omega)).1 rfl (by omega)
  rw [List.drop_zero] at c1 c2
  have hfx : ∀ it, it ∈ patX da db cs (mw cs 0) (mw cs 1) (mw cs 2) (mw cs 3) (mw cs 4) (mw cs 5) (mw cs 6) (mw cs 7) →
      (g82 ws (fI it 0) (fI it 1) (fI it 2) (fI it 3) (fI it 4) (fI it 5) (fI it 6) (fI it 7) = true) ∧ KV (en db cs ws) (da + db) (w82_0 ws (fI it 0) (fI it 1) (fI it 2) (fI it 3) (fI it 4) (fI it 5) (fI it 6) (fI it 7)) ∧ w82_0 ws (fI it 0) (fI it 1) (fI it 2) (fI it 3) (fI it 4) (fI it 5) (fI it 6) (fI it 7) = wX ws it cs.length := by
    intro it hit
    obtain ⟨Y, s, h1, _, h3, h4, h5⟩ := c1 (enc8 it) (List.mem_map.2 ⟨it, hit, rfl⟩)
    have hi := enc8_inj h1
    obtain ⟨u1, u2⟩ := weigh_val (ws := ws) (fun i => fI it i) (by omega) hv (fun i hi' => by
      show 0 ≤ fI it i ∧ fI it i ≤ 12
      rw [hi i (by omega)]
      exact h3 i (Nat.zero_le _) (by omega))
    have e : wX ws it cs.length = wX ws Y cs.length := wX_congr fun i hi' => hi i (by omega)
    have u3 : w82_0 ws (fI it 0) (fI it 1) (fI it 2) (fI it 3) (fI it 4) (fI it 5) (fI it 6) (fI it 7) = wX ws it cs.length := by
      rw [wX_wq, ← hl]
      exact u2
    refine ⟨u1, ?_, u3⟩
    rw [u3, e, h5]
    show KV (en db cs ws) (da + db) (0 + s)
    rw [Int.zero_add]
    exact h4
  obtain ⟨M, r1, r2, r3, r4⟩ := iterR_max (step := fun (x : S56a) it => stp56a 0 (wq ws (mn cs) cs.length) da db cs (mw cs 0) (mw cs 1) (mw cs 2) (mw cs 3) (mw cs 4) (mw cs 5) (mw cs 6) (mw cs 7) ws x.m13 it) (fun m => (⟨m⟩ : S56a)) (fun it => w82_0 ws (fI it 0) (fI it 1) (fI it 2) (fI it 3) (fI it 4) (fI it 5) (fI it 6) (fI it 7))
    (patX da db cs (mw cs 0) (mw cs 1) (mw cs 2) (mw cs 3) (mw cs 4) (mw cs 5) (mw cs 6) (mw cs 7)) 0 (fun m it hit => by
      show stp56a _ _ _ _ _ _ _ _ _ _ _ _ _ ws m it = _
      unfold stp56a
      rw [(hfx it hit).1]
      rfl)
  have hmax : IsMax (fun s => KV (en db cs ws) (da + db) s) M := by
    refine ⟨r2, fun s hs => ?_, ?_⟩
    · obtain ⟨e, he, Y, h1, h2⟩ := c2 s hs
      obtain ⟨it, hit, rfl⟩ := List.mem_map.1 he
      have hi := enc8_inj h1
      have e : wX ws it cs.length = wX ws Y cs.length := wX_congr fun i hi' => hi i (by omega)
      have := r3 it hit
      rw [(hfx it hit).2.2, e, h2] at this
      have e0 : wX ws zero8 0 = 0 := rfl
      omega
    · rcases r4 with h | ⟨it, hit, h⟩
      · exact .inl h
      · right
        rw [h]
        exact (hfx it hit).2.1
  have hMb : M ≤ 96000000 := by
    rcases r4 with h | ⟨it, hit, h⟩
    · omega
    · obtain ⟨Y, s, h1, _, h3, h4, h5⟩ := c1 (enc8 it) (List.mem_map.2 ⟨it, hit, rfl⟩)
      have hi := enc8_inj h1
      have b := wq_bd (ws := ws) (q := fun i => fI it i) (n := cs.length) (fun i hi => hv i (by omega)) (fun i hi' => by
        show 0 ≤ fI it i ∧ fI it i ≤ 12
        rw [hi i (by omega)]
        exact h3 i (Nat.zero_le _) hi')
      rw [(hfx it hit).2.2, wX_wq] at h
      omega
  refine ⟨M, hmax, fun hne => ?_⟩
  have hr : r56a 0 (wq ws (mn cs) cs.length) da db cs (mw cs 0) (mw cs 1) (mw cs 2) (mw cs 3) (mw cs 4) (mw cs 5) (mw cs 6) (mw cs 7) ws 0 da db cs (mw cs 0) (mw cs 1) (mw cs 2) (mw cs 3) (mw cs 4) (mw cs 5) (mw cs 6) (mw cs 7) = some (.inl ⟨M⟩) := r1
  have q0 : ∀ a b c d e f g h : Int, w75_0 da db cs a b c d e f g h = da ∧ w75_1 da db cs a b c d e f g h = db ∧ w75_2 da db cs a b c d e f g h = cs ∧ w75_3 da db cs a b c d e f g h = a ∧ w75_4 da db cs a b c d e f g h = b ∧ w75_5 da db cs a b c d e f g h = c ∧ w75_6 da db cs a b c d e f g h = d ∧ w75_7 da db cs a b c d e f g h = e ∧ w75_8 da db cs a b c d e f g h = f ∧ w75_9 da db cs a b c d e f g h = g ∧ w75_10 da db cs a b c d e f g h = h := fun _ _ _ _ _ _ _ _ => ⟨rfl, rfl, rfl, rfl, rfl, rfl, rfl, rfl, rfl, rfl, rfl⟩
  unfold g56 w56_0 t56
  simp only [g77t, e0, e1, e2, e3, e4, e5, e6, e7, wg, wv, q0, hok]
  unfold i56a_0 v56a_0_m13
  rw [hr]
  simp only [Bool.and_self]
  unfold bndV
  have hM := hmax.nn
  by_cases h0 : wq ws (mn cs) cs.length = 0
  · have e : (wq ws (mn cs) cs.length == 0) = true := by simpa using h0
    rw [e, if_pos h0]
    exact ⟨rfl, rfl⟩
  · have e : (wq ws (mn cs) cs.length == 0) = false := by simpa using h0
    have hM0 := hne h0
    rw [e, if_neg h0, decide_eq_false hM0, wrap64 (x := wq ws (mn cs) cs.length + M) (by omega) (by omega), wrap64 (x := wq ws (mn cs) cs.length + M - 1) (by omega) (by omega)]
    have hd : 0 ≤ (wq ws (mn cs) cs.length + M - 1).tdiv M ∧ (wq ws (mn cs) cs.length + M - 1).tdiv M ≤ wq ws (mn cs) cs.length + M - 1 := by
      refine ⟨Int.tdiv_nonneg (by omega) (by omega), ?_⟩
      rw [Int.tdiv_eq_ediv_of_nonneg (by omega)]
      exact Int.ediv_le_self _ (by omega)
    rw [wrap64 (by omega) (by omega)]
    exact ⟨rfl, rfl⟩
end Go.Proofs.Ytgifjphinkbcaaa

set_option maxRecDepth 100000
set_option maxHeartbeats 1000000
set_option linter.unusedVariables false
namespace Go.Proofs.Ytgifjphinkbcaaa
open Go Go.Ev

/-! ### ref Lower -/
noncomputable def c27 : Code := match Try.f27.body with | some c => c | _ => .skip
noncomputable def lp27a : Code := loopAt c27 [true, true, true, true, true, false, true, false]
noncomputable def s27a (da : Int) (db : Int) (cs : List (List AV)) (t2 : Int) (t4 : Int) (t6 : Int) (t7 : List (List AV)) (t8 : Int) : St :=
  { t := [(1, .rp [.int .i64, .int .i64, .sl 64] [.i .i64 da, .i .i64 db, .rs 64 cs] 0), (2, .i .i64 t2), (3, .nl), (4, .i .i64 t4), (6, .i .i64 t6), (7, .gv 0 3 t7), (8, .i .i64 t8)], m := [(0, .fr 3)], nx := 1, nt := 58 }
noncomputable def lp27aa : Code := loopAt c27 [true, true, true, true, true, false, true, false, false, true, false, false, true, false, true, false]
noncomputable def s27aa (da : Int) (db : Int) (cs : List (List AV)) (t2 : Int) (t4 : Int) (t6 : Int) (t7 : List (List AV)) (t8 : Int) (t9 : List (List AV)) (t10 : Int) : St :=
  { t := [(1, .rp [.int .i64, .int .i64, .sl 64] [.i .i64 da, .i .i64 db, .rs 64 cs] 0), (2, .i .i64 t2), (3, .nl), (4, .i .i64 t4), (6, .i .i64 t6), (7, .gv 0 3 t7), (8, .i .i64 t8), (9, .gv 1 3 t9), (10, .i .i64 t10)], m := [(0, .fr 3), (1, .fr 3)], nx := 2, nt := 58 }
structure S27aa where
  t9 : List (List AV)
  t10 : Int
inductive T27aa where
  | x0 (t9 : List (List AV)) (t10 : Int)
noncomputable def stp27aa (da : Int) (db : Int) (cs : List (List AV)) (t2 : Int) (t4 : Int) (t6 : Int) (t7 : List (List AV)) (t8 : Int) (t9 : List (List AV)) (t10 : Int) : Lp S27aa T27aa :=
  cond (decide (t10 < (↑cs.length : Int))) (cond (inb t10 cs.length) (cond (decide (IntKind.i64.wrap (da + db) = 0)) (.bad) (cond ((t9.length + [[AV.i IntKind.i64 (IntKind.i64.wrap ((IntKind.i64.wrap (t8 * IntKind.i64.wrap (fI (cs.getD t10.toNat []) 0 + db))).tdiv (IntKind.i64.wrap (da + db))))]].length).ble 9223372036854775807 && true) (cond (((t9.length + [[AV.i IntKind.i64 (IntKind.i64.wrap ((IntKind.i64.wrap (t8 * IntKind.i64.wrap (fI (cs.getD t10.toNat []) 0 + db))).tdiv (IntKind.i64.wrap (da + db))))]].length) * 8).ble 140737488355328) (.go ⟨t9 ++ [[AV.i IntKind.i64 (IntKind.i64.wrap ((IntKind.i64.wrap (t8 * IntKind.i64.wrap (fI (cs.getD t10.toNat []) 0 + db))).tdiv (IntKind.i64.wrap (da + db))))]], IntKind.i64.wrap (t10 + 1)⟩) (.bad)) (.bad))) (.bad)) (.out (.x0 t9 t10))
noncomputable def o27aa_0 (da : Int) (db : Int) (cs : List (List AV)) (t2 : Int) (t4 : Int) (t6 : Int) (t7 : List (List AV)) (t8 : Int) (t9 : List (List AV)) (t10 : Int) : St :=
  { t := [(1, .rp [.int .i64, .int .i64, .sl 64] [.i .i64 da, .i .i64 db, .rs 64 cs] 0), (2, .i .i64 t2), (3, .nl), (4, .i .i64 t4), (6, .i .i64 t6), (7, .gv 0 3 t7), (8, .i .i64 t8), (9, .gv 1 3 t9), (10, .i .i64 t10)], m := [(0, .fr 3), (1, .fr 3)], nx := 2, nt := 58 }
noncomputable def ou27aa (da : Int) (db : Int) (cs : List (List AV)) (t2 : Int) (t4 : Int) (t6 : Int) (t7 : List (List AV)) (t8 : Int) : T27aa → Ex × St
  | .x0 t9 t10 => (.ext 2, o27aa_0 da db cs t2 t4 t6 t7 t8 t9 t10)
noncomputable def r27aa (da : Int) (db : Int) (cs : List (List AV)) (t2 : Int) (t4 : Int) (t6 : Int) (t7 : List (List AV)) (t8 : Int) (t9 : List (List AV)) (t10 : Int) : Option T27aa := run (fun x => stp27aa da db cs t2 t4 t6 t7 t8 x.t9 x.t10) (⟨t9, t10⟩ : S27aa)
noncomputable def i27aa_0 (da : Int) (db : Int) (cs : List (List AV)) (t2 : Int) (t4 : Int) (t6 : Int) (t7 : List (List AV)) (t8 : Int) (t9 : List (List AV)) (t10 : Int) : Bool := match r27aa da db cs t2 t4 t6 t7 t8 t9 t10 with
  | some (.x0 _ _) => true
  | _ => false
noncomputable def v27aa_0_t9 (da : Int) (db : Int) (cs : List (List AV)) (t2 : Int) (t4 : Int) (t6 : Int) (t7 : List (List AV)) (t8 : Int) (t9 : List (List AV)) (t10 : Int) : List (List AV) := match r27aa da db cs t2 t4 t6 t7 t8 t9 t10 with
  | some (.x0 t9 _) => t9
  | _ => default
noncomputable def v27aa_0_t10 (da : Int) (db : Int) (cs : List (List AV)) (t2 : Int) (t4 : Int) (t6 : Int) (t7 : List (List AV)) (t8 : Int) (t9 : List (List AV)) (t10 : Int) : Int := match r27aa da db cs t2 t4 t6 t7 t8 t9 t10 with
  | some (.x0 _ t10) => t10
  | _ => default
noncomputable def l27aa (st : St) : Option (List (Bool × Ex × St)) := match normW Try.prog [(1, none), (2, none), (3, none), (4, none), (6, none), (7, some 3), (8, none), (9, some 3), (10, none)] 0 st with
  | some ([.rp [.int .i64, .int .i64, .sl 64] [.i .i64 da, .i .i64 db, .rs 64 cs] 0, .i .i64 t2, .nl, .i .i64 t4, .i .i64 t6, .gv 0 3 t7, .i .i64 t8, .gv 1 3 t9, .i .i64 t10], [(0, .fr 3), (1, .fr 3)], 2, 58) => some [(i27aa_0 da db cs t2 t4 t6 t7 t8 t9 t10, .ext 2, o27aa_0 da db cs t2 t4 t6 t7 t8 (v27aa_0_t9 da db cs t2 t4 t6 t7 t8 t9 t10) (v27aa_0_t10 da db cs t2 t4 t6 t7 t8 t9 t10))]
  | _ => none
structure S27a where
  t6 : Int
  t7 : List (List AV)
  t8 : Int
inductive T27a where
  | x0 (t6 : Int) (t7 : List (List AV)) (t8 : Int)
noncomputable def stp27a (da : Int) (db : Int) (cs : List (List AV)) (t2 : Int) (t4 : Int) (t6 : Int) (t7 : List (List AV)) (t8 : Int) : Lp S27a T27a :=
  cond (decide (t8 ≤ 20)) (cond (i27aa_0 da db cs t2 t4 t6 t7 t8 [] 0) (cond (g58 da db cs (v27aa_0_t9 da db cs t2 t4 t6 t7 t8 [] 0)) (cond (decide (w58_0 da db cs (v27aa_0_t9 da db cs t2 t4 t6 t7 t8 [] 0) > t6)) (.go ⟨w58_0 da db cs (v27aa_0_t9 da db cs t2 t4 t6 t7 t8 [] 0), v27aa_0_t9 da db cs t2 t4 t6 t7 t8 [] 0, IntKind.i64.wrap (t8 + 1)⟩) (.go ⟨t6, t7, IntKind.i64.wrap (t8 + 1)⟩)) (.bad)) (.bad)) (.out (.x0 t6 t7 t8))
noncomputable def o27a_0 (da : Int) (db : Int) (cs : List (List AV)) (t2 : Int) (t4 : Int) (t6 : Int) (t7 : List (List AV)) (t8 : Int) : St :=
  { t := [(1, .rp [.int .i64, .int .i64, .sl 64] [.i .i64 da, .i .i64 db, .rs 64 cs] 0), (2, .i .i64 t2), (3, .nl), (4, .i .i64 t4), (6, .i .i64 t6), (7, .gv 0 3 t7), (8, .i .i64 t8)], m := [(0, .fr 3)], nx := 1, nt := 58 }
noncomputable def ou27a (da : Int) (db : Int) (cs : List (List AV)) (t2 : Int) (t4 : Int) : T27a → Ex × St
  | .x0 t6 t7 t8 => (.ext 0, o27a_0 da db cs t2 t4 t6 t7 t8)
noncomputable def r27a (da : Int) (db : Int) (cs : List (List AV)) (t2 : Int) (t4 : Int) (t6 : Int) (t7 : List (List AV)) (t8 : Int) : Option T27a := run (fun x => stp27a da db cs t2 t4 x.t6 x.t7 x.t8) (⟨t6, t7, t8⟩ : S27a)
noncomputable def i27a_0 (da : Int) (db : Int) (cs : List (List AV)) (t2 : Int) (t4 : Int) (t6 : Int) (t7 : List (List AV)) (t8 : Int) : Bool := match r27a da db cs t2 t4 t6 t7 t8 with
  | some (.x0 _ _ _) => true
  | _ => false
noncomputable def v27a_0_t6 (da : Int) (db : Int) (cs : List (List AV)) (t2 : Int) (t4 : Int) (t6 : Int) (t7 : List (List AV)) (t8 : Int) : Int := match r27a da db cs t2 t4 t6 t7 t8 with
  | some (.x0 t6 _ _) => t6
  | _ => default
noncomputable def v27a_0_t7 (da : Int) (db : Int) (cs : List (List AV)) (t2 : Int) (t4 : Int) (t6 : Int) (t7 : List (List AV)) (t8 : Int) : List (List AV) := match r27a da db cs t2 t4 t6 t7 t8 with
  | some (.x0 _ t7 _) => t7
  | _ => default
noncomputable def v27a_0_t8 (da : Int) (db : Int) (cs : List (List AV)) (t2 : Int) (t4 : Int) (t6 : Int) (t7 : List (List AV)) (t8 : Int) : Int := match r27a da db cs t2 t4 t6 t7 t8 with
  | some (.x0 _ _ t8) => t8
  | _ => default
noncomputable def l27a (st : St) : Option (List (Bool × Ex × St)) := match normW Try.prog [(1, none), (2, none), (3, none), (4, none), (6, none), (7, some 3), (8, none)] 0 st with
  | some ([.rp [.int .i64, .int .i64, .sl 64] [.i .i64 da, .i .i64 db, .rs 64 cs] 0, .i .i64 t2, .nl, .i .i64 t4, .i .i64 t6, .gv 0 3 t7, .i .i64 t8], [(0, .fr 3)], 1, 58) => some [(i27a_0 da db cs t2 t4 t6 t7 t8, .ext 0, o27a_0 da db cs t2 t4 (v27a_0_t6 da db cs t2 t4 t6 t7 t8) (v27a_0_t7 da db cs t2 t4 t6 t7 t8) (v27a_0_t8 da db cs t2 t4 t6 t7 t8))]
  | _ => none
noncomputable def L27 : LSpec := fun p st => match p with
  | [false, true, false, true, false, false, true, false, false, true, false, true, true, true, true, true] => l27aa st
  | [false, true, false, true, true, true, true, true] => l27a st
  | _ => none
theorem is27aa_0 (da : Int) (db : Int) (cs : List (List AV)) (t2 : Int) (t4 : Int) (t6 : Int) (t7 : List (List AV)) (t8 : Int) (t9 : List (List AV)) (t10 : Int) (h : i27aa_0 da db cs t2 t4 t6 t7 t8 t9 t10 = true) : r27aa da db cs t2 t4 t6 t7 t8 t9 t10 = some (.x0 (v27aa_0_t9 da db cs t2 t4 t6 t7 t8 t9 t10) (v27aa_0_t10 da db cs t2 t4 t6 t7 t8 t9 t10)) := by
  unfold i27aa_0 at h
  unfold v27aa_0_t9 v27aa_0_t10
  generalize r27aa da db cs t2 t4 t6 t7 t8 t9 t10 = r at h ⊢
  rcases r with _ | y
  · cases h
  · cases y <;> first | rfl | cases h
theorem round27aa (da : Int) (db : Int) (cs : List (List AV)) (t2 : Int) (t4 : Int) (t6 : Int) (t7 : List (List AV)) (t8 : Int) (t9 : List (List AV)) (t10 : Int) : round Try.prog Sk (ro 27) L27 lp27aa [false, true, false, true, false, false, true, false, false, true, false, true, true, true, true, true] [(1, none), (2, none), (3, none), (4, none), (6, none), (7, some 3), (8, none), (9, some 3), (10, none)] 0 (s27aa da db cs t2 t4 t6 t7 t8 t9 t10) =
    cond (decide (t10 < (↑cs.length : Int))) (cond (inb t10 cs.length) (cond (decide (IntKind.i64.wrap (da + db) = 0)) (none) (cond ((t9.length + [[AV.i IntKind.i64 (IntKind.i64.wrap ((IntKind.i64.wrap (t8 * IntKind.i64.wrap (fI (cs.getD t10.toNat []) 0 + db))).tdiv (IntKind.i64.wrap (da + db))))]].length).ble 9223372036854775807 && true) (cond (((t9.length + [[AV.i IntKind.i64 (IntKind.i64.wrap ((IntKind.i64.wrap (t8 * IntKind.i64.wrap (fI (cs.getD t10.toNat []) 0 + db))).tdiv (IntKind.i64.wrap (da + db))))]].length) * 8).ble 140737488355328) (some (.nrm, s27aa da db cs t2 t4 t6 t7 t8 (t9 ++ [[AV.i IntKind.i64 (IntKind.i64.wrap ((IntKind.i64.wrap (t8 * IntKind.i64.wrap (fI (cs.getD t10.toNat []) 0 + db))).tdiv (IntKind.i64.wrap (da + db))))]]) (IntKind.i64.wrap (t10 + 1)))) (none)) (none))) (none)) (some (.ext 2, o27aa_0 da db cs t2 t4 t6 t7 t8 t9 t10)) := by kernel_rfl
theorem rnd27aa (da : Int) (db : Int) (cs : List (List AV)) (t2 : Int) (t4 : Int) (t6 : Int) (t7 : List (List AV)) (t8 : Int) (x : S27aa) : round Try.prog Sk (ro 27) L27 lp27aa [false, true, false, true, false, false, true, false, false, true, false, true, true, true, true, true] [(1, none), (2, none), (3, none), (4, none), (6, none), (7, some 3), (8, none), (9, some 3), (10, none)] 0 ((fun x => s27aa da db cs t2 t4 t6 t7 t8 x.t9 x.t10) x) = toR (fun x => s27aa da db cs t2 t4 t6 t7 t8 x.t9 x.t10) (ou27aa da db cs t2 t4 t6 t7 t8) (stp27aa da db cs t2 t4 t6 t7 t8 x.t9 x.t10) := by
  refine (round27aa _ _ _ _ _ _ _ _ _ _ ).trans ?_
  unfold stp27aa
  simp only [toR_cond]
  rfl
theorem lok27aa {st : St} {outs : List (Bool × Ex × St)} {e : Ex} {s : St} (hl : l27aa st = some outs) (hch : Chosen outs e s) :
    ∃ keep nb, 0 ≤ nb ∧ LB Try.prog Sk (ro 27) L27 lp27aa [false, true, false, true, false, false, true, false, false, true, false, true, true, true, true, true] keep nb st e s := by
  unfold l27aa at hl
  split at hl
  · rename_i da db cs t2 t4 t6 t7 t8 t9 t10 hno
    cases hl
    have hno := normW_norm hno
    refine ⟨_, _, ?_, .enter hno ?_⟩
    · decide
    have main := fun y h => LB_run (x := (⟨t9, t10⟩ : S27aa)) (y := y) (nb := 0) (fun y => by cases y <;> simp [ou27aa]) (rnd27aa da db cs t2 t4 t6 t7 t8) h
    obtain ⟨x, hx, hg, rfl, rfl⟩ := chosen_any hch
    simp only [List.mem_cons, List.not_mem_nil, or_false] at hx
    subst hx
    exact main _ (is27aa_0 da db cs t2 t4 t6 t7 t8 t9 t10 hg)
  · cases hl
theorem is27a_0 (da : Int) (db : Int) (cs : List (List AV)) (t2 : Int) (t4 : Int) (t6 : Int) (t7 : List (List AV)) (t8 : Int) (h : i27a_0 da db cs t2 t4 t6 t7 t8 = true) : r27a da db cs t2 t4 t6 t7 t8 = some (.x0 (v27a_0_t6 da db cs t2 t4 t6 t7 t8) (v27a_0_t7 da db cs t2 t4 t6 t7 t8) (v27a_0_t8 da db cs t2 t4 t6 t7 t8)) := by
  unfold i27a_0 at h
  unfold v27a_0_t6 v27a_0_t7 v27a_0_t8
  generalize r27a da db cs t2 t4 t6 t7 t8 = r at h ⊢
  rcases r with _ | y
  · cases h
  · cases y <;> first | rfl | cases h
theorem round27a (da : Int) (db : Int) (cs : List (List AV)) (t2 : Int) (t4 : Int) (t6 : Int) (t7 : List (List AV)) (t8 : Int) : round Try.prog Sk (ro 27) L27 lp27a [false, true, false, true, true, true, true, true] [(1, none), (2, none), (3, none), (4, none), (6, none), (7, some 3), (8, none)] 0 (s27a da db cs t2 t4 t6 t7 t8) =
    cond (decide (t8 ≤ 20)) (cond (i27aa_0 da db cs t2 t4 t6 t7 t8 [] 0) (cond (g58 da db cs (v27aa_0_t9 da db cs t2 t4 t6 t7 t8 [] 0)) (cond (decide (w58_0 da db cs (v27aa_0_t9 da db cs t2 t4 t6 t7 t8 [] 0) > t6)) (some (.nrm, s27a da db cs t2 t4 (w58_0 da db cs (v27aa_0_t9 da db cs t2 t4 t6 t7 t8 [] 0)) (v27aa_0_t9 da db cs t2 t4 t6 t7 t8 [] 0) (IntKind.i64.wrap (t8 + 1)))) (some (.nrm, s27a da db cs t2 t4 t6 t7 (IntKind.i64.wrap (t8 + 1))))) (none)) (none)) (some (.ext 0, o27a_0 da db cs t2 t4 t6 t7 t8)) := by kernel_rfl
theorem rnd27a (da : Int) (db : Int) (cs : List (List AV)) (t2 : Int) (t4 : Int) (x : S27a) : round Try.prog Sk (ro 27) L27 lp27a [false, true, false, true, true, true, true, true] [(1, none), (2, none), (3, none), (4, none), (6, none), (7, some 3), (8, none)] 0 ((fun x => s27a da db cs t2 t4 x.t6 x.t7 x.t8) x) = toR (fun x => s27a da db cs t2 t4 x.t6 x.t7 x.t8) (ou27a da db cs t2 t4) (stp27a da db cs t2 t4 x.t6 x.t7 x.t8) := by
  refine (round27a _ _ _ _ _ _ _ _ ).trans ?_
  unfold stp27a
  simp only [toR_cond]
  rfl
theorem lok27a {st : St} {outs : List (Bool × Ex × St)} {e : Ex} {s : St} (hl : l27a st = some outs) (hch : Chosen outs e s) :
    ∃ keep nb, 0 ≤ nb ∧ LB Try.prog Sk (ro 27) L27 lp27a [false, true, false, true, true, true, true, true] keep nb st e s := by
  unfold l27a at hl
  split at hl
  · rename_i da db cs t2 t4 t6 t7 t8 hno
    cases hl
    have hno := normW_norm hno
    refine ⟨_, _, ?_, .enter hno ?_⟩
    · decide
    have main := fun y h => LB_run (x := (⟨t6, t7, t8⟩ : S27a)) (y := y) (nb := 0) (fun y => by cases y <;> simp [ou27a]) (rnd27a da db cs t2 t4) h
    obtain ⟨x, hx, hg, rfl, rfl⟩ := chosen_any hch
    simp only [List.mem_cons, List.not_mem_nil, or_false] at hx
    subst hx
    exact main _ (is27a_0 da db cs t2 t4 t6 t7 t8 hg)
  · cases hl
theorem L27_ok (q : Pl) (c : Code) (hq : locate c27 q.reverse = some (.loop c)) (st : St) (outs : List (Bool × Ex × St)) (e : Ex) (s : St) (hl : L27 q st = some outs) (hch : Chosen outs e s) :
    ∃ keep nb, 0 ≤ nb ∧ LB Try.prog Sk (ro 27) L27 c q keep nb st e s := by
  unfold L27 at hl
  split at hl
  · have : locate c27 ([false, true, false, true, false, false, true, false, false, true, false, true, true, true, true, true] : Pl).reverse = some (.loop lp27aa) := by kernel_rfl
    rw [this] at hq
    cases hq
    exact lok27aa hl hch
  · have : locate c27 ([false, true, false, true, true, true, true, true] : Pl).reverse = some (.loop lp27a) := by kernel_rfl
    rw [this] at hq
    cases hq
    exact lok27a hl hch
  · cases hl
theorem lok27 : LOK Try.prog Sk (ro 27) L27 0 false c27 [] :=
  lok_lo L27_ok c27 [] false (locate_nil _) (by kernel_rfl)
noncomputable def t27 (da db : Int) (cs : List (List AV)) : Tr ((Int) × (List (List AV)) × (Int)) :=
  .cn (g25 da db cs) (.cn (w25_0 da db cs != 0) (.lf (0, [], w25_0 da db cs)) (.cn (i27a_0 da db cs 0 0 (-1) [] 1) (.lf (v27a_0_t6 da db cs 0 0 (-1) [] 1, v27a_0_t7 da db cs 0 0 (-1) [] 1, 0)) (.nn))) (.nn)
noncomputable def g27 (da db : Int) (cs : List (List AV)) : Bool := (t27 da db cs).g
noncomputable def w27_0 (da db : Int) (cs : List (List AV)) : Int := (t27 da db cs).val.1
noncomputable def w27_1 (da db : Int) (cs : List (List AV)) : List (List AV) := (t27 da db cs).val.2.1
noncomputable def w27_2 (da db : Int) (cs : List (List AV)) : Int := (t27 da db cs).val.2.2
noncomputable def a27 (da db : Int) (cs : List (List AV)) : Tr AV :=
  .cn (g25 da db cs) (.cn (w25_0 da db cs != 0) (.lf (.tup [.i .i64 0, .nl, .i .i64 (w25_0 da db cs)])) (.cn (i27a_0 da db cs 0 0 (-1) [] 1) (.lf (.tup [.i .i64 (v27a_0_t6 da db cs 0 0 (-1) [] 1), .rs 3 (v27a_0_t7 da db cs 0 0 (-1) [] 1), .i .i64 0])) (.nn))) (.nn)
theorem eq27 (da db : Int) (cs : List (List AV)) : evF Try.prog Sk (ro 27) L27 Try.f27 [.agg [.i .i64 da, .i .i64 db, .rs 64 cs]] = (a27 da db cs).opt id := by kernel_rfl
theorem wk27 (da db : Int) (cs : List (List AV)) : (a27 da db cs).map (wkV [none, some 3, none]) = (t27 da db cs).map (fun (x : (Int) × (List (List AV)) × (Int)) => (.tup [.i .i64 x.1, .rs 3 x.2.1, .i .i64 x.2.2] : AV)) := by kernel_rfl
theorem con27 (da db : Int) (cs : List (List AV)) (h : g27 da db cs = true) : Con Try.prog 27 [.agg [.i .i64 da, .i .i64 db, .rs 64 cs]] [] (.tup [.i .i64 (w27_0 da db cs), .rs 3 (w27_1 da db cs), .i .i64 (w27_2 da db cs)]) [] := by
  obtain ⟨v, h1, h2⟩ := Tr.soundW (eq27 da db cs) (wk27 da db cs) h
  have := (con_of Sk_ok mixed Try.func27 (c := c27) rfl (names 27 _ Try.func27) lok27 h1).wk [none, some 3, none]
  rw [h2] at this
  exact this
noncomputable def e27 (args : List AV) (rows : List Blk) : Option (Bool × AV × List Blk) := match args, rows with
  | [.agg [.i .i64 da, .i .i64 db, .rs 64 cs]], [] => some (g27 da db cs, .tup [.i .i64 (w27_0 da db cs), .rs 3 (w27_1 da db cs), .i .i64 (w27_2 da db cs)], [])
  | _, _ => none
theorem e27_ok (args : List AV) (rows : List Blk) (pre : Bool) (v : AV) (rows' : List Blk) (h : e27 args rows = some (pre, v, rows')) (hp : pre = true) : Con Try.prog 27 args rows v rows' := by
  unfold e27 at h
  split at h
  · cases h; exact con27 _ _ _ hp
  · cases h
-- SPEC 27
end Go.Proofs.Ytgifjphinkbcaaa

set_option maxRecDepth 100000
set_option linter.unusedVariables false
namespace Go.Proofs.Ytgifjphinkbcaaa
open Go Go.Ev

/-! ### ref Bound -/
noncomputable def c23 : Code := match Try.f23.body with | some c => c | _ => .skip
noncomputable def lp23a : Code := loopAt c23 [true, true, true, true, false, true, false]
noncomputable def s23a (ws : List (List AV)) (da : Int) (db : Int) (cs : List (List AV)) (t4 : Int) (t5 : Int) (t7 : Int) : St :=
  { t := [(1, .rs 3 ws), (2, .rp [.int .i64, .int .i64, .sl 64] [.i .i64 da, .i .i64 db, .rs 64 cs] 0), (4, .i .i64 t4), (5, .i .i64 t5), (7, .i .i64 t7)], m := [], nx := 0, nt := 34 }
structure S23a where
  t7 : Int
inductive T23a where
  | x0 (t4' : Int) (t5' : Int) (t7 : Int)
  | x1 (t7 : Int)
noncomputable def stp23a (ws : List (List AV)) (da : Int) (db : Int) (cs : List (List AV)) (t4 : Int) (t5 : Int) (t7 : Int) : Lp S23a T23a :=
  cond (decide (t7 < (↑ws.length : Int))) (cond (inb t7 ws.length) (cond (g57 (fI (ws.getD t7.toNat []) 0) 0 1000000) (cond (!w57_0 (fI (ws.getD t7.toNat []) 0) 0 1000000) (.out (.x0 0 1 t7)) (.go ⟨IntKind.i64.wrap (t7 + 1)⟩)) (.bad)) (.bad)) (.out (.x1 t7))
noncomputable def o23a_0 (ws : List (List AV)) (da : Int) (db : Int) (cs : List (List AV)) (t4 : Int) (t5 : Int) (t4' : Int) (t5' : Int) (t7 : Int) : St :=
  { t := [(1, .rs 3 ws), (2, .rp [.int .i64, .int .i64, .sl 64] [.i .i64 da, .i .i64 db, .rs 64 cs] 0), (4, .i .i64 t4'), (5, .i .i64 t5'), (7, .i .i64 t7)], m := [], nx := 0, nt := 34 }
noncomputable def o23a_1 (ws : List (List AV)) (da : Int) (db : Int) (cs : List (List AV)) (t4 : Int) (t5 : Int) (t7 : Int) : St :=
  { t := [(1, .rs 3 ws), (2, .rp [.int .i64, .int .i64, .sl 64] [.i .i64 da, .i .i64 db, .rs 64 cs] 0), (4, .i .i64 t4), (5, .i .i64 t5), (7, .i .i64 t7)], m := [], nx := 0, nt := 34 }
noncomputable def ou23a (ws : List (List AV)) (da : Int) (db : Int) (cs : List (List AV)) (t4 : Int) (t5 : Int) : T23a → Ex × St
  | .x0 t4' t5' t7 => (.ret, o23a_0 ws da db cs t4 t5 t4' t5' t7)
  | .x1 t7 => (.ext 0, o23a_1 ws da db cs t4 t5 t7)
noncomputable def r23a (ws : List (List AV)) (da : Int) (db : Int) (cs : List (List AV)) (t4 : Int) (t5 : Int) (t7 : Int) : Option T23a := run (fun x => stp23a ws da db cs t4 t5 x.t7) (⟨t7⟩ : S23a)
noncomputable def i23a_0 (ws : List (List AV)) (da : Int) (db : Int) (cs : List (List AV)) (t4 : Int) (t5 : Int) (t7 : Int) : Bool := match r23a ws da db cs t4 t5 t7 with
  | some (.x0 _ _ _) => true
  | _ => false
noncomputable def v23a_0_t4' (ws : List (List AV)) (da : Int) (db : Int) (cs : List (List AV)) (t4 : Int) (t5 : Int) (t7 : Int) : Int := match r23a ws da db cs t4 t5 t7 with
  | some (.x0 t4' _ _) => t4'
  | _ => default
noncomputable def v23a_0_t5' (ws : List (List AV)) (da : Int) (db : Int) (cs : List (List AV)) (t4 : Int) (t5 : Int) (t7 : Int) : Int := match r23a ws da db cs t4 t5 t7 with
  | some (.x0 _ t5' _) => t5'
  | _ => default
noncomputable def v23a_0_t7 (ws : List (List AV)) (da : Int) (db : Int) (cs : List (List AV)) (t4 : Int) (t5 : Int) (t7 : Int) : Int := match r23a ws da db cs t4 t5 t7 with
  | some (.x0 _ _ t7) => t7
  | _ => default
noncomputable def i23a_1 (ws : List (List AV)) (da : Int) (db : Int) (cs : List (List AV)) (t4 : Int) (t5 : Int) (t7 : Int) : Bool := match r23a ws da db cs t4 t5 t7 with
  | some (.x1 _) => true
  | _ => false
noncomputable def v23a_1_t7 (ws : List (List AV)) (da : Int) (db : Int) (cs : List (List AV)) (t4 : Int) (t5 : Int) (t7 : Int) : Int := match r23a ws da db cs t4 t5 t7 with
  | some (.x1 t7) => t7
  | _ => default
noncomputable def l23a (st : St) : Option (List (Bool × Ex × St)) := match normW Try.prog [(1, none), (2, none), (4, none), (5, none), (7, none)] 0 st with
  | some ([.rs 3 ws, .rp [.int .i64, .int .i64, .sl 64] [.i .i64 da, .i .i64 db, .rs 64 cs] 0, .i .i64 t4, .i .i64 t5, .i .i64 t7], [], 0, 34) => some [(i23a_0 ws da db cs t4 t5 t7, .ret, o23a_0 ws da db cs t4 t5 (v23a_0_t4' ws da db cs t4 t5 t7) (v23a_0_t5' ws da db cs t4 t5 t7) (v23a_0_t7 ws da db cs t4 t5 t7)), (i23a_1 ws da db cs t4 t5 t7, .ext 0, o23a_1 ws da db cs t4 t5 (v23a_1_t7 ws da db cs t4 t5 t7))]
  | _ => none
noncomputable def L23 : LSpec := fun p st => match p with
  | [false, true, false, true, true, true, true] => l23a st
  | _ => none
theorem is23a_0 (ws : List (List AV)) (da : Int) (db : Int) (cs : List (List AV)) (t4 : Int) (t5 : Int) (t7 : Int) (h : i23a_0 ws da db cs t4 t5 t7 = true) : r23a ws da db cs t4 t5 t7 = some (.x0 (v23a_0_t4' ws da db cs t4 t5 t7) (v23a_0_t5' ws da db cs t4 t5 t7) (v23a_0_t7 ws da db cs t4 t5 t7)) := by
  unfold i23a_0 at h
  unfold v23a_0_t4' v23a_0_t5' v23a_0_t7
  generalize r23a ws da db cs t4 t5 t7 = r at h ⊢
  rcases r with _ | y
  · cases h
  · cases y <;> first | rfl | cases h
theorem is23a_1 (ws : List (List AV)) (da : Int) (db : Int) (cs : List (List AV)) (t4 : Int) (t5 : Int) (t7 : Int) (h : i23a_1 ws da db cs t4 t5 t7 = true) : r23a ws da db cs t4 t5 t7 = some (.x1 (v23a_1_t7 ws da db cs t4 t5 t7)) := by
  unfold i23a_1 at h
  unfold v23a_1_t7
  generalize r23a ws da db cs t4 t5 t7 = r at h ⊢
  rcases r with _ | y
  · cases h
  · cases y <;> first | rfl | cases h
theorem round23a (ws : List (List AV)) (da : Int) (db : Int) (cs : List (List AV)) (t4 : Int) (t5 : Int) (t7 : Int) : round Try.prog Sk (ro 23) L23 lp23a [false, true, false, true, true, true, true] [(1, none), (2, none), (4, none), (5, none), (7, none)] 0 (s23a ws da db cs t4 t5 t7) =
    cond (decide (t7 < (↑ws.length : Int))) (cond (inb t7 ws.length) (cond (g57 (fI (ws.getD t7.toNat []) 0) 0 1000000) (cond (!w57_0 (fI (ws.getD t7.toNat []) 0) 0 1000000) (some (.ret, o23a_0 ws da db cs t4 t5 0 1 t7)) (some (.nrm, s23a ws da db cs t4 t5 (IntKind.i64.wrap (t7 + 1))))) (none)) (none)) (some (.ext 0, o23a_1 ws da db cs t4 t5 t7)) := by kernel_rfl
theorem rnd23a (ws : List (List AV)) (da : Int) (db : Int) (cs : List (List AV)) (t4 : Int) (t5 : Int) (x : S23a) : round Try.prog Sk (ro 23) L23 lp23a [false, true, false, true, true, true, true] [(1, none), (2, none), (4, none), (5, none), (7, none)] 0 ((fun x => s23a ws da db cs t4 t5 x.t7) x) = toR (fun x => s23a ws da db cs t4 t5 x.t7) (ou23a ws da db cs t4 t5) (stp23a ws da db cs t4 t5 x.t7) := by
  refine (round23a _ _ _ _ _ _ _ ).trans ?_
  unfold stp23a
  simp only [toR_cond]
  rfl
theorem lok23a {st : St} {outs : List (Bool × Ex × St)} {e : Ex} {s : St} (hl : l23a st = some outs) (hch : Chosen outs e s) :
    ∃ keep nb, 0 ≤ nb ∧ LB Try.prog Sk (ro 23) L23 lp23a [false, true, false, true, true, true, true] keep nb st e s := by
  unfold l23a at hl
  split at hl
  · rename_i ws da db cs t4 t5 t7 hno
    cases hl
    have hno := normW_norm hno
    refine ⟨_, _, ?_, .enter hno ?_⟩
    · decide
    have main := fun y h => LB_run (x := (⟨t7⟩ : S23a)) (y := y) (nb := 0) (fun y => by cases y <;> simp [ou23a]) (rnd23a ws da db cs t4 t5) h
    obtain ⟨x, hx, hg, rfl, rfl⟩ := chosen_any hch
    simp only [List.mem_cons, List.not_mem_nil, or_false] at hx
    rcases hx with rfl | rfl
    · exact main _ (is23a_0 ws da db cs t4 t5 t7 hg)
    · exact main _ (is23a_1 ws da db cs t4 t5 t7 hg)
  · cases hl
theorem L23_ok (q : Pl) (c : Code) (hq : locate c23 q.reverse = some (.loop c)) (st : St) (outs : List (Bool × Ex × St)) (e : Ex) (s : St) (hl : L23 q st = some outs) (hch : Chosen outs e s) :
    ∃ keep nb, 0 ≤ nb ∧ LB Try.prog Sk (ro 23) L23 c q keep nb st e s := by
  unfold L23 at hl
  split at hl
  · have : locate c23 ([false, true, false, true, true, true, true] : Pl).reverse = some (.loop lp23a) := by kernel_rfl
    rw [this] at hq
    cases hq
    exact lok23a hl hch
  · cases hl
theorem lok23 : LOK Try.prog Sk (ro 23) L23 0 false c23 [] :=
  lok_lo L23_ok c23 [] false (locate_nil _) (by kernel_rfl)
noncomputable def t23 (da db : Int) (cs : List (List AV)) (ws : List (List AV)) : Tr ((Int) × (Int)) :=
  .cn (g25 da db cs) (.cn (w25_0 da db cs != 0) (.lf (0, w25_0 da db cs)) (.cn ((↑ws.length : Int) != (↑cs.length : Int)) (.lf (0, 1)) (.cn (i23a_0 ws da db cs 0 0 0) (.lf (v23a_0_t4' ws da db cs 0 0 0, v23a_0_t5' ws da db cs 0 0 0)) (.cn (i23a_1 ws da db cs 0 0 0) (.cn (g58 da db cs ws) (.lf (w58_0 da db cs ws, 0)) (.nn)) (.nn))))) (.nn)
noncomputable def g23 (da db : Int) (cs : List (List AV)) (ws : List (List AV)) : Bool := (t23 da db cs ws).g
noncomputable def w23_0 (da db : Int) (cs : List (List AV)) (ws : List (List AV)) : Int := (t23 da db cs ws).val.1
noncomputable def w23_1 (da db : Int) (cs : List (List AV)) (ws : List (List AV)) : Int := (t23 da db cs ws).val.2
theorem eq23 (da db : Int) (cs : List (List AV)) (ws : List (List AV)) : evF Try.prog Sk (ro 23) L23 Try.f23 [.agg [.i .i64 da, .i .i64 db, .rs 64 cs], .rs 3 ws] = (t23 da db cs ws).opt (fun (x : (Int) × (Int)) => (.tup [.i .i64 x.1, .i .i64 x.2] : AV)) := by kernel_rfl
theorem con23 (da db : Int) (cs : List (List AV)) (ws : List (List AV)) (h : g23 da db cs ws = true) : Con Try.prog 23 [.agg [.i .i64 da, .i .i64 db, .rs 64 cs], .rs 3 ws] [] (.tup [.i .i64 (w23_0 da db cs ws), .i .i64 (w23_1 da db cs ws)]) [] :=
  con_of Sk_ok mixed Try.func23 (c := c23) rfl (names 23 _ Try.func23) lok23 ((eq23 da db cs ws).trans (Tr.sound _ _ h))
noncomputable def e23 (args : List AV) (rows : List Blk) : Option (Bool × AV × List Blk) := match args, rows with
  | [.agg [.i .i64 da, .i .i64 db, .rs 64 cs], .rs 3 ws], [] => some (g23 da db cs ws, .tup [.i .i64 (w23_0 da db cs ws), .i .i64 (w23_1 da db cs ws)], [])
  | _, _ => none
theorem e23_ok (args : List AV) (rows : List Blk) (pre : Bool) (v : AV) (rows' : List Blk) (h : e23 args rows = some (pre, v, rows')) (hp : pre = true) : Con Try.prog 23 args rows v rows' := by
  unfold e23 at h
  split at h
  · cases h; exact con23 _ _ _ _ hp
  · cases h
-- SPEC 23
end Go.Proofs.Ytgifjphinkbcaaa

set_option maxRecDepth 100000
set_option linter.unusedVariables false
namespace Go.Proofs.Ytgifjphinkbcaaa
open Go Go.Ev
noncomputable def Sl : Ev.Spec := insS 23 e23 (insS 27 e27 (insS 56 e56 (Sk)))
theorem Sl_ok : SpecOK Try.prog Sl := insS_ok e23_ok (insS_ok e27_ok (insS_ok e56_ok (Sk_ok)))
end Go.Proofs.Ytgifjphinkbcaaa

set_option maxRecDepth 100000
set_option maxHeartbeats 1000000
set_option linter.unusedVariables false
namespace Go.Proofs.Ytgifjphinkbcaaa
open Go Go.Ev

/-! ### Lower -/
noncomputable def c26 : Code := match Try.f26.body with | some c => c | _ => .skip
noncomputable def lp26a : Code := loopAt c26 [true, true, true, false, true, false]
noncomputable def s26a (da : Int) (db : Int) (cs : List (List AV)) (t2 : Int) (t3 : List (List AV)) (t4 : Int) (t6 : Int) : St :=
  { t := [(1, .rp [.int .i64, .int .i64, .sl 64] [.i .i64 da, .i .i64 db, .rs 64 cs] 0), (2, .i .i64 t2), (3, .gv 0 3 t3), (4, .i .i64 t4), (6, .i .i64 t6)], m := [(0, .fr 3)], nx := 1, nt := 54 }
noncomputable def lp26aa : Code := loopAt c26 [true, true, true, false, true, false, false, true, false, false, true, false, true, false]
noncomputable def s26aa (da : Int) (db : Int) (cs : List (List AV)) (t2 : Int) (t3 : List (List AV)) (t4 : Int) (t6 : Int) (t7 : List (List AV)) (t21 : List (List AV)) (t22 : Int) (t23 : Int) : St :=
  { t := [(1, .rp [.int .i64, .int .i64, .sl 64] [.i .i64 da, .i .i64 db, .rs 64 cs] 0), (2, .i .i64 t2), (3, .gv 0 3 t3), (4, .i .i64 t4), (6, .i .i64 t6), (7, .gv 1 3 t7), (21, .rs 64 t21), (22, .i .i64 t22), (23, .i .i64 t23)], m := [(0, .fr 3), (1, .fr 3)], nx := 2, nt := 54 }
structure S26aa where
  t7 : List (List AV)
  t23 : Int
inductive T26aa where
  | x0 (t7 : List (List AV)) (t23 : Int)
noncomputable def stp26aa (da : Int) (db : Int) (cs : List (List AV)) (t2 : Int) (t3 : List (List AV)) (t4 : Int) (t6 : Int) (t21 : List (List AV)) (t22 : Int) (t7 : List (List AV)) (t23 : Int) : Lp S26aa T26aa :=
  cond (decide (t23 < t22)) (cond (inb t23 t21.length) (cond (decide (IntKind.i64.wrap (da + db) = 0)) (.bad) (cond ((t7.length + [[AV.i IntKind.i64 (IntKind.i64.wrap ((IntKind.i64.wrap (t6 * IntKind.i64.wrap (fI (t21.getD t23.toNat []) 0 + db))).tdiv (IntKind.i64.wrap (da + db))))]].length).ble 9223372036854775807 && true) (cond (((t7.length + [[AV.i IntKind.i64 (IntKind.i64.wrap ((IntKind.i64.wrap (t6 * IntKind.i64.wrap (fI (t21.getD t23.toNat []) 0 + db))).tdiv (IntKind.i64.wrap (da + db))))]].length) * 8).ble 140737488355328) (.go ⟨t7 ++ [[AV.i IntKind.i64 (IntKind.i64.wrap ((IntKind.i64.wrap (t6 * IntKind.i64.wrap (fI (t21.getD t23.toNat []) 0 + db))).tdiv (IntKind.i64.wrap (da + db))))]], IntKind.i64.wrap (t23 + 1)⟩) (.bad)) (.bad))) (.bad)) (.out (.x0 t7 t23))
noncomputable def o26aa_0 (da : Int) (db : Int) (cs : List (List AV)) (t2 : Int) (t3 : List (List AV)) (t4 : Int) (t6 : Int) (t21 : List (List AV)) (t22 : Int) (t7 : List (List AV)) (t23 : Int) : St :=
  { t := [(1, .rp [.int .i64, .int .i64, .sl 64] [.i .i64 da, .i .i64 db, .rs 64 cs] 0), (2, .i .i64 t2), (3, .gv 0 3 t3), (4, .i .i64 t4), (6, .i .i64 t6), (7, .gv 1 3 t7), (21, .rs 64 t21), (22, .i .i64 t22), (23, .i .i64 t23)], m := [(0, .fr 3), (1, .fr 3)], nx := 2, nt := 54 }
noncomputable def ou26aa (da : Int) (db : Int) (cs : List (List AV)) (t2 : Int) (t3 : List (List AV)) (t4 : Int) (t6 : Int) (t21 : List (List AV)) (t22 : Int) : T26aa → Ex × St
  | .x0 t7 t23 => (.ext 2, o26aa_0 da db cs t2 t3 t4 t6 t21 t22 t7 t23)
noncomputable def r26aa (da : Int) (db : Int) (cs : List (List AV)) (t2 : Int) (t3 : List (List AV)) (t4 : Int) (t6 : Int) (t21 : List (List AV)) (t22 : Int) (t7 : List (List AV)) (t23 : Int) : Option T26aa := run (fun x => stp26aa da db cs t2 t3 t4 t6 t21 t22 x.t7 x.t23) (⟨t7, t23⟩ : S26aa)
noncomputable def i26aa_0 (da : Int) (db : Int) (cs : List (List AV)) (t2 : Int) (t3 : List (List AV)) (t4 : Int) (t6 : Int) (t21 : List (List AV)) (t22 : Int) (t7 : List (List AV)) (t23 : Int) : Bool := match r26aa da db cs t2 t3 t4 t6 t21 t22 t7 t23 with
  | some (.x0 _ _) => true
  | _ => false
noncomputable def v26aa_0_t7 (da : Int) (db : Int) (cs : List (List AV)) (t2 : Int) (t3 : List (List AV)) (t4 : Int) (t6 : Int) (t21 : List (List AV)) (t22 : Int) (t7 : List (List AV)) (t23 : Int) : List (List AV) := match r26aa da db cs t2 t3 t4 t6 t21 t22 t7 t23 with
  | some (.x0 t7 _) => t7
  | _ => default
noncomputable def v26aa_0_t23 (da : Int) (db : Int) (cs : List (List AV)) (t2 : Int) (t3 : List (List AV)) (t4 : Int) (t6 : Int) (t21 : List (List AV)) (t22 : Int) (t7 : List (List AV)) (t23 : Int) : Int := match r26aa da db cs t2 t3 t4 t6 t21 t22 t7 t23 with
  | some (.x0 _ t23) => t23
  | _ => default
noncomputable def l26aa (st : St) : Option (List (Bool × Ex × St)) := match normW Try.prog [(1, none), (2, none), (3, some 3), (4, none), (6, none), (7, some 3), (21, none), (22, none), (23, none)] 0 st with
  | some ([.rp [.int .i64, .int .i64, .sl 64] [.i .i64 da, .i .i64 db, .rs 64 cs] 0, .i .i64 t2, .gv 0 3 t3, .i .i64 t4, .i .i64 t6, .gv 1 3 t7, .rs 64 t21, .i .i64 t22, .i .i64 t23], [(0, .fr 3), (1, .fr 3)], 2, 54) => some [(i26aa_0 da db cs t2 t3 t4 t6 t21 t22 t7 t23, .ext 2, o26aa_0 da db cs t2 t3 t4 t6 t21 t22 (v26aa_0_t7 da db cs t2 t3 t4 t6 t21 t22 t7 t23) (v26aa_0_t23 da db cs t2 t3 t4 t6 t21 t22 t7 t23))]
  | _ => none
structure S26a where
  t2 : Int
  t3 : List (List AV)
  t6 : Int
inductive T26a where
  | x0 (t2 : Int) (t3 : List (List AV)) (t6 : Int)
noncomputable def stp26a (da : Int) (db : Int) (cs : List (List AV)) (t4 : Int) (t2 : Int) (t3 : List (List AV)) (t6 : Int) : Lp S26a T26a :=
  cond (decide (t6 ≤ 20)) (cond (i26aa_0 da db cs t2 t3 t4 t6 cs (↑cs.length : Int) [] 0) (cond (g56 da db cs (v26aa_0_t7 da db cs t2 t3 t4 t6 cs (↑cs.length : Int) [] 0)) (cond (decide (w56_0 da db cs (v26aa_0_t7 da db cs t2 t3 t4 t6 cs (↑cs.length : Int) [] 0) > t2)) (.go ⟨w56_0 da db cs (v26aa_0_t7 da db cs t2 t3 t4 t6 cs (↑cs.length : Int) [] 0), v26aa_0_t7 da db cs t2 t3 t4 t6 cs (↑cs.length : Int) [] 0, IntKind.i64.wrap (t6 + 1)⟩) (.go ⟨t2, t3, IntKind.i64.wrap (t6 + 1)⟩)) (.bad)) (.bad)) (.out (.x0 t2 t3 t6))
noncomputable def o26a_0 (da : Int) (db : Int) (cs : List (List AV)) (t4 : Int) (t2 : Int) (t3 : List (List AV)) (t6 : Int) : St :=
  { t := [(1, .rp [.int .i64, .int .i64, .sl 64] [.i .i64 da, .i .i64 db, .rs 64 cs] 0), (2, .i .i64 t2), (3, .gv 0 3 t3), (4, .i .i64 t4), (6, .i .i64 t6)], m := [(0, .fr 3)], nx := 1, nt := 54 }
noncomputable def ou26a (da : Int) (db : Int) (cs : List (List AV)) (t4 : Int) : T26a → Ex × St
  | .x0 t2 t3 t6 => (.ext 0, o26a_0 da db cs t4 t2 t3 t6)
noncomputable def r26a (da : Int) (db : Int) (cs : List (List AV)) (t4 : Int) (t2 : Int) (t3 : List (List AV)) (t6 : Int) : Option T26a := run (fun x => stp26a da db cs t4 x.t2 x.t3 x.t6) (⟨t2, t3, t6⟩ : S26a)
noncomputable def i26a_0 (da : Int) (db : Int) (cs : List (List AV)) (t4 : Int) (t2 : Int) (t3 : List (List AV)) (t6 : Int) : Bool := match r26a da db cs t4 t2 t3 t6 with
  | some (.x0 _ _ _) => true
  | _ => false
noncomputable def v26a_0_t2 (da : Int) (db : Int) (cs : List (List AV)) (t4 : Int) (t2 : Int) (t3 : List (List AV)) (t6 : Int) : Int := match r26a da db cs t4 t2 t3 t6 with
  | some (.x0 t2 _ _) => t2
  | _ => default
noncomputable def v26a_0_t3 (da : Int) (db : Int) (cs : List (List AV)) (t4 : Int) (t2 : Int) (t3 : List (List AV)) (t6 : Int) : List (List AV) := match r26a da db cs t4 t2 t3 t6 with
  | some (.x0 _ t3 _) => t3
  | _ => default
noncomputable def v26a_0_t6 (da : Int) (db : Int) (cs : List (List AV)) (t4 : Int) (t2 : Int) (t3 : List (List AV)) (t6 : Int) : Int := match r26a da db cs t4 t2 t3 t6 with
  | some (.x0 _ _ t6) => t6
  | _ => default
noncomputable def l26a (st : St) : Option (List (Bool × Ex × St)) := match normW Try.prog [(1, none), (2, none), (3, some 3), (4, none), (6, none)] 0 st with
  | some ([.rp [.int .i64, .int .i64, .sl 64] [.i .i64 da, .i .i64 db, .rs 64 cs] 0, .i .i64 t2, .gv 0 3 t3, .i .i64 t4, .i .i64 t6], [(0, .fr 3)], 1, 54) => some [(i26a_0 da db cs t4 t2 t3 t6, .ext 0, o26a_0 da db cs t4 (v26a_0_t2 da db cs t4 t2 t3 t6) (v26a_0_t3 da db cs t4 t2 t3 t6) (v26a_0_t6 da db cs t4 t2 t3 t6))]
  | _ => none
noncomputable def L26 : LSpec := fun p st => match p with
  | [false, true, false, true, false, false, true, false, false, true, false, true, true, true] => l26aa st
  | [false, true, false, true, true, true] => l26a st
  | _ => none
theorem is26aa_0 (da : Int) (db : Int) (cs : List (List AV)) (t2 : Int) (t3 : List (List AV)) (t4 : Int) (t6 : Int) (t21 : List (List AV)) (t22 : Int) (t7 : List (List AV)) (t23 : Int) (h : i26aa_0 da db cs t2 t3 t4 t6 t21 t22 t7 t23 = true) : r26aa da db cs t2 t3 t4 t6 t21 t22 t7 t23 = some (.x0 (v26aa_0_t7 da db cs t2 t3 t4 t6 t21 t22 t7 t23) (v26aa_0_t23 da db cs t2 t3 t4 t6 t21 t22 t7 t23)) := by
  unfold i26aa_0 at h
  unfold v26aa_0_t7 v26aa_0_t23
  generalize r26aa da db cs t2 t3 t4 t6 t21 t22 t7 t23 = r at h ⊢
  rcases r with _ | y
  · cases h
  · cases y <;> first | rfl | cases h
theorem round26aa (da : Int) (db : Int) (cs : List (List AV)) (t2 : Int) (t3 : List (List AV)) (t4 : Int) (t6 : Int) (t7 : List (List AV)) (t21 : List (List AV)) (t22 : Int) (t23 : Int) : round Try.prog Sl (ro 26) L26 lp26aa [false, true, false, true, false, false, true, false, false, true, false, true, true, true] [(1, none), (2, none), (3, some 3), (4, none), (6, none), (7, some 3), (21, none), (22, none), (23, none)] 0 (s26aa da db cs t2 t3 t4 t6 t7 t21 t22 t23) =
    cond (decide (t23 < t22)) (cond (inb t23 t21.length) (cond (decide (IntKind.i64.wrap (da + db) = 0)) (none) (cond ((t7.length + [[AV.i IntKind.i64 (IntKind.i64.wrap ((IntKind.i64.wrap (t6 * IntKind.i64.wrap (fI (t21.getD t23.toNat []) 0 + db))).tdiv (IntKind.i64.wrap (da + db))))]].length).ble 9223372036854775807 && true) (cond (((t7.length + [[AV.i IntKind.i64 (IntKind.i64.wrap ((IntKind.i64.wrap (t6 * IntKind.i64.wrap (fI (t21.getD t23.toNat []) 0 + db))).tdiv (IntKind.i64.wrap (da + db))))]].length) * 8).ble 140737488355328) (some (.nrm, s26aa da db cs t2 t3 t4 t6 (t7 ++ [[AV.i IntKind.i64 (IntKind.i64.wrap ((IntKind.i64.wrap (t6 * IntKind.i64.wrap (fI (t21.getD t23.toNat []) 0 + db))).tdiv (IntKind.i64.wrap (da + db))))]]) t21 t22 (IntKind.i64.wrap (t23 + 1)))) (none)) (none))) (none)) (some (.ext 2, o26aa_0 da db cs t2 t3 t4 t6 t21 t22 t7 t23)) := by kernel_rfl
theorem rnd26aa (da : Int) (db : Int) (cs : List (List AV)) (t2 : Int) (t3 : List (List AV)) (t4 : Int) (t6 : Int) (t21 : List (List AV)) (t22 : Int) (x : S26aa) : round Try.prog Sl (ro 26) L26 lp26aa [false, true, false, true, false, false, true, false, false, true, false, true, true, true] [(1, none), (2, none), (3, some 3), (4, none), (6, none), (7, some 3), (21, none), (22, none), (23, none)] 0 ((fun x => s26aa da db cs t2 t3 t4 t6 x.t7 t21 t22 x.t23) x) = toR (fun x => s26aa da db cs t2 t3 t4 t6 x.t7 t21 t22 x.t23) (ou26aa da db cs t2 t3 t4 t6 t21 t22) (stp26aa da db cs t2 t3 t4 t6 t21 t22 x.t7 x.t23) := by
  refine (round26aa _ _ _ _ _ _ _ _ _ _ _ ).trans ?_
  unfold stp26aa
  simp only [toR_cond]
  rfl
theorem lok26aa {st : St} {outs : List (Bool × Ex × St)} {e : Ex} {s : St} (hl : l26aa st = some outs) (hch : Chosen outs e s) :
    ∃ keep nb, 0 ≤ nb ∧ LB Try.prog Sl (ro 26) L26 lp26aa [false, true, false, true, false, false, true, false, false, true, false, true, true, true] keep nb st e s := by
  unfold l26aa at hl
  split at hl
  · rename_i da db cs t2 t3 t4 t6 t7 t21 t22 t23 hno
    cases hl
    have hno := normW_norm hno
    refine ⟨_, _, ?_, .enter hno ?_⟩
    · decide
    have main := fun y h => LB_run (x := (⟨t7, t23⟩ : S26aa)) (y := y) (nb := 0) (fun y => by cases y <;> simp [ou26aa]) (rnd26aa da db cs t2 t3 t4 t6 t21 t22) h
    obtain ⟨x, hx, hg, rfl, rfl⟩ := chosen_any hch
    simp only [List.mem_cons, List.not_mem_nil, or_false] at hx
    subst hx
    exact main _ (is26aa_0 da db cs t2 t3 t4 t6 t21 t22 t7 t23 hg)
  · cases hl
theorem is26a_0 (da : Int) (db : Int) (cs : List (List AV)) (t4 : Int) (t2 : Int) (t3 : List (List AV)) (t6 : Int) (h : i26a_0 da db cs t4 t2 t3 t6 = true) : r26a da db cs t4 t2 t3 t6 = some (.x0 (v26a_0_t2 da db cs t4 t2 t3 t6) (v26a_0_t3 da db cs t4 t2 t3 t6) (v26a_0_t6 da db cs t4 t2 t3 t6)) := by
  unfold i26a_0 at h
  unfold v26a_0_t2 v26a_0_t3 v26a_0_t6
  generalize r26a da db cs t4 t2 t3 t6 = r at h ⊢
  rcases r with _ | y
  · cases h
  · cases y <;> first | rfl | cases h
theorem round26a (da : Int) (db : Int) (cs : List (List AV)) (t2 : Int) (t3 : List (List AV)) (t4 : Int) (t6 : Int) : round Try.prog Sl (ro 26) L26 lp26a [false, true, false, true, true, true] [(1, none), (2, none), (3, some 3), (4, none), (6, none)] 0 (s26a da db cs t2 t3 t4 t6) =
    cond (decide (t6 ≤ 20)) (cond (i26aa_0 da db cs t2 t3 t4 t6 cs (↑cs.length : Int) [] 0) (cond (g56 da db cs (v26aa_0_t7 da db cs t2 t3 t4 t6 cs (↑cs.length : Int) [] 0)) (cond (decide (w56_0 da db cs (v26aa_0_t7 da db cs t2 t3 t4 t6 cs (↑cs.length : Int) [] 0) > t2)) (some (.nrm, s26a da db cs (w56_0 da db cs (v26aa_0_t7 da db cs t2 t3 t4 t6 cs (↑cs.length : Int) [] 0)) (v26aa_0_t7 da db cs t2 t3 t4 t6 cs (↑cs.length : Int) [] 0) t4 (IntKind.i64.wrap (t6 + 1)))) (some (.nrm, s26a da db cs t2 t3 t4 (IntKind.i64.wrap (t6 + 1))))) (none)) (none)) (some (.ext 0, o26a_0 da db cs t4 t2 t3 t6)) := by kernel_rfl
theorem rnd26a (da : Int) (db : Int) (cs : List (List AV)) (t4 : Int) (x : S26a) : round Try.prog Sl (ro 26) L26 lp26a [false, true, false, true, true, true] [(1, none), (2, none), (3, some 3), (4, none), (6, none)] 0 ((fun x => s26a da db cs x.t2 x.t3 t4 x.t6) x) = toR (fun x => s26a da db cs x.t2 x.t3 t4 x.t6) (ou26a da db cs t4) (stp26a da db cs t4 x.t2 x.t3 x.t6) := by
  refine (round26a _ _ _ _ _ _ _ ).trans ?_
  unfold stp26a
  simp only [toR_cond]
  rfl
theorem lok26a {st : St} {outs : List (Bool × Ex × St)} {e : Ex} {s : St} (hl : l26a st = some outs) (hch : Chosen outs e s) :
    ∃ keep nb, 0 ≤ nb ∧ LB Try.prog Sl (ro 26) L26 lp26a [false, true, false, true, true, true] keep nb st e s := by
  unfold l26a at hl
  split at hl
  · rename_i da db cs t2 t3 t4 t6 hno
    cases hl
    have hno := normW_norm hno
    refine ⟨_, _, ?_, .enter hno ?_⟩
    · decide
    have main := fun y h => LB_run (x := (⟨t2, t3, t6⟩ : S26a)) (y := y) (nb := 0) (fun y => by cases y <;> simp [ou26a]) (rnd26a da db cs t4) h
    obtain ⟨x, hx, hg, rfl, rfl⟩ := chosen_any hch
    simp only [List.mem_cons, List.not_mem_nil, or_false] at hx
    subst hx
    exact main _ (is26a_0 da db cs t4 t2 t3 t6 hg)
  · cases hl
theorem L26_ok (q : Pl) (c : Code) (hq : locate c26 q.reverse = some (.loop c)) (st : St) (outs : List (Bool × Ex × St)) (e : Ex) (s : St) (hl : L26 q st = some outs) (hch : Chosen outs e s) :
    ∃ keep nb, 0 ≤ nb ∧ LB Try.prog Sl (ro 26) L26 c q keep nb st e s := by
  unfold L26 at hl
  split at hl
  · have : locate c26 ([false, true, false, true, false, false, true, false, false, true, false, true, true, true] : Pl).reverse = some (.loop lp26aa) := by kernel_rfl
    rw [this] at hq
    cases hq
    exact lok26aa hl hch
  · have : locate c26 ([false, true, false, true, true, true] : Pl).reverse = some (.loop lp26a) := by kernel_rfl
    rw [this] at hq
    cases hq
    exact lok26a hl hch
  · cases hl
theorem lok26 : LOK Try.prog Sl (ro 26) L26 0 false c26 [] :=
  lok_lo L26_ok c26 [] false (locate_nil _) (by kernel_rfl)
noncomputable def t26 (da db : Int) (cs : List (List AV)) : Tr ((Int) × (List (List AV)) × (Int)) :=
  .cn (g24 da db cs) (.cn (w24_0 da db cs != 0) (.lf (0, [], w24_0 da db cs)) (.cn (i26a_0 da db cs 0 (-1) [] 1) (.lf (v26a_0_t2 da db cs 0 (-1) [] 1, v26a_0_t3 da db cs 0 (-1) [] 1, 0)) (.nn))) (.nn)
noncomputable def g26 (da db : Int) (cs : List (List AV)) : Bool := (t26 da db cs).g
noncomputable def w26_0 (da db : Int) (cs : List (List AV)) : Int := (t26 da db cs).val.1
noncomputable def w26_1 (da db : Int) (cs : List (List AV)) : List (List AV) := (t26 da db cs).val.2.1
noncomputable def w26_2 (da db : Int) (cs : List (List AV)) : Int := (t26 da db cs).val.2.2
noncomputable def a26 (da db : Int) (cs : List (List AV)) : Tr AV :=
  .cn (g24 da db cs) (.cn (w24_0 da db cs != 0) (.lf (.tup [.i .i64 0, .nl, .i .i64 (w24_0 da db cs)])) (.cn (i26a_0 da db cs 0 (-1) [] 1) (.lf (.tup [.i .i64 (v26a_0_t2 da db cs 0 (-1) [] 1), .rs 3 (v26a_0_t3 da db cs 0 (-1) [] 1), .i .i64 0])) (.nn))) (.nn)
theorem eq26 (da db : Int) (cs : List (List AV)) : evF Try.prog Sl (ro 26) L26 Try.f26 [.agg [.i .i64 da, .i .i64 db, .rs 64 cs]] = (a26 da db cs).opt id := by kernel_rfl
theorem wk26 (da db : Int) (cs : List (List AV)) : (a26 da db cs).map (wkV [none, some 3, none]) = (t26 da db cs).map (fun (x : (Int) × (List (List AV)) × (Int)) => (.tup [.i .i64 x.1, .rs 3 x.2.1, .i .i64 x.2.2] : AV)) := by kernel_rfl
theorem con26 (da db : Int) (cs : List (List AV)) (h : g26 da db cs = true) : Con Try.prog 26 [.agg [.i .i64 da, .i .i64 db, .rs 64 cs]] [] (.tup [.i .i64 (w26_0 da db cs), .rs 3 (w26_1 da db cs), .i .i64 (w26_2 da db cs)]) [] := by
  obtain ⟨v, h1, h2⟩ := Tr.soundW (eq26 da db cs) (wk26 da db cs) h
  have := (con_of Sl_ok mixed Try.func26 (c := c26) rfl (names 26 _ Try.func26) lok26 h1).wk [none, some 3, none]
  rw [h2] at this
  exact this
noncomputable def e26 (args : List AV) (rows : List Blk) : Option (Bool × AV × List Blk) := match args, rows with
  | [.agg [.i .i64 da, .i .i64 db, .rs 64 cs]], [] => some (g26 da db cs, .tup [.i .i64 (w26_0 da db cs), .rs 3 (w26_1 da db cs), .i .i64 (w26_2 da db cs)], [])
  | _, _ => none
theorem e26_ok (args : List AV) (rows : List Blk) (pre : Bool) (v : AV) (rows' : List Blk) (h : e26 args rows = some (pre, v, rows')) (hp : pre = true) : Con Try.prog 26 args rows v rows' := by
  unfold e26 at h
  split at h
  · cases h; exact con26 _ _ _ hp
  · cases h
-- SPEC 26
end Go.Proofs.Ytgifjphinkbcaaa

set_option maxRecDepth 100000
set_option maxHeartbeats 1000000
set_option linter.unusedVariables false
namespace Go.Proofs.Ytgifjphinkbcaaa
open Go Go.Ev

/-! ### Bound -/
noncomputable def c22 : Code := match Try.f22.body with | some c => c | _ => .skip
theorem lok22 : LOK Try.prog Sl (ro 22) (fun _ _ => none) 0 false c22 [] :=
  lok_lo (fun _ _ _ _ _ _ _ h _ => by cases h) c22 [] false (locate_nil _) (by kernel_rfl)
noncomputable def t22 (da db : Int) (cs : List (List AV)) (ws : List (List AV)) : Tr ((Int) × (Int)) :=
  .cn (g24 da db cs) (.cn (w24_0 da db cs != 0) (.lf (0, w24_0 da db cs)) (.cn ((↑ws.length : Int) != (↑cs.length : Int)) (.lf (0, 1)) (.cn (g53 ws) (.cn (w53_0 ws) (.lf (0, 1)) (.cn (g56 da db cs ws) (.lf (w56_0 da db cs ws, 0)) (.nn))) (.nn)))) (.nn)
noncomputable def g22 (da db : Int) (cs : List (List AV)) (ws : List (List AV)) : Bool := (t22 da db cs ws).g
noncomputable def w22_0 (da db : Int) (cs : List (List AV)) (ws : List (List AV)) : Int := (t22 da db cs ws).val.1
noncomputable def w22_1 (da db : Int) (cs : List (List AV)) (ws : List (List AV)) : Int := (t22 da db cs ws).val.2
theorem eq22 (da db : Int) (cs : List (List AV)) (ws : List (List AV)) : evF Try.prog Sl (ro 22) (fun _ _ => none) Try.f22 [.agg [.i .i64 da, .i .i64 db, .rs 64 cs], .rs 3 ws] = (t22 da db cs ws).opt (fun (x : (Int) × (Int)) => (.tup [.i .i64 x.1, .i .i64 x.2] : AV)) := by kernel_rfl
theorem con22 (da db : Int) (cs : List (List AV)) (ws : List (List AV)) (h : g22 da db cs ws = true) : Con Try.prog 22 [.agg [.i .i64 da, .i .i64 db, .rs 64 cs], .rs 3 ws] [] (.tup [.i .i64 (w22_0 da db cs ws), .i .i64 (w22_1 da db cs ws)]) [] :=
  con_of Sl_ok mixed Try.func22 (c := c22) rfl (names 22 _ Try.func22) lok22 ((eq22 da db cs ws).trans (Tr.sound _ _ h))
noncomputable def e22 (args : List AV) (rows : List Blk) : Option (Bool × AV × List Blk) := match args, rows with
  | [.agg [.i .i64 da, .i .i64 db, .rs 64 cs], .rs 3 ws], [] => some (g22 da db cs ws, .tup [.i .i64 (w22_0 da db cs ws), .i .i64 (w22_1 da db cs ws)], [])
  | _, _ => none
theorem e22_ok (args : List AV) (rows : List Blk) (pre : Bool) (v : AV) (rows' : List Blk) (h : e22 args rows = some (pre, v, rows')) (hp : pre = true) : Con Try.prog 22 args rows v rows' := by
  unfold e22 at h
  split at h
  · cases h; exact con22 _ _ _ _ hp
  · cases h
-- SPEC 22
end Go.Proofs.Ytgifjphinkbcaaa

set_option maxRecDepth 100000
set_option linter.unusedVariables false
namespace Go.Proofs.Ytgifjphinkbcaaa
open Go Go.Ev
/-! ### Both bounds are one -/
theorem flatL_app : ∀ (a b : List (Int × Int × Int)), flatL (a ++ b) = flatL a ++ flatL b
  | [], b => rfl
  | (z, v, m) :: r, b => by
    show List.replicate m.toNat (z, v) ++ flatL (r ++ b) = List.replicate m.toNat (z, v) ++ flatL r ++ flatL b
    rw [flatL_app r b, List.append_assoc]
theorem flat_en (db : Int) (cs ws : List (List AV)) : ∀ k, flatL ((List.range k).map fun j => (ln cs j + db, vv ws j, mn cs j)) = Lz db cs ws (sglTo cs k)
  | 0 => rfl
  | k + 1 => by
    rw [List.range_succ, List.map_append, flatL_app, flat_en db cs ws k]
    show Lz db cs ws (sglTo cs k) ++ (List.replicate (mn cs k).toNat (ln cs k + db, vv ws k) ++ []) = Lz db cs ws (sglTo cs k ++ List.replicate (mn cs k).toNat k)
    unfold Lz
    rw [List.append_nil, List.map_append, List.map_replicate]
theorem sum_rep (n : Nat) (v : Int) : (List.replicate n v).sum = (n : Int) * v := by
  induction n with
  | zero => simp
  | succ n ih =>
    rw [List.replicate_succ, List.sum_cons, ih, Int.natCast_add, Int.add_mul]
    simp
    omega
theorem sum_Lz {db : Int} {cs ws : List (List AV)} : ∀ {k : Nat}, (∀ j, j < k → okCut cs j) → ((Lz db cs ws (sglTo cs k)).map Prod.snd).sum = wq ws (mn cs) k
  | 0, _ => rfl
  | k + 1, h => by
    have ih := sum_Lz (db := db) (ws := ws) (k := k) (fun j hj => h j (by omega))
    have hc := h k (by omega)
    unfold okCut at hc
    show ((Lz db cs ws (sglTo cs k ++ List.replicate (mn cs k).toNat k)).map Prod.snd).sum = wq ws (mn cs) k + vv ws k * mn cs k
    unfold Lz at ih ⊢
    rw [List.map_append, List.map_append, List.sum_append, ih, List.map_replicate, List.map_replicate, sum_rep]
    have : (((mn cs k).toNat : Nat) : Int) = mn cs k := by omega
    rw [this, Int.mul_comm]
theorem KV_none : ∀ {l : List (Int × Int × Int)} {room : Int}, 0 ≤ room → (∀ e, e ∈ l → 0 ≤ e.2.2) → KV l room 0
  | [], room, h, _ => ⟨h, rfl⟩
  | (z, v, m) :: r, room, h, hm => by
    have h0 : 0 ≤ m := hm (z, v, m) (by simp)
    exact ⟨0, h0, by simpa using KV_none h fun e he => hm e (by simp [he])⟩
theorem KV_pos {db da : Int} {cs ws : List (List AV)} (hF : RFine da db cs) (hv : ∀ i, i < cs.length → 0 ≤ vv ws i) (hne : wq ws (mn cs) cs.length ≠ 0) : ∃ s, 0 < s ∧ KV (en db cs ws) (da + db) s := by
  have ha := hF.a
  have hb := hF.b
  have hm : ∀ j, ∀ e, e ∈ (en db cs ws).drop j → 0 ≤ e.2.2 := fun j e he => by
    obtain ⟨i, hi, rfl⟩ := List.mem_map.1 (List.mem_of_mem_drop he)
    have := hF.c i (by simpa using hi)
    unfold okCut at this
    exact this.2.2.1
  -- one that weighs
  have hone : ∃ j, j < cs.length ∧ 0 < vv ws j ∧ 1 ≤ mn cs j := by
    have : ∀ k, k ≤ cs.length → wq ws (mn cs) k ≠ 0 → ∃ j, j < k ∧ 0 < vv ws j ∧ 1 ≤ mn cs j := by
      intro k
      induction k with
      | zero => intro _ h; exact absurd rfl h
      | succ k ih =>
        intro hk h
        have hc := hF.c k (by omega)
        unfold okCut at hc
        have hvk := hv k (by omega)
        by_cases h0 : wq ws (mn cs) k = 0
        · have h : wq ws (mn cs) k + vv ws k * mn cs k ≠ 0 := h
          rw [h0, Int.zero_add] at h
          refine ⟨k, by omega, ?_, ?_⟩
          · rcases Int.lt_or_eq_of_le hvk with h' | h'
            · exact h'
            · rw [← h', Int.zero_mul] at h; exact absurd rfl h
          · rcases Int.lt_or_eq_of_le hc.2.2.1 with h' | h'
            · omega
            · rw [← h', Int.mul_zero] at h; exact absurd rfl h
        · obtain ⟨j, h1, h2⟩ := ih (by omega) h0
          exact ⟨j, by omega, h2⟩
    exact this _ (Nat.le_refl _) hne
  obtain ⟨j, hj, h1, h2⟩ := hone
  have hfj := hF.f j hj
  -- from there back
  have hback : ∀ d i, i + d = j → KV ((en db cs ws).drop i) (da + db) (vv ws j) := by
    intro d
    induction d with
    | zero =>
      intro i hi
      obtain rfl : i = j := by omega
      rw [en_drop hj]
      refine ⟨1, by omega, ?_⟩
      rw [show ((1 : Nat) : Int) * vv ws i = vv ws i by simp, Int.sub_self]
      exact KV_none (by simp; omega) (hm (i + 1))
    | succ d ih =>
      intro i hi
      rw [en_drop (by omega)]
      have hc := hF.c i (by omega)
      unfold okCut at hc
      exact ⟨0, hc.2.2.1, by simpa using ih (i + 1) (by omega)⟩
  refine ⟨vv ws j, h1, ?_⟩
  have := hback j 0 (by omega)
  rwa [List.drop_zero] at this
theorem bounds_eq {da db : Int} {cs ws : List (List AV)} (hF : RFine da db cs) (hl : ws.length = cs.length) (hv : ∀ i, i < ws.length → 0 ≤ vv ws i ∧ vv ws i ≤ 1000000) :
    g56 da db cs ws = true ∧ g58 da db cs ws = true ∧ w58_0 da db cs ws = w56_0 da db cs ws ∧ 0 ≤ w56_0 da db cs ws := by
  obtain ⟨M, m1, m2⟩ := bound_val hF hl hv
  obtain ⟨M', n1, n2, n3, n4⟩ := rbound_val hF hF.s hl hv
  have hfl : flatL (en db cs ws) = Lz db cs ws (sglTo cs cs.length) := flat_en db cs ws cs.length
  have hsum := sum_Lz (db := db) (ws := ws) hF.c
  rw [hsum] at n3 n4
  have hnn : ∀ e, e ∈ en db cs ws → 0 ≤ e.2.2 := fun e he => by
    obtain ⟨i, hi, rfl⟩ := List.mem_map.1 he
    have := hF.c i (by simpa using hi)
    unfold okCut at this
    exact this.2.2.1
  have hM : M = M' := IsMax.uniq (fun s => by rw [KV_KU _ _ _ hnn, hfl]) m1 n1
  subst hM
  have hne : wq ws (mn cs) cs.length ≠ 0 → M ≠ 0 := fun h => by
    obtain ⟨s, h1, h2⟩ := KV_pos (db := db) hF (fun i hi => (hv i (by omega)).1) h
    have := m1.le s h2
    omega
  obtain ⟨a1, a2⟩ := m2 hne
  obtain ⟨b1, b2⟩ := n4 hne
  refine ⟨a1, b1, b2.trans a2.symm, ?_⟩
  rw [a2]
  unfold bndV
  have hM0 := m1.nn
  split
  · omega
  · rename_i h
    have := hne h
    exact Int.tdiv_nonneg (by omega) (by omega)
/-! ### Bound -/
theorem w54_eq (x : Int) : g54 x = true ∧ w54_0 x = !(decide (0 ≤ x) && decide (x ≤ 1000000)) := by
  unfold g54 w54_0 t54
  rw [g55_true, w55_eq]
  exact ⟨rfl, rfl⟩
theorem weights_sim {da db : Int} {cs ws : List (List AV)} (hw : ws.length ≤ 30) : ∃ y y', r73a ws 0 (ws.length : Int) 0 = some y ∧ r23a ws da db cs 0 0 0 = some y' ∧ (match y, y' with
    | .x0 a _, .x0 b b' _ => 0 ≤ a ∧ b = 0 ∧ b' = 1
    | .x1 _, .x1 _ => ∀ j, j < ws.length → 0 ≤ vv ws j ∧ vv ws j ≤ 1000000
    | _, _ => False) := by
  unfold r73a r23a
  refine run_sim (S := Unit) ws.length (fun k _ => (⟨(k : Int)⟩ : S73a)) (fun k _ => (⟨(k : Int)⟩ : S23a)) (fun k _ => ∀ j, j < k → 0 ≤ vv ws j ∧ vv ws j ≤ 1000000) (fun (y : T73a) (y' : T23a) => match y, y' with
    | .x0 a _, .x0 b b' _ => 0 ≤ a ∧ b = 0 ∧ b' = 1
    | .x1 _, .x1 _ => ∀ j, j < ws.length → 0 ≤ vv ws j ∧ vv ws j ≤ 1000000
    | _, _ => False) (fun k _ hk hm => ?_) (fun _ hm => ?_) 0 () (Nat.zero_le _) (fun j hj => by omega)
  · show (∃ s', stp73a ws 0 (ws.length : Int) (k : Int) = _ ∧ stp23a ws da db cs 0 0 (k : Int) = _ ∧ _) ∨ ∃ y y', stp73a ws 0 (ws.length : Int) (k : Int) = _ ∧ stp23a ws da db cs 0 0 (k : Int) = _ ∧ _
    unfold stp73a stp23a
    rw [Int.toNat_natCast]
    have e0 : fI (ws.getD k []) 0 = vv ws k := rfl
    simp only [lt_true hk, inb_true hk, cond_true, wrap_succ (show k < 9223372036854775807 by omega), e0, (w54_eq _).1, (w54_eq _).2, (w57_eq _ _ _).1, (w57_eq _ _ _).2]
    cases h1 : (decide (0 ≤ vv ws k) && decide (vv ws k ≤ 1000000)) with
    | false => exact .inr ⟨_, _, rfl, rfl, by omega, rfl, rfl⟩
    | true =>
      simp only [Bool.and_eq_true, decide_eq_true_eq] at h1
      refine .inl ⟨(), rfl, rfl, fun j hj => ?_⟩
      rcases Nat.lt_succ_iff_lt_or_eq.1 hj with h' | rfl
      · exact hm j h'
      · exact h1
  · refine ⟨.x1 (ws.length : Int), .x1 (ws.length : Int), ?_, ?_, hm⟩
    · show stp73a ws 0 (ws.length : Int) (ws.length : Int) = _
      unfold stp73a
      rw [lt_false]; rfl
    · show stp23a ws da db cs 0 0 (ws.length : Int) = _
      unfold stp23a
      rw [lt_false]; rfl
theorem w73_val {ws : List (List AV)} {z : T73a} (hz : r73a ws 0 (ws.length : Int) 0 = some z) : g53 ws = true ∧ (∀ a b, z = .x0 a b → w53_0 ws = decide (a ≥ 0)) ∧ ∀ b, z = .x1 b → w53_0 ws = false := by
  have h73 : g73 ws = true := by
    unfold g73 t73 i73a_0 i73a_1
    rw [hz]
    cases z <;> rfl
  unfold g53 w53_0 t53
  rw [h73]
  unfold w73_0 t73 i73a_0 i73a_1 v73a_0_t4'
  rw [hz]
  cases z with
  | x0 a b => exact ⟨rfl, fun _ _ e => (by cases e; rfl), fun _ e => by cases e⟩
  | x1 b => exact ⟨rfl, fun _ _ e => (by cases e), fun _ e => by cases e; rfl⟩
theorem boundE_eq (da db : Int) (cs ws : List (List AV)) (hw : ws.length ≤ 30) : g22 da db cs ws = true ∧ g23 da db cs ws = true ∧ w23_0 da db cs ws = w22_0 da db cs ws ∧ w23_1 da db cs ws = w22_1 da db cs ws := by
  obtain ⟨c1, c2, c3, c4⟩ := rods_eq da db cs
  unfold g22 g23 w22_0 w22_1 w23_0 w23_1 t22 t23
  rw [c1, c2, c3]
  by_cases h0 : w24_0 da db cs = 0
  · have hz : (w24_0 da db cs != 0) = false := by simp [h0]
    rw [hz]
    have hF := c4 h0
    by_cases hl : ws.length = cs.length
    · have e : ((ws.length : Int) != (cs.length : Int)) = false := by simp [hl]
      rw [e]
      obtain ⟨y, y', hy, hy', hv⟩ := weights_sim (da := da) (db := db) (cs := cs) hw
      obtain ⟨d1, d2, d3⟩ := w73_val hy
      unfold i23a_0 i23a_1 v23a_0_t4' v23a_0_t5'
      rw [d1, hy']
      cases y with
      | x0 a b =>
        cases y' with
        | x0 a' b' c' =>
          obtain ⟨v1, v2, v3⟩ := hv
          rw [d2 a b rfl, decide_eq_true v1, v2, v3]
          exact ⟨rfl, rfl, rfl, rfl⟩
        | x1 c' => exact hv.elim
      | x1 b =>
        cases y' with
        | x0 a' b' c' => exact hv.elim
        | x1 c' =>
          obtain ⟨b1, b2, b3, _⟩ := bounds_eq hF hl hv
          rw [d3 b rfl, b1, b2, b3]
          exact ⟨rfl, rfl, rfl, rfl⟩
    · have e : ((ws.length : Int) != (cs.length : Int)) = true := by
        rw [bne_iff_ne]; omega
      rw [e]
      exact ⟨rfl, rfl, rfl, rfl⟩
  · have hz : (w24_0 da db cs != 0) = true := by simpa using h0
    rw [hz]
    exact ⟨rfl, rfl, rfl, rfl⟩
end Go.Proofs.Ytgifjphinkbcaaa

set_option linter.unusedVariables false
namespace Go.Proofs.Ytgifjphinkbcaaa
open Go Go.Ev
noncomputable def e19 (args : List AV) (rows : List Blk) : Option (Bool × AV × List Blk) := match args, rows with
  | [], [] => some (true, .b true, [])
  | _, _ => none
theorem e19_ok (args : List AV) (rows : List Blk) (pre : Bool) (v : AV) (rows' : List Blk) (h : e19 args rows = some (pre, v, rows')) (hp : pre = true) : Con Try.prog 19 args rows v rows' := by
  unfold e19 at h
  split at h
  · cases h; exact lives_con
  · cases h
-- SPEC 19
end Go.Proofs.Ytgifjphinkbcaaa

set_option maxRecDepth 100000
set_option linter.unusedVariables false
namespace Go.Proofs.Ytgifjphinkbcaaa
open Go Go.Ev
noncomputable def SB : Ev.Spec := insS 19 e19 (insS 28 e28 (insS 27 e27 (insS 26 e26 (insS 25 e25 (insS 24 e24 (insS 23 e23 (insS 22 e22 (insS 21 e21 (S0)))))))))
theorem SB_ok : SpecOK Try.prog SB := insS_ok e19_ok (insS_ok e28_ok (insS_ok e27_ok (insS_ok e26_ok (insS_ok e25_ok (insS_ok e24_ok (insS_ok e23_ok (insS_ok e22_ok (insS_ok e21_ok (S0_ok)))))))))
end Go.Proofs.Ytgifjphinkbcaaa

set_option maxRecDepth 100000
set_option maxHeartbeats 1000000
set_option linter.unusedVariables false
namespace Go.Proofs.Ytgifjphinkbcaaa
open Go Go.Ev

/-! ### RidgeBounds -/
noncomputable def c5 : Code := match Try.f5.body with | some c => c | _ => .skip
theorem lok5 : LOK Try.prog SB (ro 5) (fun _ _ => none) 0 false c5 [] :=
  lok_lo (fun _ _ _ _ _ _ _ h _ => by cases h) c5 [] false (locate_nil _) (by kernel_rfl)
noncomputable def t5 (da db : Int) (cs : List (List AV)) (ws : List (List AV)) : Tr ((Bool)) :=
  .cn (g21 da db cs) (.cn (w21_0 da db cs) (.lf (true)) (.cn (decide ((↑ws.length : Int) > 30)) (.lf (true)) (.cn (g22 da db cs ws) (.cn (g23 da db cs ws) (.cn (g24 da db cs) (.cn (g25 da db cs) (.cn (w24_0 da db cs != w25_0 da db cs) (.lf (false)) (.cn (w22_0 da db cs ws != w23_0 da db cs ws) (.lf (false)) (.cn (w22_1 da db cs ws != w23_1 da db cs ws) (.lf (false)) (.cn (g26 da db cs) (.cn (g27 da db cs) (.cn (w26_0 da db cs == w27_0 da db cs) (.cn (w26_2 da db cs == w27_2 da db cs) (.cn (g28 (w26_1 da db cs) (w27_1 da db cs)) (.cn (w28_0 (w26_1 da db cs) (w27_1 da db cs)) (.lf (true)) (.lf (false))) (.nn)) (.lf (false))) (.lf (false))) (.nn)) (.nn))))) (.nn)) (.nn)) (.nn)) (.nn)))) (.nn)
noncomputable def g5 (da db : Int) (cs : List (List AV)) (ws : List (List AV)) : Bool := (t5 da db cs ws).g
noncomputable def w5_0 (da db : Int) (cs : List (List AV)) (ws : List (List AV)) : Bool := (t5 da db cs ws).val
theorem eq5 (da db : Int) (cs : List (List AV)) (ws : List (List AV)) : evF Try.prog SB (ro 5) (fun _ _ => none) Try.f5 [.agg [.i .i64 da, .i .i64 db, .rs 64 cs], .rs 3 ws] = (t5 da db cs ws).opt (fun (x : (Bool)) => (.b x : AV)) := by kernel_rfl
theorem con5 (da db : Int) (cs : List (List AV)) (ws : List (List AV)) (h : g5 da db cs ws = true) : Con Try.prog 5 [.agg [.i .i64 da, .i .i64 db, .rs 64 cs], .rs 3 ws] [] (.b (w5_0 da db cs ws)) [] :=
  con_of SB_ok mixed Try.func5 (c := c5) rfl (names 5 _ Try.func5) lok5 ((eq5 da db cs ws).trans (Tr.sound _ _ h))
noncomputable def e5 (args : List AV) (rows : List Blk) : Option (Bool × AV × List Blk) := match args, rows with
  | [.agg [.i .i64 da, .i .i64 db, .rs 64 cs], .rs 3 ws], [] => some (g5 da db cs ws, .b (w5_0 da db cs ws), [])
  | _, _ => none
theorem e5_ok (args : List AV) (rows : List Blk) (pre : Bool) (v : AV) (rows' : List Blk) (h : e5 args rows = some (pre, v, rows')) (hp : pre = true) : Con Try.prog 5 args rows v rows' := by
  unfold e5 at h
  split at h
  · cases h; exact con5 _ _ _ _ hp
  · cases h
-- SPEC 5
end Go.Proofs.Ytgifjphinkbcaaa
