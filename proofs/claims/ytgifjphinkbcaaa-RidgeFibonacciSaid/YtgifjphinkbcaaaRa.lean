/-
  The law RidgeFibonacci of the roofer's ridges answers true whatever byte it is handed; no conditions.
-/
import Derived.Test.YtgifjphinkbcaaaEvd
import Derived.KernelRfl
import Derived.Test.YtgifjphinkbcaaaProg
set_option linter.unusedVariables false
namespace Go.Proofs.Ytgifjphinkbcaaa
open Go Go.Ev
def roTab : List (Nat × List Nat) := [(3, [7, 8]), (4, [4]), (14, [9, 11]), (16, [9]), (17, [15]), (24, [5]), (26, [9]), (29, [5, 7, 8]), (31, [1, 2]), (33, [4, 7, 8]), (34, [22]), (35, [25]), (37, [6, 7, 11]), (38, [9]), (40, [8, 11, 12]), (41, [12]), (42, [9, 13, 14]), (43, [13, 14]), (45, [5, 6, 8, 9]), (46, [14]), (47, [16]), (48, [0]), (49, [0]), (52, [2]), (56, [5, 7, 8]), (62, [2]), (63, [2]), (64, [5]), (65, [8]), (68, [8]), (70, [3]), (71, [4]), (72, [5, 6, 7, 8, 9]), (76, [6, 7]), (77, [2, 3, 5]), (80, [12]), (81, [6, 7, 12]), (87, [6, 10]), (88, [5])]
def lookN : List (Nat × List Nat) → Nat → List Nat
  | [], _ => []
  | (k, l) :: r, f => cond (Nat.beq k f) l (lookN r f)
def ro (f : FuncId) (t : Nat) : Bool := !(lookN roTab f).any (Nat.beq t)
theorem mixed : Try.prog.follows .mixedOrders = true := by kernel_rfl
theorem names0 : (Try.prog.funcs.toList.all fun fn => !(fn.name == "runtime.NumGoroutine")) = true := by kernel_rfl
theorem names (f : FuncId) (fn : Func) (h : Try.prog.funcs[f]? = some fn) : (fn.name == "runtime.NumGoroutine") = false := by
  have := List.all_eq_true.1 names0 fn (Array.mem_toList_iff.2 (Array.mem_of_getElem? h))
  simpa using this
def S0 : Ev.Spec := fun _ _ _ => none
theorem S0_ok : SpecOK Try.prog S0 := fun _ _ _ _ _ _ h => by cases h
end Go.Proofs.Ytgifjphinkbcaaa

set_option maxRecDepth 100000
set_option linter.unusedVariables false
namespace Go.Proofs.Ytgifjphinkbcaaa
open Go Go.Ev

/-! ### thatchlaw06.Great -/
noncomputable def c18 : Code := match Try.f18.body with | some c => c | _ => .skip
noncomputable def lp18a : Code := loopAt c18 [true, true, false, true, false]
noncomputable def s18a (ra : Int) (rb : Int) (rc : Int) (ps : List (List AV)) (t2 : Bool) (t3 : Int) (t4 : Int) : St :=
  { t := [(1, .rp [.int .i64, .int .i64, .int .i64, .sl 31] [.i .i64 ra, .i .i64 rb, .i .i64 rc, .rs 31 ps] 0), (2, .b t2), (3, .i .i64 t3), (4, .i .i64 t4)], m := [], nx := 0, nt := 43 }
structure S18a where
  t3 : Int
  t4 : Int
inductive T18a where
  | x0 (t3 : Int) (t4 : Int)
noncomputable def stp18a (ra : Int) (rb : Int) (rc : Int) (ps : List (List AV)) (t2 : Bool) (t3 : Int) (t4 : Int) : Lp S18a T18a :=
  cond (decide (t4 < (↑ps.length : Int))) (cond (decide (t4 ≤ 30)) (cond (inb t4 ps.length) (.go ⟨IntKind.i64.wrap (t3 + (↑(fS (ps.getD t4.toNat []) 0).size : Int)), IntKind.i64.wrap (t4 + 1)⟩) (.bad)) (.out (.x0 t3 t4))) (.out (.x0 t3 t4))
noncomputable def o18a_0 (ra : Int) (rb : Int) (rc : Int) (ps : List (List AV)) (t2 : Bool) (t3 : Int) (t4 : Int) : St :=
  { t := [(1, .rp [.int .i64, .int .i64, .int .i64, .sl 31] [.i .i64 ra, .i .i64 rb, .i .i64 rc, .rs 31 ps] 0), (2, .b t2), (3, .i .i64 t3), (4, .i .i64 t4)], m := [], nx := 0, nt := 43 }
noncomputable def ou18a (ra : Int) (rb : Int) (rc : Int) (ps : List (List AV)) (t2 : Bool) : T18a → Ex × St
  | .x0 t3 t4 => (.ext 0, o18a_0 ra rb rc ps t2 t3 t4)
noncomputable def r18a (ra : Int) (rb : Int) (rc : Int) (ps : List (List AV)) (t2 : Bool) (t3 : Int) (t4 : Int) : Option T18a := run (fun x => stp18a ra rb rc ps t2 x.t3 x.t4) (⟨t3, t4⟩ : S18a)
noncomputable def i18a_0 (ra : Int) (rb : Int) (rc : Int) (ps : List (List AV)) (t2 : Bool) (t3 : Int) (t4 : Int) : Bool := match r18a ra rb rc ps t2 t3 t4 with
  | some (.x0 _ _) => true
  | _ => false
noncomputable def v18a_0_t3 (ra : Int) (rb : Int) (rc : Int) (ps : List (List AV)) (t2 : Bool) (t3 : Int) (t4 : Int) : Int := match r18a ra rb rc ps t2 t3 t4 with
  | some (.x0 t3 _) => t3
  | _ => default
noncomputable def v18a_0_t4 (ra : Int) (rb : Int) (rc : Int) (ps : List (List AV)) (t2 : Bool) (t3 : Int) (t4 : Int) : Int := match r18a ra rb rc ps t2 t3 t4 with
  | some (.x0 _ t4) => t4
  | _ => default
noncomputable def l18a (st : St) : Option (List (Bool × Ex × St)) := match normW Try.prog [(1, none), (2, none), (3, none), (4, none)] 0 st with
  | some ([.rp [.int .i64, .int .i64, .int .i64, .sl 31] [.i .i64 ra, .i .i64 rb, .i .i64 rc, .rs 31 ps] 0, .b t2, .i .i64 t3, .i .i64 t4], [], 0, 43) => some [(i18a_0 ra rb rc ps t2 t3 t4, .ext 0, o18a_0 ra rb rc ps t2 (v18a_0_t3 ra rb rc ps t2 t3 t4) (v18a_0_t4 ra rb rc ps t2 t3 t4))]
  | _ => none
noncomputable def L18 : LSpec := fun p st => match p with
  | [false, true, false, true, true] => l18a st
  | _ => none
theorem is18a_0 (ra : Int) (rb : Int) (rc : Int) (ps : List (List AV)) (t2 : Bool) (t3 : Int) (t4 : Int) (h : i18a_0 ra rb rc ps t2 t3 t4 = true) : r18a ra rb rc ps t2 t3 t4 = some (.x0 (v18a_0_t3 ra rb rc ps t2 t3 t4) (v18a_0_t4 ra rb rc ps t2 t3 t4)) := by
  unfold i18a_0 at h
  unfold v18a_0_t3 v18a_0_t4
  generalize r18a ra rb rc ps t2 t3 t4 = r at h ⊢
  rcases r with _ | y
  · cases h
  · cases y <;> first | rfl | cases h
theorem round18a (ra : Int) (rb : Int) (rc : Int) (ps : List (List AV)) (t2 : Bool) (t3 : Int) (t4 : Int) : round Try.prog S0 (ro 18) L18 lp18a [false, true, false, true, true] [(1, none), (2, none), (3, none), (4, none)] 0 (s18a ra rb rc ps t2 t3 t4) =
    cond (decide (t4 < (↑ps.length : Int))) (cond (decide (t4 ≤ 30)) (cond (inb t4 ps.length) (some (.nrm, s18a ra rb rc ps t2 (IntKind.i64.wrap (t3 + (↑(fS (ps.getD t4.toNat []) 0).size : Int))) (IntKind.i64.wrap (t4 + 1)))) (none)) (some (.ext 0, o18a_0 ra rb rc ps t2 t3 t4))) (some (.ext 0, o18a_0 ra rb rc ps t2 t3 t4)) := by kernel_rfl
theorem rnd18a (ra : Int) (rb : Int) (rc : Int) (ps : List (List AV)) (t2 : Bool) (x : S18a) : round Try.prog S0 (ro 18) L18 lp18a [false, true, false, true, true] [(1, none), (2, none), (3, none), (4, none)] 0 ((fun x => s18a ra rb rc ps t2 x.t3 x.t4) x) = toR (fun x => s18a ra rb rc ps t2 x.t3 x.t4) (ou18a ra rb rc ps t2) (stp18a ra rb rc ps t2 x.t3 x.t4) := by
  refine (round18a _ _ _ _ _ _ _ ).trans ?_
  unfold stp18a
  simp only [toR_cond]
  rfl
theorem lok18a {st : St} {outs : List (Bool × Ex × St)} {e : Ex} {s : St} (hl : l18a st = some outs) (hch : Chosen outs e s) :
    ∃ keep nb, 0 ≤ nb ∧ LB Try.prog S0 (ro 18) L18 lp18a [false, true, false, true, true] keep nb st e s := by
  unfold l18a at hl
  split at hl
  · rename_i ra rb rc ps t2 t3 t4 hno
    cases hl
    have hno := normW_norm hno
    refine ⟨_, _, ?_, .enter hno ?_⟩
    · decide
    have main := fun y h => LB_run (x := (⟨t3, t4⟩ : S18a)) (y := y) (nb := 0) (fun y => by cases y <;> simp [ou18a]) (rnd18a ra rb rc ps t2) h
    obtain ⟨x, hx, hg, rfl, rfl⟩ := chosen_any hch
    simp only [List.mem_cons, List.not_mem_nil, or_false] at hx
    subst hx
    exact main _ (is18a_0 ra rb rc ps t2 t3 t4 hg)
  · cases hl
theorem L18_ok (q : Pl) (c : Code) (hq : locate c18 q.reverse = some (.loop c)) (st : St) (outs : List (Bool × Ex × St)) (e : Ex) (s : St) (hl : L18 q st = some outs) (hch : Chosen outs e s) :
    ∃ keep nb, 0 ≤ nb ∧ LB Try.prog S0 (ro 18) L18 c q keep nb st e s := by
  unfold L18 at hl
  split at hl
  · have : locate c18 ([false, true, false, true, true] : Pl).reverse = some (.loop lp18a) := by kernel_rfl
    rw [this] at hq
    cases hq
    exact lok18a hl hch
  · cases hl
theorem lok18 : LOK Try.prog S0 (ro 18) L18 0 false c18 [] :=
  lok_lo L18_ok c18 [] false (locate_nil _) (by kernel_rfl)
noncomputable def t18 (ra rb rc : Int) (ps : List (List AV)) : Tr ((Bool)) :=
  .cn (i18a_0 ra rb rc ps false 0 0) (.cn (decide (ra > 300)) (.cn (decide (ra ≤ 2000)) (.lf (true)) (.cn (decide ((↑ps.length : Int) > 30)) (.lf (true)) (.lf (decide (v18a_0_t3 ra rb rc ps false 0 0 > 2000))))) (.cn (decide ((↑ps.length : Int) > 30)) (.lf (true)) (.lf (decide (v18a_0_t3 ra rb rc ps false 0 0 > 2000))))) (.nn)
noncomputable def g18 (ra rb rc : Int) (ps : List (List AV)) : Bool := (t18 ra rb rc ps).g
noncomputable def w18_0 (ra rb rc : Int) (ps : List (List AV)) : Bool := (t18 ra rb rc ps).val
theorem eq18 (ra rb rc : Int) (ps : List (List AV)) : evF Try.prog S0 (ro 18) L18 Try.f18 [.agg [.i .i64 ra, .i .i64 rb, .i .i64 rc, .rs 31 ps]] = (t18 ra rb rc ps).opt (fun (x : (Bool)) => (.b x : AV)) := by kernel_rfl
theorem con18 (ra rb rc : Int) (ps : List (List AV)) (h : g18 ra rb rc ps = true) : Con Try.prog 18 [.agg [.i .i64 ra, .i .i64 rb, .i .i64 rc, .rs 31 ps]] [] (.b (w18_0 ra rb rc ps)) [] :=
  con_of S0_ok mixed Try.func18 (c := c18) rfl (names 18 _ Try.func18) lok18 ((eq18 ra rb rc ps).trans (Tr.sound _ _ h))
noncomputable def e18 (args : List AV) (rows : List Blk) : Option (Bool × AV × List Blk) := match args, rows with
  | [.agg [.i .i64 ra, .i .i64 rb, .i .i64 rc, .rs 31 ps]], [] => some (g18 ra rb rc ps, .b (w18_0 ra rb rc ps), [])
  | _, _ => none
theorem e18_ok (args : List AV) (rows : List Blk) (pre : Bool) (v : AV) (rows' : List Blk) (h : e18 args rows = some (pre, v, rows')) (hp : pre = true) : Con Try.prog 18 args rows v rows' := by
  unfold e18 at h
  split at h
  · cases h; exact con18 _ _ _ _ hp
  · cases h
-- SPEC 18
end Go.Proofs.Ytgifjphinkbcaaa

set_option maxRecDepth 100000
set_option linter.unusedVariables false
namespace Go.Proofs.Ytgifjphinkbcaaa
open Go Go.Ev

/-! ### ridge.in -/
noncomputable def c55 : Code := match Try.f55.body with | some c => c | _ => .skip
theorem lok55 : LOK Try.prog S0 (ro 55) (fun _ _ => none) 0 false c55 [] :=
  lok_lo (fun _ _ _ _ _ _ _ h _ => by cases h) c55 [] false (locate_nil _) (by kernel_rfl)
noncomputable def t55 (a b c : Int) : Tr ((Bool)) :=
  .cn (decide (b ≤ a)) (.lf (decide (a ≤ c))) (.lf (false))
noncomputable def g55 (a b c : Int) : Bool := (t55 a b c).g
noncomputable def w55_0 (a b c : Int) : Bool := (t55 a b c).val
theorem eq55 (a b c : Int) : evF Try.prog S0 (ro 55) (fun _ _ => none) Try.f55 [.i .i64 a, .i .i64 b, .i .i64 c] = (t55 a b c).opt (fun (x : (Bool)) => (.b x : AV)) := by kernel_rfl
theorem con55 (a b c : Int) (h : g55 a b c = true) : Con Try.prog 55 [.i .i64 a, .i .i64 b, .i .i64 c] [] (.b (w55_0 a b c)) [] :=
  con_of S0_ok mixed Try.func55 (c := c55) rfl (names 55 _ Try.func55) lok55 ((eq55 a b c).trans (Tr.sound _ _ h))
noncomputable def e55 (args : List AV) (rows : List Blk) : Option (Bool × AV × List Blk) := match args, rows with
  | [.i .i64 a, .i .i64 b, .i .i64 c], [] => some (g55 a b c, .b (w55_0 a b c), [])
  | _, _ => none
theorem e55_ok (args : List AV) (rows : List Blk) (pre : Bool) (v : AV) (rows' : List Blk) (h : e55 args rows = some (pre, v, rows')) (hp : pre = true) : Con Try.prog 55 args rows v rows' := by
  unfold e55 at h
  split at h
  · cases h; exact con55 _ _ _ hp
  · cases h
-- SPEC 55
end Go.Proofs.Ytgifjphinkbcaaa

set_option maxRecDepth 100000
set_option linter.unusedVariables false
namespace Go.Proofs.Ytgifjphinkbcaaa
open Go Go.Ev

/-! ### ref.in -/
noncomputable def c57 : Code := match Try.f57.body with | some c => c | _ => .skip
theorem lok57 : LOK Try.prog S0 (ro 57) (fun _ _ => none) 0 false c57 [] :=
  lok_lo (fun _ _ _ _ _ _ _ h _ => by cases h) c57 [] false (locate_nil _) (by kernel_rfl)
noncomputable def t57 (a b c : Int) : Tr ((Bool)) :=
  .cn (decide (a ≥ b)) (.lf (decide (a ≤ c))) (.lf (false))
noncomputable def g57 (a b c : Int) : Bool := (t57 a b c).g
noncomputable def w57_0 (a b c : Int) : Bool := (t57 a b c).val
theorem eq57 (a b c : Int) : evF Try.prog S0 (ro 57) (fun _ _ => none) Try.f57 [.i .i64 a, .i .i64 b, .i .i64 c] = (t57 a b c).opt (fun (x : (Bool)) => (.b x : AV)) := by kernel_rfl
theorem con57 (a b c : Int) (h : g57 a b c = true) : Con Try.prog 57 [.i .i64 a, .i .i64 b, .i .i64 c] [] (.b (w57_0 a b c)) [] :=
  con_of S0_ok mixed Try.func57 (c := c57) rfl (names 57 _ Try.func57) lok57 ((eq57 a b c).trans (Tr.sound _ _ h))
noncomputable def e57 (args : List AV) (rows : List Blk) : Option (Bool × AV × List Blk) := match args, rows with
  | [.i .i64 a, .i .i64 b, .i .i64 c], [] => some (g57 a b c, .b (w57_0 a b c), [])
  | _, _ => none
theorem e57_ok (args : List AV) (rows : List Blk) (pre : Bool) (v : AV) (rows' : List Blk) (h : e57 args rows = some (pre, v, rows')) (hp : pre = true) : Con Try.prog 57 args rows v rows' := by
  unfold e57 at h
  split at h
  · cases h; exact con57 _ _ _ hp
  · cases h
-- SPEC 57
end Go.Proofs.Ytgifjphinkbcaaa

set_option maxRecDepth 100000
set_option linter.unusedVariables false
namespace Go.Proofs.Ytgifjphinkbcaaa
open Go Go.Ev

/-! ### ref01.In -/
noncomputable def c86 : Code := match Try.f86.body with | some c => c | _ => .skip
theorem lok86 : LOK Try.prog S0 (ro 86) (fun _ _ => none) 0 false c86 [] :=
  lok_lo (fun _ _ _ _ _ _ _ h _ => by cases h) c86 [] false (locate_nil _) (by kernel_rfl)
noncomputable def t86 (a b c : Int) : Tr ((Bool)) :=
  .cn (decide (a ≥ b)) (.lf (decide (a ≤ c))) (.lf (false))
noncomputable def g86 (a b c : Int) : Bool := (t86 a b c).g
noncomputable def w86_0 (a b c : Int) : Bool := (t86 a b c).val
theorem eq86 (a b c : Int) : evF Try.prog S0 (ro 86) (fun _ _ => none) Try.f86 [.i .i64 a, .i .i64 b, .i .i64 c] = (t86 a b c).opt (fun (x : (Bool)) => (.b x : AV)) := by kernel_rfl
theorem con86 (a b c : Int) (h : g86 a b c = true) : Con Try.prog 86 [.i .i64 a, .i .i64 b, .i .i64 c] [] (.b (w86_0 a b c)) [] :=
  con_of S0_ok mixed Try.func86 (c := c86) rfl (names 86 _ Try.func86) lok86 ((eq86 a b c).trans (Tr.sound _ _ h))
noncomputable def e86 (args : List AV) (rows : List Blk) : Option (Bool × AV × List Blk) := match args, rows with
  | [.i .i64 a, .i .i64 b, .i .i64 c], [] => some (g86 a b c, .b (w86_0 a b c), [])
  | _, _ => none
theorem e86_ok (args : List AV) (rows : List Blk) (pre : Bool) (v : AV) (rows' : List Blk) (h : e86 args rows = some (pre, v, rows')) (hp : pre = true) : Con Try.prog 86 args rows v rows' := by
  unfold e86 at h
  split at h
  · cases h; exact con86 _ _ _ hp
  · cases h
-- SPEC 86
end Go.Proofs.Ytgifjphinkbcaaa

set_option maxRecDepth 100000
set_option linter.unusedVariables false
namespace Go.Proofs.Ytgifjphinkbcaaa
open Go Go.Ev

/-! ### Example -/
noncomputable def c48 : Code := match Try.f48.body with | some c => c | _ => .skip
theorem lok48 : LOK Try.prog S0 (ro 48) (fun _ _ => none) 0 false c48 [] :=
  lok_lo (fun _ _ _ _ _ _ _ h _ => by cases h) c48 [] false (locate_nil _) (by kernel_rfl)
noncomputable def t48  : Tr ((Int) × (Int) × (Int) × (List (List AV))) :=
  .lf (5, 0, 0, [[AV.s { data := #[111, 110, 101] }, AV.i IntKind.i64 1, AV.i IntKind.i64 0, AV.i IntKind.i64 0, AV.i IntKind.i64 0], [AV.s { data := #[116, 119, 111] }, AV.i IntKind.i64 2, AV.i IntKind.i64 0, AV.i IntKind.i64 0, AV.i IntKind.i64 1], [AV.s { data := #[117, 112] }, AV.i IntKind.i64 1, AV.i IntKind.i64 0, AV.i IntKind.i64 1, AV.i IntKind.i64 3], [AV.s { data := #[100, 111, 119, 110] }, AV.i IntKind.i64 1, AV.i IntKind.i64 1, AV.i IntKind.i64 0, AV.i IntKind.i64 2]])
noncomputable def g48  : Bool := (t48 ).g
noncomputable def w48_0  : Int := (t48 ).val.1
noncomputable def w48_1  : Int := (t48 ).val.2.1
noncomputable def w48_2  : Int := (t48 ).val.2.2.1
noncomputable def w48_3  : List (List AV) := (t48 ).val.2.2.2
theorem eq48  : evF Try.prog S0 (ro 48) (fun _ _ => none) Try.f48 [] = (t48 ).opt (fun (x : (Int) × (Int) × (Int) × (List (List AV))) => (.agg [.i .i64 x.1, .i .i64 x.2.1, .i .i64 x.2.2.1, .rs 31 x.2.2.2] : AV)) := by kernel_rfl
theorem con48  (h : g48  = true) : Con Try.prog 48 [] [] (.agg [.i .i64 (w48_0 ), .i .i64 (w48_1 ), .i .i64 (w48_2 ), .rs 31 (w48_3 )]) [] :=
  con_of S0_ok mixed Try.func48 (c := c48) rfl (names 48 _ Try.func48) lok48 ((eq48 ).trans (Tr.sound _ _ h))
noncomputable def e48 (args : List AV) (rows : List Blk) : Option (Bool × AV × List Blk) := match args, rows with
  | [], [] => some (g48 , .agg [.i .i64 (w48_0 ), .i .i64 (w48_1 ), .i .i64 (w48_2 ), .rs 31 (w48_3 )], [])
  | _, _ => none
theorem e48_ok (args : List AV) (rows : List Blk) (pre : Bool) (v : AV) (rows' : List Blk) (h : e48 args rows = some (pre, v, rows')) (hp : pre = true) : Con Try.prog 48 args rows v rows' := by
  unfold e48 at h
  split at h
  · cases h; exact con48 hp
  · cases h
-- SPEC 48
end Go.Proofs.Ytgifjphinkbcaaa

set_option maxRecDepth 100000
set_option linter.unusedVariables false
namespace Go.Proofs.Ytgifjphinkbcaaa
open Go Go.Ev

/-! ### Rods -/
noncomputable def c49 : Code := match Try.f49.body with | some c => c | _ => .skip
theorem lok49 : LOK Try.prog S0 (ro 49) (fun _ _ => none) 0 false c49 [] :=
  lok_lo (fun _ _ _ _ _ _ _ h _ => by cases h) c49 [] false (locate_nil _) (by kernel_rfl)
noncomputable def t49  : Tr ((Int) × (Int) × (List (List AV))) :=
  .lf (10, 1, [[AV.i IntKind.i64 5, AV.i IntKind.i64 2], [AV.i IntKind.i64 3, AV.i IntKind.i64 2], [AV.i IntKind.i64 2, AV.i IntKind.i64 1]])
noncomputable def g49  : Bool := (t49 ).g
noncomputable def w49_0  : Int := (t49 ).val.1
noncomputable def w49_1  : Int := (t49 ).val.2.1
noncomputable def w49_2  : List (List AV) := (t49 ).val.2.2
theorem eq49  : evF Try.prog S0 (ro 49) (fun _ _ => none) Try.f49 [] = (t49 ).opt (fun (x : (Int) × (Int) × (List (List AV))) => (.agg [.i .i64 x.1, .i .i64 x.2.1, .rs 64 x.2.2] : AV)) := by kernel_rfl
theorem con49  (h : g49  = true) : Con Try.prog 49 [] [] (.agg [.i .i64 (w49_0 ), .i .i64 (w49_1 ), .rs 64 (w49_2 )]) [] :=
  con_of S0_ok mixed Try.func49 (c := c49) rfl (names 49 _ Try.func49) lok49 ((eq49 ).trans (Tr.sound _ _ h))
noncomputable def e49 (args : List AV) (rows : List Blk) : Option (Bool × AV × List Blk) := match args, rows with
  | [], [] => some (g49 , .agg [.i .i64 (w49_0 ), .i .i64 (w49_1 ), .rs 64 (w49_2 )], [])
  | _, _ => none
theorem e49_ok (args : List AV) (rows : List Blk) (pre : Bool) (v : AV) (rows' : List Blk) (h : e49 args rows = some (pre, v, rows')) (hp : pre = true) : Con Try.prog 49 args rows v rows' := by
  unfold e49 at h
  split at h
  · cases h; exact con49 hp
  · cases h
-- SPEC 49
end Go.Proofs.Ytgifjphinkbcaaa

set_option maxRecDepth 100000
set_option linter.unusedVariables false
namespace Go.Proofs.Ytgifjphinkbcaaa
open Go Go.Ev

/-! ### turned -/
noncomputable def c62 : Code := match Try.f62.body with | some c => c | _ => .skip
theorem lok62 : LOK Try.prog S0 (ro 62) (fun _ _ => none) 0 false c62 [] :=
  lok_lo (fun _ _ _ _ _ _ _ h _ => by cases h) c62 [] false (locate_nil _) (by kernel_rfl)
noncomputable def t62 (nm : ByteArray) (pa pb pc pd : Int) : Tr ((ByteArray) × (Int) × (Int) × (Int) × (Int)) :=
  .lf ({ data := #[] }, pa, pc, pb, 0)
noncomputable def g62 (nm : ByteArray) (pa pb pc pd : Int) : Bool := (t62 nm pa pb pc pd).g
noncomputable def w62_0 (nm : ByteArray) (pa pb pc pd : Int) : ByteArray := (t62 nm pa pb pc pd).val.1
noncomputable def w62_1 (nm : ByteArray) (pa pb pc pd : Int) : Int := (t62 nm pa pb pc pd).val.2.1
noncomputable def w62_2 (nm : ByteArray) (pa pb pc pd : Int) : Int := (t62 nm pa pb pc pd).val.2.2.1
noncomputable def w62_3 (nm : ByteArray) (pa pb pc pd : Int) : Int := (t62 nm pa pb pc pd).val.2.2.2.1
noncomputable def w62_4 (nm : ByteArray) (pa pb pc pd : Int) : Int := (t62 nm pa pb pc pd).val.2.2.2.2
theorem eq62 (nm : ByteArray) (pa pb pc pd : Int) : evF Try.prog S0 (ro 62) (fun _ _ => none) Try.f62 [.agg [.s nm, .i .i64 pa, .i .i64 pb, .i .i64 pc, .i .i64 pd]] = (t62 nm pa pb pc pd).opt (fun (x : (ByteArray) × (Int) × (Int) × (Int) × (Int)) => (.agg [.s x.1, .i .i64 x.2.1, .i .i64 x.2.2.1, .i .i64 x.2.2.2.1, .i .i64 x.2.2.2.2] : AV)) := by kernel_rfl
theorem con62 (nm : ByteArray) (pa pb pc pd : Int) (h : g62 nm pa pb pc pd = true) : Con Try.prog 62 [.agg [.s nm, .i .i64 pa, .i .i64 pb, .i .i64 pc, .i .i64 pd]] [] (.agg [.s (w62_0 nm pa pb pc pd), .i .i64 (w62_1 nm pa pb pc pd), .i .i64 (w62_2 nm pa pb pc pd), .i .i64 (w62_3 nm pa pb pc pd), .i .i64 (w62_4 nm pa pb pc pd)]) [] :=
  con_of S0_ok mixed Try.func62 (c := c62) rfl (names 62 _ Try.func62) lok62 ((eq62 nm pa pb pc pd).trans (Tr.sound _ _ h))
noncomputable def e62 (args : List AV) (rows : List Blk) : Option (Bool × AV × List Blk) := match args, rows with
  | [.agg [.s nm, .i .i64 pa, .i .i64 pb, .i .i64 pc, .i .i64 pd]], [] => some (g62 nm pa pb pc pd, .agg [.s (w62_0 nm pa pb pc pd), .i .i64 (w62_1 nm pa pb pc pd), .i .i64 (w62_2 nm pa pb pc pd), .i .i64 (w62_3 nm pa pb pc pd), .i .i64 (w62_4 nm pa pb pc pd)], [])
  | _, _ => none
theorem e62_ok (args : List AV) (rows : List Blk) (pre : Bool) (v : AV) (rows' : List Blk) (h : e62 args rows = some (pre, v, rows')) (hp : pre = true) : Con Try.prog 62 args rows v rows' := by
  unfold e62 at h
  split at h
  · cases h; exact con62 _ _ _ _ _ hp
  · cases h
-- SPEC 62
end Go.Proofs.Ytgifjphinkbcaaa

set_option maxRecDepth 100000
set_option linter.unusedVariables false
namespace Go.Proofs.Ytgifjphinkbcaaa
open Go Go.Ev

/-! ### bare -/
noncomputable def c63 : Code := match Try.f63.body with | some c => c | _ => .skip
theorem lok63 : LOK Try.prog S0 (ro 63) (fun _ _ => none) 0 false c63 [] :=
  lok_lo (fun _ _ _ _ _ _ _ h _ => by cases h) c63 [] false (locate_nil _) (by kernel_rfl)
noncomputable def t63 (nm : ByteArray) (pa pb pc pd : Int) : Tr ((ByteArray) × (Int) × (Int) × (Int) × (Int)) :=
  .lf ({ data := #[] }, pa, pb, pc, 0)
noncomputable def g63 (nm : ByteArray) (pa pb pc pd : Int) : Bool := (t63 nm pa pb pc pd).g
noncomputable def w63_0 (nm : ByteArray) (pa pb pc pd : Int) : ByteArray := (t63 nm pa pb pc pd).val.1
noncomputable def w63_1 (nm : ByteArray) (pa pb pc pd : Int) : Int := (t63 nm pa pb pc pd).val.2.1
noncomputable def w63_2 (nm : ByteArray) (pa pb pc pd : Int) : Int := (t63 nm pa pb pc pd).val.2.2.1
noncomputable def w63_3 (nm : ByteArray) (pa pb pc pd : Int) : Int := (t63 nm pa pb pc pd).val.2.2.2.1
noncomputable def w63_4 (nm : ByteArray) (pa pb pc pd : Int) : Int := (t63 nm pa pb pc pd).val.2.2.2.2
theorem eq63 (nm : ByteArray) (pa pb pc pd : Int) : evF Try.prog S0 (ro 63) (fun _ _ => none) Try.f63 [.agg [.s nm, .i .i64 pa, .i .i64 pb, .i .i64 pc, .i .i64 pd]] = (t63 nm pa pb pc pd).opt (fun (x : (ByteArray) × (Int) × (Int) × (Int) × (Int)) => (.agg [.s x.1, .i .i64 x.2.1, .i .i64 x.2.2.1, .i .i64 x.2.2.2.1, .i .i64 x.2.2.2.2] : AV)) := by kernel_rfl
theorem con63 (nm : ByteArray) (pa pb pc pd : Int) (h : g63 nm pa pb pc pd = true) : Con Try.prog 63 [.agg [.s nm, .i .i64 pa, .i .i64 pb, .i .i64 pc, .i .i64 pd]] [] (.agg [.s (w63_0 nm pa pb pc pd), .i .i64 (w63_1 nm pa pb pc pd), .i .i64 (w63_2 nm pa pb pc pd), .i .i64 (w63_3 nm pa pb pc pd), .i .i64 (w63_4 nm pa pb pc pd)]) [] :=
  con_of S0_ok mixed Try.func63 (c := c63) rfl (names 63 _ Try.func63) lok63 ((eq63 nm pa pb pc pd).trans (Tr.sound _ _ h))
noncomputable def e63 (args : List AV) (rows : List Blk) : Option (Bool × AV × List Blk) := match args, rows with
  | [.agg [.s nm, .i .i64 pa, .i .i64 pb, .i .i64 pc, .i .i64 pd]], [] => some (g63 nm pa pb pc pd, .agg [.s (w63_0 nm pa pb pc pd), .i .i64 (w63_1 nm pa pb pc pd), .i .i64 (w63_2 nm pa pb pc pd), .i .i64 (w63_3 nm pa pb pc pd), .i .i64 (w63_4 nm pa pb pc pd)], [])
  | _, _ => none
theorem e63_ok (args : List AV) (rows : List Blk) (pre : Bool) (v : AV) (rows' : List Blk) (h : e63 args rows = some (pre, v, rows')) (hp : pre = true) : Con Try.prog 63 args rows v rows' := by
  unfold e63 at h
  split at h
  · cases h; exact con63 _ _ _ _ _ hp
  · cases h
-- SPEC 63
end Go.Proofs.Ytgifjphinkbcaaa

set_option maxRecDepth 100000
set_option linter.unusedVariables false
namespace Go.Proofs.Ytgifjphinkbcaaa
open Go Go.Ev

/-! ### whole -/
noncomputable def c52 : Code := match Try.f52.body with | some c => c | _ => .skip
theorem lok52 : LOK Try.prog S0 (ro 52) (fun _ _ => none) 0 false c52 [] :=
  lok_lo (fun _ _ _ _ _ _ _ h _ => by cases h) c52 [] false (locate_nil _) (by kernel_rfl)
noncomputable def t52 (ra rb rc : Int) (ps : List (List AV)) : Tr ((Int) × (Int)) :=
  .lf (ra, rb)
noncomputable def g52 (ra rb rc : Int) (ps : List (List AV)) : Bool := (t52 ra rb rc ps).g
noncomputable def w52_0 (ra rb rc : Int) (ps : List (List AV)) : Int := (t52 ra rb rc ps).val.1
noncomputable def w52_1 (ra rb rc : Int) (ps : List (List AV)) : Int := (t52 ra rb rc ps).val.2
theorem eq52 (ra rb rc : Int) (ps : List (List AV)) : evF Try.prog S0 (ro 52) (fun _ _ => none) Try.f52 [.agg [.i .i64 ra, .i .i64 rb, .i .i64 rc, .rs 31 ps]] = (t52 ra rb rc ps).opt (fun (x : (Int) × (Int)) => (.agg [.i .i64 x.1, .i .i64 x.2] : AV)) := by kernel_rfl
theorem con52 (ra rb rc : Int) (ps : List (List AV)) (h : g52 ra rb rc ps = true) : Con Try.prog 52 [.agg [.i .i64 ra, .i .i64 rb, .i .i64 rc, .rs 31 ps]] [] (.agg [.i .i64 (w52_0 ra rb rc ps), .i .i64 (w52_1 ra rb rc ps)]) [] :=
  con_of S0_ok mixed Try.func52 (c := c52) rfl (names 52 _ Try.func52) lok52 ((eq52 ra rb rc ps).trans (Tr.sound _ _ h))
noncomputable def e52 (args : List AV) (rows : List Blk) : Option (Bool × AV × List Blk) := match args, rows with
  | [.agg [.i .i64 ra, .i .i64 rb, .i .i64 rc, .rs 31 ps]], [] => some (g52 ra rb rc ps, .agg [.i .i64 (w52_0 ra rb rc ps), .i .i64 (w52_1 ra rb rc ps)], [])
  | _, _ => none
theorem e52_ok (args : List AV) (rows : List Blk) (pre : Bool) (v : AV) (rows' : List Blk) (h : e52 args rows = some (pre, v, rows')) (hp : pre = true) : Con Try.prog 52 args rows v rows' := by
  unfold e52 at h
  split at h
  · cases h; exact con52 _ _ _ _ hp
  · cases h
-- SPEC 52
end Go.Proofs.Ytgifjphinkbcaaa

set_option maxRecDepth 100000
set_option linter.unusedVariables false
namespace Go.Proofs.Ytgifjphinkbcaaa
open Go Go.Ev

/-! ### isName$1 -/
noncomputable def c85 : Code := match Try.f85.body with | some c => c | _ => .skip
theorem lok85 : LOK Try.prog S0 (ro 85) (fun _ _ => none) 0 false c85 [] :=
  lok_lo (fun _ _ _ _ _ _ _ h _ => by cases h) c85 [] false (locate_nil _) (by kernel_rfl)
noncomputable def t85 (c : Int) : Tr ((Bool)) :=
  .cn (decide (c ≥ 97)) (.cn (decide (c ≤ 122)) (.lf (false)) (.cn (decide (c ≥ 48)) (.cn (decide (c ≤ 57)) (.lf (false)) (.lf (!c == 45))) (.lf (!c == 45)))) (.cn (decide (c ≥ 48)) (.cn (decide (c ≤ 57)) (.lf (false)) (.lf (!c == 45))) (.lf (!c == 45)))
noncomputable def g85 (c : Int) : Bool := (t85 c).g
noncomputable def w85_0 (c : Int) : Bool := (t85 c).val
theorem eq85 (c : Int) : evF Try.prog S0 (ro 85) (fun _ _ => none) Try.f85 [.i .i32 c] = (t85 c).opt (fun (x : (Bool)) => (.b x : AV)) := by kernel_rfl
theorem con85 (c : Int) (h : g85 c = true) : Con Try.prog 85 [.i .i32 c] [] (.b (w85_0 c)) [] :=
  con_of S0_ok mixed Try.func85 (c := c85) rfl (names 85 _ Try.func85) lok85 ((eq85 c).trans (Tr.sound _ _ h))
noncomputable def e85 (args : List AV) (rows : List Blk) : Option (Bool × AV × List Blk) := match args, rows with
  | [.i .i32 c], [] => some (g85 c, .b (w85_0 c), [])
  | _, _ => none
theorem e85_ok (args : List AV) (rows : List Blk) (pre : Bool) (v : AV) (rows' : List Blk) (h : e85 args rows = some (pre, v, rows')) (hp : pre = true) : Con Try.prog 85 args rows v rows' := by
  unfold e85 at h
  split at h
  · cases h; exact con85 _ hp
  · cases h
-- SPEC 85
end Go.Proofs.Ytgifjphinkbcaaa

set_option maxRecDepth 100000
set_option linter.unusedVariables false
namespace Go.Proofs.Ytgifjphinkbcaaa
open Go Go.Ev

/-! ### SameInts -/
noncomputable def c28 : Code := match Try.f28.body with | some c => c | _ => .skip
noncomputable def lp28a : Code := loopAt c28 [true, true, false, true, false]
noncomputable def s28a (xs : List (List AV)) (ys : List (List AV)) (t4 : Bool) (t5 : Int) : St :=
  { t := [(0, .rs 3 xs), (1, .rs 3 ys), (4, .b t4), (5, .i .i64 t5)], m := [], nx := 0, nt := 26 }
structure S28a where
  t5 : Int
inductive T28a where
  | x0 (t4' : Bool) (t5 : Int)
  | x1 (t5 : Int)
noncomputable def stp28a (xs : List (List AV)) (ys : List (List AV)) (t4 : Bool) (t5 : Int) : Lp S28a T28a :=
  cond (decide (t5 < (↑xs.length : Int))) (cond (inb t5 xs.length) (cond (inb t5 ys.length) (cond (fI (xs.getD t5.toNat []) 0 != fI (ys.getD t5.toNat []) 0) (.out (.x0 false t5)) (.go ⟨IntKind.i64.wrap (t5 + 1)⟩)) (.bad)) (.bad)) (.out (.x1 t5))
noncomputable def o28a_0 (xs : List (List AV)) (ys : List (List AV)) (t4 : Bool) (t4' : Bool) (t5 : Int) : St :=
  { t := [(0, .rs 3 xs), (1, .rs 3 ys), (4, .b t4'), (5, .i .i64 t5)], m := [], nx := 0, nt := 26 }
noncomputable def o28a_1 (xs : List (List AV)) (ys : List (List AV)) (t4 : Bool) (t5 : Int) : St :=
  { t := [(0, .rs 3 xs), (1, .rs 3 ys), (4, .b t4), (5, .i .i64 t5)], m := [], nx := 0, nt := 26 }
noncomputable def ou28a (xs : List (List AV)) (ys : List (List AV)) (t4 : Bool) : T28a → Ex × St
  | .x0 t4' t5 => (.ret, o28a_0 xs ys t4 t4' t5)
  | .x1 t5 => (.ext 0, o28a_1 xs ys t4 t5)
noncomputable def r28a (xs : List (List AV)) (ys : List (List AV)) (t4 : Bool) (t5 : Int) : Option T28a := run (fun x => stp28a xs ys t4 x.t5) (⟨t5⟩ : S28a)
noncomputable def i28a_0 (xs : List (List AV)) (ys : List (List AV)) (t4 : Bool) (t5 : Int) : Bool := match r28a xs ys t4 t5 with
  | some (.x0 _ _) => true
  | _ => false
noncomputable def v28a_0_t4' (xs : List (List AV)) (ys : List (List AV)) (t4 : Bool) (t5 : Int) : Bool := match r28a xs ys t4 t5 with
  | some (.x0 t4' _) => t4'
  | _ => default
noncomputable def v28a_0_t5 (xs : List (List AV)) (ys : List (List AV)) (t4 : Bool) (t5 : Int) : Int := match r28a xs ys t4 t5 with
  | some (.x0 _ t5) => t5
  | _ => default
noncomputable def i28a_1 (xs : List (List AV)) (ys : List (List AV)) (t4 : Bool) (t5 : Int) : Bool := match r28a xs ys t4 t5 with
  | some (.x1 _) => true
  | _ => false
noncomputable def v28a_1_t5 (xs : List (List AV)) (ys : List (List AV)) (t4 : Bool) (t5 : Int) : Int := match r28a xs ys t4 t5 with
  | some (.x1 t5) => t5
  | _ => default
noncomputable def l28a (st : St) : Option (List (Bool × Ex × St)) := match normW Try.prog [(0, none), (1, none), (4, none), (5, none)] 0 st with
  | some ([.rs 3 xs, .rs 3 ys, .b t4, .i .i64 t5], [], 0, 26) => some [(i28a_0 xs ys t4 t5, .ret, o28a_0 xs ys t4 (v28a_0_t4' xs ys t4 t5) (v28a_0_t5 xs ys t4 t5)), (i28a_1 xs ys t4 t5, .ext 0, o28a_1 xs ys t4 (v28a_1_t5 xs ys t4 t5))]
  | _ => none
noncomputable def L28 : LSpec := fun p st => match p with
  | [false, true, false, true, true] => l28a st
  | _ => none
theorem is28a_0 (xs : List (List AV)) (ys : List (List AV)) (t4 : Bool) (t5 : Int) (h : i28a_0 xs ys t4 t5 = true) : r28a xs ys t4 t5 = some (.x0 (v28a_0_t4' xs ys t4 t5) (v28a_0_t5 xs ys t4 t5)) := by
  unfold i28a_0 at h
  unfold v28a_0_t4' v28a_0_t5
  generalize r28a xs ys t4 t5 = r at h ⊢
  rcases r with _ | y
  · cases h
  · cases y <;> first | rfl | cases h
theorem is28a_1 (xs : List (List AV)) (ys : List (List AV)) (t4 : Bool) (t5 : Int) (h : i28a_1 xs ys t4 t5 = true) : r28a xs ys t4 t5 = some (.x1 (v28a_1_t5 xs ys t4 t5)) := by
  unfold i28a_1 at h
  unfold v28a_1_t5
  generalize r28a xs ys t4 t5 = r at h ⊢
  rcases r with _ | y
  · cases h
  · cases y <;> first | rfl | cases h
theorem round28a (xs : List (List AV)) (ys : List (List AV)) (t4 : Bool) (t5 : Int) : round Try.prog S0 (ro 28) L28 lp28a [false, true, false, true, true] [(0, none), (1, none), (4, none), (5, none)] 0 (s28a xs ys t4 t5) =
    cond (decide (t5 < (↑xs.length : Int))) (cond (inb t5 xs.length) (cond (inb t5 ys.length) (cond (fI (xs.getD t5.toNat []) 0 != fI (ys.getD t5.toNat []) 0) (some (.ret, o28a_0 xs ys t4 false t5)) (some (.nrm, s28a xs ys t4 (IntKind.i64.wrap (t5 + 1))))) (none)) (none)) (some (.ext 0, o28a_1 xs ys t4 t5)) := by kernel_rfl
theorem rnd28a (xs : List (List AV)) (ys : List (List AV)) (t4 : Bool) (x : S28a) : round Try.prog S0 (ro 28) L28 lp28a [false, true, false, true, true] [(0, none), (1, none), (4, none), (5, none)] 0 ((fun x => s28a xs ys t4 x.t5) x) = toR (fun x => s28a xs ys t4 x.t5) (ou28a xs ys t4) (stp28a xs ys t4 x.t5) := by
  refine (round28a _ _ _ _ ).trans ?_
  unfold stp28a
  simp only [toR_cond]
  rfl
theorem lok28a {st : St} {outs : List (Bool × Ex × St)} {e : Ex} {s : St} (hl : l28a st = some outs) (hch : Chosen outs e s) :
    ∃ keep nb, 0 ≤ nb ∧ LB Try.prog S0 (ro 28) L28 lp28a [false, true, false, true, true] keep nb st e s := by
  unfold l28a at hl
  split at hl
  · rename_i xs ys t4 t5 hno
    cases hl
    have hno := normW_norm hno
    refine ⟨_, _, ?_, .enter hno ?_⟩
    · decide
    have main := fun y h => LB_run (x := (⟨t5⟩ : S28a)) (y := y) (nb := 0) (fun y => by cases y <;> simp [ou28a]) (rnd28a xs ys t4) h
    obtain ⟨x, hx, hg, rfl, rfl⟩ := chosen_any hch
    simp only [List.mem_cons, List.not_mem_nil, or_false] at hx
    rcases hx with rfl | rfl
    · exact main _ (is28a_0 xs ys t4 t5 hg)
    · exact main _ (is28a_1 xs ys t4 t5 hg)
  · cases hl
theorem L28_ok (q : Pl) (c : Code) (hq : locate c28 q.reverse = some (.loop c)) (st : St) (outs : List (Bool × Ex × St)) (e : Ex) (s : St) (hl : L28 q st = some outs) (hch : Chosen outs e s) :
    ∃ keep nb, 0 ≤ nb ∧ LB Try.prog S0 (ro 28) L28 c q keep nb st e s := by
  unfold L28 at hl
  split at hl
  · have : locate c28 ([false, true, false, true, true] : Pl).reverse = some (.loop lp28a) := by kernel_rfl
    rw [this] at hq
    cases hq
    exact lok28a hl hch
  · cases hl
theorem lok28 : LOK Try.prog S0 (ro 28) L28 0 false c28 [] :=
  lok_lo L28_ok c28 [] false (locate_nil _) (by kernel_rfl)
noncomputable def t28 (xs ys : List (List AV)) : Tr ((Bool)) :=
  .cn ((↑xs.length : Int) != (↑ys.length : Int)) (.lf (false)) (.cn (i28a_0 xs ys false 0) (.lf (v28a_0_t4' xs ys false 0)) (.cn (i28a_1 xs ys false 0) (.lf (true)) (.nn)))
noncomputable def g28 (xs ys : List (List AV)) : Bool := (t28 xs ys).g
noncomputable def w28_0 (xs ys : List (List AV)) : Bool := (t28 xs ys).val
theorem eq28 (xs ys : List (List AV)) : evF Try.prog S0 (ro 28) L28 Try.f28 [.rs 3 xs, .rs 3 ys] = (t28 xs ys).opt (fun (x : (Bool)) => (.b x : AV)) := by kernel_rfl
theorem con28 (xs ys : List (List AV)) (h : g28 xs ys = true) : Con Try.prog 28 [.rs 3 xs, .rs 3 ys] [] (.b (w28_0 xs ys)) [] :=
  con_of S0_ok mixed Try.func28 (c := c28) rfl (names 28 _ Try.func28) lok28 ((eq28 xs ys).trans (Tr.sound _ _ h))
noncomputable def e28 (args : List AV) (rows : List Blk) : Option (Bool × AV × List Blk) := match args, rows with
  | [.rs 3 xs, .rs 3 ys], [] => some (g28 xs ys, .b (w28_0 xs ys), [])
  | _, _ => none
theorem e28_ok (args : List AV) (rows : List Blk) (pre : Bool) (v : AV) (rows' : List Blk) (h : e28 args rows = some (pre, v, rows')) (hp : pre = true) : Con Try.prog 28 args rows v rows' := by
  unfold e28 at h
  split at h
  · cases h; exact con28 _ _ hp
  · cases h
-- SPEC 28
end Go.Proofs.Ytgifjphinkbcaaa

set_option maxRecDepth 100000
set_option linter.unusedVariables false
namespace Go.Proofs.Ytgifjphinkbcaaa
open Go Go.Ev

/-! ### swapped -/
noncomputable def c31 : Code := match Try.f31.body with | some c => c | _ => .skip
theorem lok31 : LOK Try.prog S0 (ro 31) (fun _ _ => none) 0 false c31 [] :=
  lok_lo (fun _ _ _ _ _ _ _ h _ => by cases h) c31 [] false (locate_nil _) (by kernel_rfl)
noncomputable def t31 (ra rb rc : Int) (ps : List (List AV)) : Tr ((Int) × (Int) × (Int) × (List (List AV))) :=
  .lf (ra, rc, rb, ps)
noncomputable def g31 (ra rb rc : Int) (ps : List (List AV)) : Bool := (t31 ra rb rc ps).g
noncomputable def w31_0 (ra rb rc : Int) (ps : List (List AV)) : Int := (t31 ra rb rc ps).val.1
noncomputable def w31_1 (ra rb rc : Int) (ps : List (List AV)) : Int := (t31 ra rb rc ps).val.2.1
noncomputable def w31_2 (ra rb rc : Int) (ps : List (List AV)) : Int := (t31 ra rb rc ps).val.2.2.1
noncomputable def w31_3 (ra rb rc : Int) (ps : List (List AV)) : List (List AV) := (t31 ra rb rc ps).val.2.2.2
theorem eq31 (ra rb rc : Int) (ps : List (List AV)) : evF Try.prog S0 (ro 31) (fun _ _ => none) Try.f31 [.agg [.i .i64 ra, .i .i64 rb, .i .i64 rc, .rs 31 ps]] = (t31 ra rb rc ps).opt (fun (x : (Int) × (Int) × (Int) × (List (List AV))) => (.agg [.i .i64 x.1, .i .i64 x.2.1, .i .i64 x.2.2.1, .rs 31 x.2.2.2] : AV)) := by kernel_rfl
theorem con31 (ra rb rc : Int) (ps : List (List AV)) (h : g31 ra rb rc ps = true) : Con Try.prog 31 [.agg [.i .i64 ra, .i .i64 rb, .i .i64 rc, .rs 31 ps]] [] (.agg [.i .i64 (w31_0 ra rb rc ps), .i .i64 (w31_1 ra rb rc ps), .i .i64 (w31_2 ra rb rc ps), .rs 31 (w31_3 ra rb rc ps)]) [] :=
  con_of S0_ok mixed Try.func31 (c := c31) rfl (names 31 _ Try.func31) lok31 ((eq31 ra rb rc ps).trans (Tr.sound _ _ h))
noncomputable def e31 (args : List AV) (rows : List Blk) : Option (Bool × AV × List Blk) := match args, rows with
  | [.agg [.i .i64 ra, .i .i64 rb, .i .i64 rc, .rs 31 ps]], [] => some (g31 ra rb rc ps, .agg [.i .i64 (w31_0 ra rb rc ps), .i .i64 (w31_1 ra rb rc ps), .i .i64 (w31_2 ra rb rc ps), .rs 31 (w31_3 ra rb rc ps)], [])
  | _, _ => none
theorem e31_ok (args : List AV) (rows : List Blk) (pre : Bool) (v : AV) (rows' : List Blk) (h : e31 args rows = some (pre, v, rows')) (hp : pre = true) : Con Try.prog 31 args rows v rows' := by
  unfold e31 at h
  split at h
  · cases h; exact con31 _ _ _ _ hp
  · cases h
-- SPEC 31
end Go.Proofs.Ytgifjphinkbcaaa

set_option maxRecDepth 100000
set_option linter.unusedVariables false
namespace Go.Proofs.Ytgifjphinkbcaaa
open Go Go.Ev

/-! ### gap.next -/
noncomputable def c71 : Code := match Try.f71.body with | some c => c | _ => .skip
theorem lok71 : LOK Try.prog S0 (ro 71) (fun _ _ => none) 0 false c71 [] :=
  lok_lo (fun _ _ _ _ _ _ _ h _ => by cases h) c71 [] false (locate_nil _) (by kernel_rfl)
noncomputable def t71 (q0 q1 : Int) (nm : ByteArray) (pa pb pc pd : Int) : Tr ((Int) × (Int) × (Bool)) :=
  .cn (pb == q1) (.lf (IntKind.i64.wrap (q0 - pa), pc, decide (pa ≤ q0))) (.lf (IntKind.i64.wrap (q0 - pa), pc, false))
noncomputable def g71 (q0 q1 : Int) (nm : ByteArray) (pa pb pc pd : Int) : Bool := (t71 q0 q1 nm pa pb pc pd).g
noncomputable def w71_0 (q0 q1 : Int) (nm : ByteArray) (pa pb pc pd : Int) : Int := (t71 q0 q1 nm pa pb pc pd).val.1
noncomputable def w71_1 (q0 q1 : Int) (nm : ByteArray) (pa pb pc pd : Int) : Int := (t71 q0 q1 nm pa pb pc pd).val.2.1
noncomputable def w71_2 (q0 q1 : Int) (nm : ByteArray) (pa pb pc pd : Int) : Bool := (t71 q0 q1 nm pa pb pc pd).val.2.2
theorem eq71 (q0 q1 : Int) (nm : ByteArray) (pa pb pc pd : Int) : evF Try.prog S0 (ro 71) (fun _ _ => none) Try.f71 [.agg [.i .i64 q0, .i .i64 q1], .agg [.s nm, .i .i64 pa, .i .i64 pb, .i .i64 pc, .i .i64 pd]] = (t71 q0 q1 nm pa pb pc pd).opt (fun (x : (Int) × (Int) × (Bool)) => (.tup [.agg [.i .i64 x.1, .i .i64 x.2.1], .b x.2.2] : AV)) := by kernel_rfl
theorem con71 (q0 q1 : Int) (nm : ByteArray) (pa pb pc pd : Int) (h : g71 q0 q1 nm pa pb pc pd = true) : Con Try.prog 71 [.agg [.i .i64 q0, .i .i64 q1], .agg [.s nm, .i .i64 pa, .i .i64 pb, .i .i64 pc, .i .i64 pd]] [] (.tup [.agg [.i .i64 (w71_0 q0 q1 nm pa pb pc pd), .i .i64 (w71_1 q0 q1 nm pa pb pc pd)], .b (w71_2 q0 q1 nm pa pb pc pd)]) [] :=
  con_of S0_ok mixed Try.func71 (c := c71) rfl (names 71 _ Try.func71) lok71 ((eq71 q0 q1 nm pa pb pc pd).trans (Tr.sound _ _ h))
noncomputable def e71 (args : List AV) (rows : List Blk) : Option (Bool × AV × List Blk) := match args, rows with
  | [.agg [.i .i64 q0, .i .i64 q1], .agg [.s nm, .i .i64 pa, .i .i64 pb, .i .i64 pc, .i .i64 pd]], [] => some (g71 q0 q1 nm pa pb pc pd, .tup [.agg [.i .i64 (w71_0 q0 q1 nm pa pb pc pd), .i .i64 (w71_1 q0 q1 nm pa pb pc pd)], .b (w71_2 q0 q1 nm pa pb pc pd)], [])
  | _, _ => none
theorem e71_ok (args : List AV) (rows : List Blk) (pre : Bool) (v : AV) (rows' : List Blk) (h : e71 args rows = some (pre, v, rows')) (hp : pre = true) : Con Try.prog 71 args rows v rows' := by
  unfold e71 at h
  split at h
  · cases h; exact con71 _ _ _ _ _ _ _ hp
  · cases h
-- SPEC 71
end Go.Proofs.Ytgifjphinkbcaaa

set_option maxRecDepth 100000
set_option linter.unusedVariables false
namespace Go.Proofs.Ytgifjphinkbcaaa
open Go Go.Ev

/-! ### counts.of -/
noncomputable def c51 : Code := match Try.f51.body with | some c => c | _ => .skip
theorem lok51 : LOK Try.prog S0 (ro 51) (fun _ _ => none) 0 false c51 [] :=
  lok_lo (fun _ _ _ _ _ _ _ h _ => by cases h) c51 [] false (locate_nil _) (by kernel_rfl)
noncomputable def t51 (cs : List (List AV)) (q0 q1 : Int) : Tr ((Int)) :=
  .cn (inb q0 cs.length) (.cn (inb q1 10) (.cn (ctsAt (cts Try.prog 91) (0 + q1.toNat * 1) (cts Try.prog 3)) (.lf (toI ((cs.getD q0.toNat []).getD (0 + q1.toNat * 1) AV.u))) (.nn)) (.nn)) (.nn)
noncomputable def g51 (cs : List (List AV)) (q0 q1 : Int) : Bool := (t51 cs q0 q1).g
noncomputable def w51_0 (cs : List (List AV)) (q0 q1 : Int) : Int := (t51 cs q0 q1).val
theorem eq51 (cs : List (List AV)) (q0 q1 : Int) : evF Try.prog S0 (ro 51) (fun _ _ => none) Try.f51 [.rs 91 cs, .agg [.i .i64 q0, .i .i64 q1]] = (t51 cs q0 q1).opt (fun (x : (Int)) => (.i .i64 x : AV)) := by kernel_rfl
theorem con51 (cs : List (List AV)) (q0 q1 : Int) (h : g51 cs q0 q1 = true) : Con Try.prog 51 [.rs 91 cs, .agg [.i .i64 q0, .i .i64 q1]] [] (.i .i64 (w51_0 cs q0 q1)) [] :=
  con_of S0_ok mixed Try.func51 (c := c51) rfl (names 51 _ Try.func51) lok51 ((eq51 cs q0 q1).trans (Tr.sound _ _ h))
noncomputable def e51 (args : List AV) (rows : List Blk) : Option (Bool × AV × List Blk) := match args, rows with
  | [.rs 91 cs, .agg [.i .i64 q0, .i .i64 q1]], [] => some (g51 cs q0 q1, .i .i64 (w51_0 cs q0 q1), [])
  | _, _ => none
theorem e51_ok (args : List AV) (rows : List Blk) (pre : Bool) (v : AV) (rows' : List Blk) (h : e51 args rows = some (pre, v, rows')) (hp : pre = true) : Con Try.prog 51 args rows v rows' := by
  unfold e51 at h
  split at h
  · cases h; exact con51 _ _ _ hp
  · cases h
-- SPEC 51
end Go.Proofs.Ytgifjphinkbcaaa

set_option maxRecDepth 100000
set_option linter.unusedVariables false
namespace Go.Proofs.Ytgifjphinkbcaaa
open Go Go.Ev

/-! ### patterns -/
noncomputable def c75 : Code := match Try.f75.body with | some c => c | _ => .skip
theorem lok75 : LOK Try.prog S0 (ro 75) (fun _ _ => none) 0 false c75 [] :=
  lok_lo (fun _ _ _ _ _ _ _ h _ => by cases h) c75 [] false (locate_nil _) (by kernel_rfl)
noncomputable def t75 (da db : Int) (cs : List (List AV)) (q0 q1 q2 q3 q4 q5 q6 q7 : Int) : Tr ((Int) × (Int) × (List (List AV)) × (Int) × (Int) × (Int) × (Int) × (Int) × (Int) × (Int) × (Int)) :=
  .lf (da, db, cs, q0, q1, q2, q3, q4, q5, q6, q7)
noncomputable def g75 (da db : Int) (cs : List (List AV)) (q0 q1 q2 q3 q4 q5 q6 q7 : Int) : Bool := (t75 da db cs q0 q1 q2 q3 q4 q5 q6 q7).g
noncomputable def w75_0 (da db : Int) (cs : List (List AV)) (q0 q1 q2 q3 q4 q5 q6 q7 : Int) : Int := (t75 da db cs q0 q1 q2 q3 q4 q5 q6 q7).val.1
noncomputable def w75_1 (da db : Int) (cs : List (List AV)) (q0 q1 q2 q3 q4 q5 q6 q7 : Int) : Int := (t75 da db cs q0 q1 q2 q3 q4 q5 q6 q7).val.2.1
noncomputable def w75_2 (da db : Int) (cs : List (List AV)) (q0 q1 q2 q3 q4 q5 q6 q7 : Int) : List (List AV) := (t75 da db cs q0 q1 q2 q3 q4 q5 q6 q7).val.2.2.1
noncomputable def w75_3 (da db : Int) (cs : List (List AV)) (q0 q1 q2 q3 q4 q5 q6 q7 : Int) : Int := (t75 da db cs q0 q1 q2 q3 q4 q5 q6 q7).val.2.2.2.1
noncomputable def w75_4 (da db : Int) (cs : List (List AV)) (q0 q1 q2 q3 q4 q5 q6 q7 : Int) : Int := (t75 da db cs q0 q1 q2 q3 q4 q5 q6 q7).val.2.2.2.2.1
noncomputable def w75_5 (da db : Int) (cs : List (List AV)) (q0 q1 q2 q3 q4 q5 q6 q7 : Int) : Int := (t75 da db cs q0 q1 q2 q3 q4 q5 q6 q7).val.2.2.2.2.2.1
noncomputable def w75_6 (da db : Int) (cs : List (List AV)) (q0 q1 q2 q3 q4 q5 q6 q7 : Int) : Int := (t75 da db cs q0 q1 q2 q3 q4 q5 q6 q7).val.2.2.2.2.2.2.1
noncomputable def w75_7 (da db : Int) (cs : List (List AV)) (q0 q1 q2 q3 q4 q5 q6 q7 : Int) : Int := (t75 da db cs q0 q1 q2 q3 q4 q5 q6 q7).val.2.2.2.2.2.2.2.1
noncomputable def w75_8 (da db : Int) (cs : List (List AV)) (q0 q1 q2 q3 q4 q5 q6 q7 : Int) : Int := (t75 da db cs q0 q1 q2 q3 q4 q5 q6 q7).val.2.2.2.2.2.2.2.2.1
noncomputable def w75_9 (da db : Int) (cs : List (List AV)) (q0 q1 q2 q3 q4 q5 q6 q7 : Int) : Int := (t75 da db cs q0 q1 q2 q3 q4 q5 q6 q7).val.2.2.2.2.2.2.2.2.2.1
noncomputable def w75_10 (da db : Int) (cs : List (List AV)) (q0 q1 q2 q3 q4 q5 q6 q7 : Int) : Int := (t75 da db cs q0 q1 q2 q3 q4 q5 q6 q7).val.2.2.2.2.2.2.2.2.2.2
theorem eq75 (da db : Int) (cs : List (List AV)) (q0 q1 q2 q3 q4 q5 q6 q7 : Int) : evF Try.prog S0 (ro 75) (fun _ _ => none) Try.f75 [.agg [.i .i64 da, .i .i64 db, .rs 64 cs], .agg [.i .i64 q0, .i .i64 q1, .i .i64 q2, .i .i64 q3, .i .i64 q4, .i .i64 q5, .i .i64 q6, .i .i64 q7]] = (t75 da db cs q0 q1 q2 q3 q4 q5 q6 q7).opt (fun (x : (Int) × (Int) × (List (List AV)) × (Int) × (Int) × (Int) × (Int) × (Int) × (Int) × (Int) × (Int)) => (.fn 88 [.rp [.int .i64, .int .i64, .sl 64] [.i .i64 x.1, .i .i64 x.2.1, .rs 64 x.2.2.1] 0, .rp [.int .i64, .int .i64, .int .i64, .int .i64, .int .i64, .int .i64, .int .i64, .int .i64] [.i .i64 x.2.2.2.1, .i .i64 x.2.2.2.2.1, .i .i64 x.2.2.2.2.2.1, .i .i64 x.2.2.2.2.2.2.1, .i .i64 x.2.2.2.2.2.2.2.1, .i .i64 x.2.2.2.2.2.2.2.2.1, .i .i64 x.2.2.2.2.2.2.2.2.2.1, .i .i64 x.2.2.2.2.2.2.2.2.2.2] 0] : AV)) := by kernel_rfl
theorem con75 (da db : Int) (cs : List (List AV)) (q0 q1 q2 q3 q4 q5 q6 q7 : Int) (h : g75 da db cs q0 q1 q2 q3 q4 q5 q6 q7 = true) : Con Try.prog 75 [.agg [.i .i64 da, .i .i64 db, .rs 64 cs], .agg [.i .i64 q0, .i .i64 q1, .i .i64 q2, .i .i64 q3, .i .i64 q4, .i .i64 q5, .i .i64 q6, .i .i64 q7]] [] (.fn 88 [.rp [.int .i64, .int .i64, .sl 64] [.i .i64 (w75_0 da db cs q0 q1 q2 q3 q4 q5 q6 q7), .i .i64 (w75_1 da db cs q0 q1 q2 q3 q4 q5 q6 q7), .rs 64 (w75_2 da db cs q0 q1 q2 q3 q4 q5 q6 q7)] 0, .rp [.int .i64, .int .i64, .int .i64, .int .i64, .int .i64, .int .i64, .int .i64, .int .i64] [.i .i64 (w75_3 da db cs q0 q1 q2 q3 q4 q5 q6 q7), .i .i64 (w75_4 da db cs q0 q1 q2 q3 q4 q5 q6 q7), .i .i64 (w75_5 da db cs q0 q1 q2 q3 q4 q5 q6 q7), .i .i64 (w75_6 da db cs q0 q1 q2 q3 q4 q5 q6 q7), .i .i64 (w75_7 da db cs q0 q1 q2 q3 q4 q5 q6 q7), .i .i64 (w75_8 da db cs q0 q1 q2 q3 q4 q5 q6 q7), .i .i64 (w75_9 da db cs q0 q1 q2 q3 q4 q5 q6 q7), .i .i64 (w75_10 da db cs q0 q1 q2 q3 q4 q5 q6 q7)] 0]) [] :=
  con_of S0_ok mixed Try.func75 (c := c75) rfl (names 75 _ Try.func75) lok75 ((eq75 da db cs q0 q1 q2 q3 q4 q5 q6 q7).trans (Tr.sound _ _ h))
noncomputable def e75 (args : List AV) (rows : List Blk) : Option (Bool × AV × List Blk) := match args, rows with
  | [.agg [.i .i64 da, .i .i64 db, .rs 64 cs], .agg [.i .i64 q0, .i .i64 q1, .i .i64 q2, .i .i64 q3, .i .i64 q4, .i .i64 q5, .i .i64 q6, .i .i64 q7]], [] => some (g75 da db cs q0 q1 q2 q3 q4 q5 q6 q7, .fn 88 [.rp [.int .i64, .int .i64, .sl 64] [.i .i64 (w75_0 da db cs q0 q1 q2 q3 q4 q5 q6 q7), .i .i64 (w75_1 da db cs q0 q1 q2 q3 q4 q5 q6 q7), .rs 64 (w75_2 da db cs q0 q1 q2 q3 q4 q5 q6 q7)] 0, .rp [.int .i64, .int .i64, .int .i64, .int .i64, .int .i64, .int .i64, .int .i64, .int .i64] [.i .i64 (w75_3 da db cs q0 q1 q2 q3 q4 q5 q6 q7), .i .i64 (w75_4 da db cs q0 q1 q2 q3 q4 q5 q6 q7), .i .i64 (w75_5 da db cs q0 q1 q2 q3 q4 q5 q6 q7), .i .i64 (w75_6 da db cs q0 q1 q2 q3 q4 q5 q6 q7), .i .i64 (w75_7 da db cs q0 q1 q2 q3 q4 q5 q6 q7), .i .i64 (w75_8 da db cs q0 q1 q2 q3 q4 q5 q6 q7), .i .i64 (w75_9 da db cs q0 q1 q2 q3 q4 q5 q6 q7), .i .i64 (w75_10 da db cs q0 q1 q2 q3 q4 q5 q6 q7)] 0], [])
  | _, _ => none
theorem e75_ok (args : List AV) (rows : List Blk) (pre : Bool) (v : AV) (rows' : List Blk) (h : e75 args rows = some (pre, v, rows')) (hp : pre = true) : Con Try.prog 75 args rows v rows' := by
  unfold e75 at h
  split at h
  · cases h; exact con75 _ _ _ _ _ _ _ _ _ _ _ hp
  · cases h
-- SPEC 75
end Go.Proofs.Ytgifjphinkbcaaa

set_option maxRecDepth 100000
set_option linter.unusedVariables false
namespace Go.Proofs.Ytgifjphinkbcaaa
open Go Go.Ev

/-! ### wanted -/
noncomputable def c77 : Code := match Try.f77.body with | some c => c | _ => .skip
noncomputable def lp77a : Code := loopAt c77 [true, true, false, true, false]
noncomputable def s77a (cs : List (List AV)) (t8 : Int) (t9 : Int) (m1_0 : Int) (m1_1 : Int) (m1_2 : Int) (m1_3 : Int) (m1_4 : Int) (m1_5 : Int) (m1_6 : Int) (m1_7 : Int) (m2 : List AV) : St :=
  { t := [(2, .p 1 0 0), (3, .p 2 0 0), (7, .rs 64 cs), (8, .i .i64 t8), (9, .i .i64 t9)], m := [(0, .dead), (1, .row 104 [[.i .i64 m1_0, .i .i64 m1_1, .i .i64 m1_2, .i .i64 m1_3, .i .i64 m1_4, .i .i64 m1_5, .i .i64 m1_6, .i .i64 m1_7]]), (2, .row 104 [m2])], nx := 3, nt := 20 }
structure S77a where
  t9 : Int
  m2 : List AV
inductive T77a where
  | x0 (t9 : Int) (m2 : List AV)
noncomputable def stp77a (cs : List (List AV)) (t8 : Int) (m1_0 : Int) (m1_1 : Int) (m1_2 : Int) (m1_3 : Int) (m1_4 : Int) (m1_5 : Int) (m1_6 : Int) (m1_7 : Int) (t9 : Int) (m2 : List AV) : Lp S77a T77a :=
  cond (decide (t9 < t8)) (cond (inb t9 cs.length) (cond (inb t9 8) (cond (ctsAt (cts Try.prog 104) (0 + t9.toNat * 1) (cts Try.prog 3) && Nat.blt 0 [m2].length) (.go ⟨IntKind.i64.wrap (t9 + 1), setCs ([m2].getD 0 []) (0 + t9.toNat * 1) [AV.i IntKind.i64 (fI (cs.getD t9.toNat []) 1)]⟩) (.bad)) (.bad)) (.bad)) (.out (.x0 t9 m2))
noncomputable def o77a_0 (cs : List (List AV)) (t8 : Int) (m1_0 : Int) (m1_1 : Int) (m1_2 : Int) (m1_3 : Int) (m1_4 : Int) (m1_5 : Int) (m1_6 : Int) (m1_7 : Int) (t9 : Int) (m2 : List AV) : St :=
  { t := [(2, .p 1 0 0), (3, .p 2 0 0), (7, .rs 64 cs), (8, .i .i64 t8), (9, .i .i64 t9)], m := [(0, .dead), (1, .row 104 [[.i .i64 m1_0, .i .i64 m1_1, .i .i64 m1_2, .i .i64 m1_3, .i .i64 m1_4, .i .i64 m1_5, .i .i64 m1_6, .i .i64 m1_7]]), (2, .row 104 [m2])], nx := 3, nt := 20 }
noncomputable def ou77a (cs : List (List AV)) (t8 : Int) (m1_0 : Int) (m1_1 : Int) (m1_2 : Int) (m1_3 : Int) (m1_4 : Int) (m1_5 : Int) (m1_6 : Int) (m1_7 : Int) : T77a → Ex × St
  | .x0 t9 m2 => (.ext 0, o77a_0 cs t8 m1_0 m1_1 m1_2 m1_3 m1_4 m1_5 m1_6 m1_7 t9 m2)
noncomputable def r77a (cs : List (List AV)) (t8 : Int) (m1_0 : Int) (m1_1 : Int) (m1_2 : Int) (m1_3 : Int) (m1_4 : Int) (m1_5 : Int) (m1_6 : Int) (m1_7 : Int) (t9 : Int) (m2 : List AV) : Option T77a := run (fun x => stp77a cs t8 m1_0 m1_1 m1_2 m1_3 m1_4 m1_5 m1_6 m1_7 x.t9 x.m2) (⟨t9, m2⟩ : S77a)
noncomputable def i77a_0 (cs : List (List AV)) (t8 : Int) (m1_0 : Int) (m1_1 : Int) (m1_2 : Int) (m1_3 : Int) (m1_4 : Int) (m1_5 : Int) (m1_6 : Int) (m1_7 : Int) (t9 : Int) (m2 : List AV) : Bool := match r77a cs t8 m1_0 m1_1 m1_2 m1_3 m1_4 m1_5 m1_6 m1_7 t9 m2 with
  | some (.x0 _ _) => true
  | _ => false
noncomputable def v77a_0_t9 (cs : List (List AV)) (t8 : Int) (m1_0 : Int) (m1_1 : Int) (m1_2 : Int) (m1_3 : Int) (m1_4 : Int) (m1_5 : Int) (m1_6 : Int) (m1_7 : Int) (t9 : Int) (m2 : List AV) : Int := match r77a cs t8 m1_0 m1_1 m1_2 m1_3 m1_4 m1_5 m1_6 m1_7 t9 m2 with
  | some (.x0 t9 _) => t9
  | _ => default
noncomputable def v77a_0_m2 (cs : List (List AV)) (t8 : Int) (m1_0 : Int) (m1_1 : Int) (m1_2 : Int) (m1_3 : Int) (m1_4 : Int) (m1_5 : Int) (m1_6 : Int) (m1_7 : Int) (t9 : Int) (m2 : List AV) : List AV := match r77a cs t8 m1_0 m1_1 m1_2 m1_3 m1_4 m1_5 m1_6 m1_7 t9 m2 with
  | some (.x0 _ m2) => m2
  | _ => default
noncomputable def l77a (st : St) : Option (List (Bool × Ex × St)) := match normW Try.prog [(2, none), (3, none), (7, none), (8, none), (9, none)] 3 st with
  | some ([.p 1 0 0, .p 2 0 0, .rs 64 cs, .i .i64 t8, .i .i64 t9], [(0, .dead), (1, .row 104 [[.i .i64 m1_0, .i .i64 m1_1, .i .i64 m1_2, .i .i64 m1_3, .i .i64 m1_4, .i .i64 m1_5, .i .i64 m1_6, .i .i64 m1_7]]), (2, .row 104 [m2])], 3, 20) => some [(i77a_0 cs t8 m1_0 m1_1 m1_2 m1_3 m1_4 m1_5 m1_6 m1_7 t9 m2, .ext 0, o77a_0 cs t8 m1_0 m1_1 m1_2 m1_3 m1_4 m1_5 m1_6 m1_7 (v77a_0_t9 cs t8 m1_0 m1_1 m1_2 m1_3 m1_4 m1_5 m1_6 m1_7 t9 m2) (v77a_0_m2 cs t8 m1_0 m1_1 m1_2 m1_3 m1_4 m1_5 m1_6 m1_7 t9 m2))]
  | _ => none
noncomputable def L77 : LSpec := fun p st => match p with
  | [false, true, false, true, true] => l77a st
  | _ => none
theorem is77a_0 (cs : List (List AV)) (t8 : Int) (m1_0 : Int) (m1_1 : Int) (m1_2 : Int) (m1_3 : Int) (m1_4 : Int) (m1_5 : Int) (m1_6 : Int) (m1_7 : Int) (t9 : Int) (m2 : List AV) (h : i77a_0 cs t8 m1_0 m1_1 m1_2 m1_3 m1_4 m1_5 m1_6 m1_7 t9 m2 = true) : r77a cs t8 m1_0 m1_1 m1_2 m1_3 m1_4 m1_5 m1_6 m1_7 t9 m2 = some (.x0 (v77a_0_t9 cs t8 m1_0 m1_1 m1_2 m1_3 m1_4 m1_5 m1_6 m1_7 t9 m2) (v77a_0_m2 cs t8 m1_0 m1_1 m1_2 m1_3 m1_4 m1_5 m1_6 m1_7 t9 m2)) := by
  unfold i77a_0 at h
  unfold v77a_0_t9 v77a_0_m2
  generalize r77a cs t8 m1_0 m1_1 m1_2 m1_3 m1_4 m1_5 m1_6 m1_7 t9 m2 = r at h ⊢
  rcases r with _ | y
  · cases h
  · cases y <;> first | rfl | cases h
theorem round77a (cs : List (List AV)) (t8 : Int) (t9 : Int) (m1_0 : Int) (m1_1 : Int) (m1_2 : Int) (m1_3 : Int) (m1_4 : Int) (m1_5 : Int) (m1_6 : Int) (m1_7 : Int) (m2 : List AV) : round Try.prog S0 (ro 77) L77 lp77a [false, true, false, true, true] [(2, none), (3, none), (7, none), (8, none), (9, none)] 3 (s77a cs t8 t9 m1_0 m1_1 m1_2 m1_3 m1_4 m1_5 m1_6 m1_7 m2) =
    cond (decide (t9 < t8)) (cond (inb t9 cs.length) (cond (inb t9 8) (cond (ctsAt (cts Try.prog 104) (0 + t9.toNat * 1) (cts Try.prog 3) && Nat.blt 0 [m2].length) (some (.nrm, s77a cs t8 (IntKind.i64.wrap (t9 + 1)) m1_0 m1_1 m1_2 m1_3 m1_4 m1_5 m1_6 m1_7 (setCs ([m2].getD 0 []) (0 + t9.toNat * 1) [AV.i IntKind.i64 (fI (cs.getD t9.toNat []) 1)]))) (none)) (none)) (none)) (some (.ext 0, o77a_0 cs t8 m1_0 m1_1 m1_2 m1_3 m1_4 m1_5 m1_6 m1_7 t9 m2)) := by kernel_rfl
theorem rnd77a (cs : List (List AV)) (t8 : Int) (m1_0 : Int) (m1_1 : Int) (m1_2 : Int) (m1_3 : Int) (m1_4 : Int) (m1_5 : Int) (m1_6 : Int) (m1_7 : Int) (x : S77a) : round Try.prog S0 (ro 77) L77 lp77a [false, true, false, true, true] [(2, none), (3, none), (7, none), (8, none), (9, none)] 3 ((fun x => s77a cs t8 x.t9 m1_0 m1_1 m1_2 m1_3 m1_4 m1_5 m1_6 m1_7 x.m2) x) = toR (fun x => s77a cs t8 x.t9 m1_0 m1_1 m1_2 m1_3 m1_4 m1_5 m1_6 m1_7 x.m2) (ou77a cs t8 m1_0 m1_1 m1_2 m1_3 m1_4 m1_5 m1_6 m1_7) (stp77a cs t8 m1_0 m1_1 m1_2 m1_3 m1_4 m1_5 m1_6 m1_7 x.t9 x.m2) := by
  refine (round77a _ _ _ _ _ _ _ _ _ _ _ _ ).trans ?_
  unfold stp77a
  simp only [toR_cond]
  rfl
theorem lok77a {st : St} {outs : List (Bool × Ex × St)} {e : Ex} {s : St} (hl : l77a st = some outs) (hch : Chosen outs e s) :
    ∃ keep nb, 0 ≤ nb ∧ LB Try.prog S0 (ro 77) L77 lp77a [false, true, false, true, true] keep nb st e s := by
  unfold l77a at hl
  split at hl
  · rename_i cs t8 t9 m1_0 m1_1 m1_2 m1_3 m1_4 m1_5 m1_6 m1_7 m2 hno
    cases hl
    have hno := normW_norm hno
    refine ⟨_, _, ?_, .enter hno ?_⟩
    · decide
    have main := fun y h => LB_run (x := (⟨t9, m2⟩ : S77a)) (y := y) (nb := 3) (fun y => by cases y <;> simp [ou77a]) (rnd77a cs t8 m1_0 m1_1 m1_2 m1_3 m1_4 m1_5 m1_6 m1_7) h
    obtain ⟨x, hx, hg, rfl, rfl⟩ := chosen_any hch
    simp only [List.mem_cons, List.not_mem_nil, or_false] at hx
    subst hx
    exact main _ (is77a_0 cs t8 m1_0 m1_1 m1_2 m1_3 m1_4 m1_5 m1_6 m1_7 t9 m2 hg)
  · cases hl
theorem L77_ok (q : Pl) (c : Code) (hq : locate c77 q.reverse = some (.loop c)) (st : St) (outs : List (Bool × Ex × St)) (e : Ex) (s : St) (hl : L77 q st = some outs) (hch : Chosen outs e s) :
    ∃ keep nb, 0 ≤ nb ∧ LB Try.prog S0 (ro 77) L77 c q keep nb st e s := by
  unfold L77 at hl
  split at hl
  · have : locate c77 ([false, true, false, true, true] : Pl).reverse = some (.loop lp77a) := by kernel_rfl
    rw [this] at hq
    cases hq
    exact lok77a hl hch
  · cases hl
theorem lok77 : LOK Try.prog S0 (ro 77) L77 0 false c77 [] :=
  lok_lo L77_ok c77 [] false (locate_nil _) (by kernel_rfl)
noncomputable def t77 (da db : Int) (cs : List (List AV)) : Tr ((Int) × (Int) × (Int) × (Int) × (Int) × (Int) × (Int) × (Int)) :=
  .cn (i77a_0 cs (↑cs.length : Int) 0 0 0 0 0 0 0 0 0 [AV.i IntKind.i64 0, AV.i IntKind.i64 0, AV.i IntKind.i64 0, AV.i IntKind.i64 0, AV.i IntKind.i64 0, AV.i IntKind.i64 0, AV.i IntKind.i64 0, AV.i IntKind.i64 0]) (.lf (fI ([v77a_0_m2 cs (↑cs.length : Int) 0 0 0 0 0 0 0 0 0 [AV.i IntKind.i64 0, AV.i IntKind.i64 0, AV.i IntKind.i64 0, AV.i IntKind.i64 0, AV.i IntKind.i64 0, AV.i IntKind.i64 0, AV.i IntKind.i64 0, AV.i IntKind.i64 0]].getD 0 []) 0, fI ([v77a_0_m2 cs (↑cs.length : Int) 0 0 0 0 0 0 0 0 0 [AV.i IntKind.i64 0, AV.i IntKind.i64 0, AV.i IntKind.i64 0, AV.i IntKind.i64 0, AV.i IntKind.i64 0, AV.i IntKind.i64 0, AV.i IntKind.i64 0, AV.i IntKind.i64 0]].getD 0 []) 1, fI ([v77a_0_m2 cs (↑cs.length : Int) 0 0 0 0 0 0 0 0 0 [AV.i IntKind.i64 0, AV.i IntKind.i64 0, AV.i IntKind.i64 0, AV.i IntKind.i64 0, AV.i IntKind.i64 0, AV.i IntKind.i64 0, AV.i IntKind.i64 0, AV.i IntKind.i64 0]].getD 0 []) 2, fI ([v77a_0_m2 cs (↑cs.length : Int) 0 0 0 0 0 0 0 0 0 [AV.i IntKind.i64 0, AV.i IntKind.i64 0, AV.i IntKind.i64 0, AV.i IntKind.i64 0, AV.i IntKind.i64 0, AV.i IntKind.i64 0, AV.i IntKind.i64 0, AV.i IntKind.i64 0]].getD 0 []) 3, fI ([v77a_0_m2 cs (↑cs.length : Int) 0 0 0 0 0 0 0 0 0 [AV.i IntKind.i64 0, AV.i IntKind.i64 0, AV.i IntKind.i64 0, AV.i IntKind.i64 0, AV.i IntKind.i64 0, AV.i IntKind.i64 0, AV.i IntKind.i64 0, AV.i IntKind.i64 0]].getD 0 []) 4, fI ([v77a_0_m2 cs (↑cs.length : Int) 0 0 0 0 0 0 0 0 0 [AV.i IntKind.i64 0, AV.i IntKind.i64 0, AV.i IntKind.i64 0, AV.i IntKind.i64 0, AV.i IntKind.i64 0, AV.i IntKind.i64 0, AV.i IntKind.i64 0, AV.i IntKind.i64 0]].getD 0 []) 5, fI ([v77a_0_m2 cs (↑cs.length : Int) 0 0 0 0 0 0 0 0 0 [AV.i IntKind.i64 0, AV.i IntKind.i64 0, AV.i IntKind.i64 0, AV.i IntKind.i64 0, AV.i IntKind.i64 0, AV.i IntKind.i64 0, AV.i IntKind.i64 0, AV.i IntKind.i64 0]].getD 0 []) 6, fI ([v77a_0_m2 cs (↑cs.length : Int) 0 0 0 0 0 0 0 0 0 [AV.i IntKind.i64 0, AV.i IntKind.i64 0, AV.i IntKind.i64 0, AV.i IntKind.i64 0, AV.i IntKind.i64 0, AV.i IntKind.i64 0, AV.i IntKind.i64 0, AV.i IntKind.i64 0]].getD 0 []) 7)) (.nn)
noncomputable def g77 (da db : Int) (cs : List (List AV)) : Bool := (t77 da db cs).g
noncomputable def w77_0 (da db : Int) (cs : List (List AV)) : Int := (t77 da db cs).val.1
noncomputable def w77_1 (da db : Int) (cs : List (List AV)) : Int := (t77 da db cs).val.2.1
noncomputable def w77_2 (da db : Int) (cs : List (List AV)) : Int := (t77 da db cs).val.2.2.1
noncomputable def w77_3 (da db : Int) (cs : List (List AV)) : Int := (t77 da db cs).val.2.2.2.1
noncomputable def w77_4 (da db : Int) (cs : List (List AV)) : Int := (t77 da db cs).val.2.2.2.2.1
noncomputable def w77_5 (da db : Int) (cs : List (List AV)) : Int := (t77 da db cs).val.2.2.2.2.2.1
noncomputable def w77_6 (da db : Int) (cs : List (List AV)) : Int := (t77 da db cs).val.2.2.2.2.2.2.1
noncomputable def w77_7 (da db : Int) (cs : List (List AV)) : Int := (t77 da db cs).val.2.2.2.2.2.2.2
theorem eq77 (da db : Int) (cs : List (List AV)) : evF Try.prog S0 (ro 77) L77 Try.f77 [.agg [.i .i64 da, .i .i64 db, .rs 64 cs]] = (t77 da db cs).opt (fun (x : (Int) × (Int) × (Int) × (Int) × (Int) × (Int) × (Int) × (Int)) => (.agg [.i .i64 x.1, .i .i64 x.2.1, .i .i64 x.2.2.1, .i .i64 x.2.2.2.1, .i .i64 x.2.2.2.2.1, .i .i64 x.2.2.2.2.2.1, .i .i64 x.2.2.2.2.2.2.1, .i .i64 x.2.2.2.2.2.2.2] : AV)) := by kernel_rfl
theorem con77 (da db : Int) (cs : List (List AV)) (h : g77 da db cs = true) : Con Try.prog 77 [.agg [.i .i64 da, .i .i64 db, .rs 64 cs]] [] (.agg [.i .i64 (w77_0 da db cs), .i .i64 (w77_1 da db cs), .i .i64 (w77_2 da db cs), .i .i64 (w77_3 da db cs), .i .i64 (w77_4 da db cs), .i .i64 (w77_5 da db cs), .i .i64 (w77_6 da db cs), .i .i64 (w77_7 da db cs)]) [] :=
  con_of S0_ok mixed Try.func77 (c := c77) rfl (names 77 _ Try.func77) lok77 ((eq77 da db cs).trans (Tr.sound _ _ h))
noncomputable def e77 (args : List AV) (rows : List Blk) : Option (Bool × AV × List Blk) := match args, rows with
  | [.agg [.i .i64 da, .i .i64 db, .rs 64 cs]], [] => some (g77 da db cs, .agg [.i .i64 (w77_0 da db cs), .i .i64 (w77_1 da db cs), .i .i64 (w77_2 da db cs), .i .i64 (w77_3 da db cs), .i .i64 (w77_4 da db cs), .i .i64 (w77_5 da db cs), .i .i64 (w77_6 da db cs), .i .i64 (w77_7 da db cs)], [])
  | _, _ => none
theorem e77_ok (args : List AV) (rows : List Blk) (pre : Bool) (v : AV) (rows' : List Blk) (h : e77 args rows = some (pre, v, rows')) (hp : pre = true) : Con Try.prog 77 args rows v rows' := by
  unfold e77 at h
  split at h
  · cases h; exact con77 _ _ _ hp
  · cases h
-- SPEC 77
end Go.Proofs.Ytgifjphinkbcaaa

set_option maxRecDepth 100000
set_option linter.unusedVariables false
namespace Go.Proofs.Ytgifjphinkbcaaa
open Go Go.Ev

/-! ### CheckRods$1 -/
noncomputable def c60 : Code := match Try.f60.body with | some c => c | _ => .skip
theorem lok60 : LOK Try.prog S0 (ro 60) (fun _ _ => none) 0 false c60 [] :=
  lok_lo (fun _ _ _ _ _ _ _ h _ => by cases h) c60 [] false (locate_nil _) (by kernel_rfl)
noncomputable def t60 (da db : Int) (cs : List (List AV)) (x y : Int) : Tr ((Bool)) :=
  .lf (decide (x > da))
noncomputable def g60 (da db : Int) (cs : List (List AV)) (x y : Int) : Bool := (t60 da db cs x y).g
noncomputable def w60_0 (da db : Int) (cs : List (List AV)) (x y : Int) : Bool := (t60 da db cs x y).val
theorem eq60 (da db : Int) (cs : List (List AV)) (x y : Int) : evF Try.prog S0 (ro 60) (fun _ _ => none) Try.f60 [.agg [.i .i64 x, .i .i64 y], .rp [.int .i64, .int .i64, .sl 64] [.i .i64 da, .i .i64 db, .rs 64 cs] 0] = (t60 da db cs x y).opt (fun (x : (Bool)) => (.b x : AV)) := by kernel_rfl
theorem con60 (da db : Int) (cs : List (List AV)) (x y : Int) (h : g60 da db cs x y = true) : Con Try.prog 60 [.agg [.i .i64 x, .i .i64 y], .rp [.int .i64, .int .i64, .sl 64] [.i .i64 da, .i .i64 db, .rs 64 cs] 0] [] (.b (w60_0 da db cs x y)) [] :=
  con_of S0_ok mixed Try.func60 (c := c60) rfl (names 60 _ Try.func60) lok60 ((eq60 da db cs x y).trans (Tr.sound _ _ h))
noncomputable def e60 (args : List AV) (rows : List Blk) : Option (Bool × AV × List Blk) := match args, rows with
  | [.agg [.i .i64 x, .i .i64 y], .rp [.int .i64, .int .i64, .sl 64] [.i .i64 da, .i .i64 db, .rs 64 cs] 0], [] => some (g60 da db cs x y, .b (w60_0 da db cs x y), [])
  | _, _ => none
theorem e60_ok (args : List AV) (rows : List Blk) (pre : Bool) (v : AV) (rows' : List Blk) (h : e60 args rows = some (pre, v, rows')) (hp : pre = true) : Con Try.prog 60 args rows v rows' := by
  unfold e60 at h
  split at h
  · cases h; exact con60 _ _ _ _ _ hp
  · cases h
-- SPEC 60
end Go.Proofs.Ytgifjphinkbcaaa

set_option maxRecDepth 100000
set_option linter.unusedVariables false
namespace Go.Proofs.Ytgifjphinkbcaaa
open Go Go.Ev
noncomputable def Sa : Ev.Spec := insS 60 e60 (insS 77 e77 (insS 75 e75 (insS 51 e51 (insS 71 e71 (insS 31 e31 (insS 28 e28 (insS 85 e85 (insS 52 e52 (insS 63 e63 (insS 62 e62 (insS 49 e49 (insS 48 e48 (insS 86 e86 (insS 57 e57 (insS 55 e55 (insS 18 e18 (S0)))))))))))))))))
theorem Sa_ok : SpecOK Try.prog Sa := insS_ok e60_ok (insS_ok e77_ok (insS_ok e75_ok (insS_ok e51_ok (insS_ok e71_ok (insS_ok e31_ok (insS_ok e28_ok (insS_ok e85_ok (insS_ok e52_ok (insS_ok e63_ok (insS_ok e62_ok (insS_ok e49_ok (insS_ok e48_ok (insS_ok e86_ok (insS_ok e57_ok (insS_ok e55_ok (insS_ok e18_ok (S0_ok)))))))))))))))))
end Go.Proofs.Ytgifjphinkbcaaa
