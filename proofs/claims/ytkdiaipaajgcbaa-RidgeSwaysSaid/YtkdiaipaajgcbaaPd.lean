/-
  The evaluator, its soundness, and the functions that several laws reach: what they compute, for all arguments; no conditions.
-/
import Derived.Test.YtkdiaipaajgcbaaPc
import Derived.KernelRfl
import Derived.Test.YtkdiaipaajgcbaaProg
set_option linter.unusedVariables false
namespace Go.Proofs.Ytkdiaipaajgcbaa
open Go Go.Ev
def roTab : List (Nat × List Nat) := [(3, [11, 15]), (6, [6, 9, 14, 16, 17, 20]), (7, [5, 6, 8, 9]), (10, [0]), (11, [9]), (12, [0]), (14, [5, 7, 10, 11, 12, 14, 16, 18]), (17, [5]), (18, [5, 6, 7, 8, 9]), (22, [6, 7]), (23, [2, 3, 5]), (28, [5, 7, 8]), (31, [2]), (34, [6, 7, 8]), (39, [5]), (43, [5, 7, 8]), (44, [6, 7, 12]), (51, [2]), (52, [2]), (53, [4]), (54, [4])]
def lookN : List (Nat × List Nat) → Nat → List Nat
  | [], _ => []
  | (k, l) :: r, f => cond (Nat.beq k f) l (lookN r f)
def ro (f : FuncId) (t : Nat) : Bool := !(lookN roTab f).any (Nat.beq t)
theorem mixed : Try.prog.follows .mixedOrders = true := by kernel_rfl
theorem names0 : (Try.prog.funcs.toList.all fun fn => !(fn.name == "runtime.NumGoroutine")) = true := by kernel_rfl
theorem names (f : FuncId) (fn : Func) (h : Try.prog.funcs[f]? = some fn) : (fn.name == "runtime.NumGoroutine") = false := by
  have := List.all_eq_true.1 names0 fn (Array.mem_toList_iff.2 (Array.mem_of_getElem? h))
  simpa using this
def S0 : Ev.Spec := fun _ _ _ => none
theorem S0_ok : SpecOK Try.prog S0 := fun _ _ _ _ _ _ h => by cases h
end Go.Proofs.Ytkdiaipaajgcbaa

set_option maxRecDepth 100000
set_option linter.unusedVariables false
namespace Go.Proofs.Ytkdiaipaajgcbaa
open Go Go.Ev

noncomputable def c55 : Code := match Try.f27.body with | some c => c | _ => .skip
theorem lok55 : LOK Try.prog S0 (ro 27) (fun _ _ => none) 0 false c55 [] :=
  lok_lo (fun _ _ _ _ _ _ _ h _ => by cases h) c55 [] false (locate_nil _) (by kernel_rfl)
noncomputable def t55 (a b c : Int) : Tr ((Bool)) :=
  .cn (decide (b ≤ a)) (.lf (decide (a ≤ c))) (.lf (false))
noncomputable def g55 (a b c : Int) : Bool := (t55 a b c).g
noncomputable def w55_0 (a b c : Int) : Bool := (t55 a b c).val
theorem eq55 (a b c : Int) : evF Try.prog S0 (ro 27) (fun _ _ => none) Try.f27 [.i .i64 a, .i .i64 b, .i .i64 c] = (t55 a b c).opt (fun (x : (Bool)) => (.b x : AV)) := by kernel_rfl
theorem con55 (a b c : Int) (h : g55 a b c = true) : Con Try.prog 27 [.i .i64 a, .i .i64 b, .i .i64 c] [] (.b (w55_0 a b c)) [] :=
  con_of S0_ok mixed Try.func27 (c := c55) rfl (names 27 _ Try.func27) lok55 ((eq55 a b c).trans (Tr.sound _ _ h))
noncomputable def e55 (args : List AV) (rows : List Blk) : Option (Bool × AV × List Blk) := match args, rows with
  | [.i .i64 a, .i .i64 b, .i .i64 c], [] => some (g55 a b c, .b (w55_0 a b c), [])
  | _, _ => none
theorem e55_ok (args : List AV) (rows : List Blk) (pre : Bool) (v : AV) (rows' : List Blk) (h : e55 args rows = some (pre, v, rows')) (hp : pre = true) : Con Try.prog 27 args rows v rows' := by
  unfold e55 at h
  split at h
  · cases h; exact con55 _ _ _ hp
  · cases h
-- SPEC 55
end Go.Proofs.Ytkdiaipaajgcbaa

set_option maxRecDepth 100000
set_option linter.unusedVariables false
namespace Go.Proofs.Ytkdiaipaajgcbaa
open Go Go.Ev
noncomputable def t57 (a b c : Int) : Tr ((Bool)) :=
  .cn (decide (a ≥ b)) (.lf (decide (a ≤ c))) (.lf (false))
noncomputable def g57 (a b c : Int) : Bool := (t57 a b c).g
noncomputable def w57_0 (a b c : Int) : Bool := (t57 a b c).val
end Go.Proofs.Ytkdiaipaajgcbaa
set_option maxRecDepth 100000
set_option linter.unusedVariables false
namespace Go.Proofs.Ytkdiaipaajgcbaa
open Go Go.Ev
end Go.Proofs.Ytkdiaipaajgcbaa
set_option maxRecDepth 100000
set_option linter.unusedVariables false
namespace Go.Proofs.Ytkdiaipaajgcbaa
open Go Go.Ev
theorem g55_true (a b c : Int) : g55 a b c = true := by
  unfold g55 t55
  cases decide (b ≤ a) <;> rfl
theorem w55_eq (a b c : Int) : w55_0 a b c = (decide (b ≤ a) && decide (a ≤ c)) := by
  unfold w55_0 t55
  cases decide (b ≤ a) <;> rfl
theorem w57_eq (a b c : Int) : g57 a b c = true ∧ w57_0 a b c = (decide (b ≤ a) && decide (a ≤ c)) := by
  unfold g57 w57_0 t57
  by_cases h : a ≥ b
  · simp [h, Tr.g, Tr.val]
  · simp [h, Tr.g, Tr.val]
end Go.Proofs.Ytkdiaipaajgcbaa

set_option maxRecDepth 100000
set_option linter.unusedVariables false
namespace Go.Proofs.Ytkdiaipaajgcbaa
open Go Go.Ev

noncomputable def c60 : Code := match Try.f38.body with | some c => c | _ => .skip
theorem lok60 : LOK Try.prog S0 (ro 38) (fun _ _ => none) 0 false c60 [] :=
  lok_lo (fun _ _ _ _ _ _ _ h _ => by cases h) c60 [] false (locate_nil _) (by kernel_rfl)
noncomputable def t60 (da db : Int) (cs : List (List AV)) (x y : Int) : Tr ((Bool)) :=
  .lf (decide (x > da))
noncomputable def g60 (da db : Int) (cs : List (List AV)) (x y : Int) : Bool := (t60 da db cs x y).g
noncomputable def w60_0 (da db : Int) (cs : List (List AV)) (x y : Int) : Bool := (t60 da db cs x y).val
theorem eq60 (da db : Int) (cs : List (List AV)) (x y : Int) : evF Try.prog S0 (ro 38) (fun _ _ => none) Try.f38 [.agg [.i .i64 x, .i .i64 y], .rp [.int .i64, .int .i64, .sl 44] [.i .i64 da, .i .i64 db, .rs 44 cs] 0] = (t60 da db cs x y).opt (fun (x : (Bool)) => (.b x : AV)) := by kernel_rfl
theorem con60 (da db : Int) (cs : List (List AV)) (x y : Int) (h : g60 da db cs x y = true) : Con Try.prog 38 [.agg [.i .i64 x, .i .i64 y], .rp [.int .i64, .int .i64, .sl 44] [.i .i64 da, .i .i64 db, .rs 44 cs] 0] [] (.b (w60_0 da db cs x y)) [] :=
  con_of S0_ok mixed Try.func38 (c := c60) rfl (names 38 _ Try.func38) lok60 ((eq60 da db cs x y).trans (Tr.sound _ _ h))
noncomputable def e60 (args : List AV) (rows : List Blk) : Option (Bool × AV × List Blk) := match args, rows with
  | [.agg [.i .i64 x, .i .i64 y], .rp [.int .i64, .int .i64, .sl 44] [.i .i64 da, .i .i64 db, .rs 44 cs] 0], [] => some (g60 da db cs x y, .b (w60_0 da db cs x y), [])
  | _, _ => none
theorem e60_ok (args : List AV) (rows : List Blk) (pre : Bool) (v : AV) (rows' : List Blk) (h : e60 args rows = some (pre, v, rows')) (hp : pre = true) : Con Try.prog 38 args rows v rows' := by
  unfold e60 at h
  split at h
  · cases h; exact con60 _ _ _ _ _ hp
  · cases h
-- SPEC 60
end Go.Proofs.Ytkdiaipaajgcbaa

set_option maxRecDepth 100000
set_option linter.unusedVariables false
namespace Go.Proofs.Ytkdiaipaajgcbaa
open Go Go.Ev
noncomputable def SA1 : Ev.Spec := insS 38 e60 (S0)
theorem SA1_ok : SpecOK Try.prog SA1 := insS_ok e60_ok (S0_ok)
end Go.Proofs.Ytkdiaipaajgcbaa

set_option maxRecDepth 100000
set_option maxHeartbeats 0
set_option linter.unusedVariables false
namespace Go.Proofs.Ytkdiaipaajgcbaa
open Go Go.Ev

noncomputable def c83 : Code := match Try.f47.body with | some c => c | _ => .skip
noncomputable def lp83a : Code := loopAt c83 [true, false, true, false]
noncomputable def s83a (xs : List (List AV)) (da db : Int) (cs : List (List AV)) (t4 t7 t8 : Int) : St :=
  { t := [(0, .rs 44 xs), (1, .fn 38 [.rp [.int .i64, .int .i64, .sl 44] [.i .i64 da, .i .i64 db, .rs 44 cs] 0]), (4, .i .i64 t4), (7, .i .i64 t7), (8, .i .i64 t8)], m := [], nx := 0, nt := 19 }
structure S83a where
  t8 : Int
inductive T83a where
  | x0 (t4' : Int) (t8 : Int)
  | x1 (t8 : Int)
noncomputable def stp83a (xs : List (List AV)) (da db : Int) (cs : List (List AV)) (t4 t7 t8 : Int) : Lp S83a T83a :=
  cond (decide (t8 < t7)) (cond (inb t8 xs.length) (cond (w60_0 da db cs (fI (xs.getD t8.toNat []) 0) (fI (xs.getD t8.toNat []) 1)) (.out (.x0 t8 t8)) (.go ⟨IntKind.i64.wrap (t8 + 1)⟩)) (.bad)) (.out (.x1 t8))
noncomputable def o83a_0 (xs : List (List AV)) (da db : Int) (cs : List (List AV)) (t4 t7 t4' t8 : Int) : St :=
  { t := [(0, .rs 44 xs), (1, .fn 38 [.rp [.int .i64, .int .i64, .sl 44] [.i .i64 da, .i .i64 db, .rs 44 cs] 0]), (4, .i .i64 t4'), (7, .i .i64 t7), (8, .i .i64 t8)], m := [], nx := 0, nt := 19 }
noncomputable def o83a_1 (xs : List (List AV)) (da db : Int) (cs : List (List AV)) (t4 t7 t8 : Int) : St :=
  { t := [(0, .rs 44 xs), (1, .fn 38 [.rp [.int .i64, .int .i64, .sl 44] [.i .i64 da, .i .i64 db, .rs 44 cs] 0]), (4, .i .i64 t4), (7, .i .i64 t7), (8, .i .i64 t8)], m := [], nx := 0, nt := 19 }
noncomputable def ou83a (xs : List (List AV)) (da db : Int) (cs : List (List AV)) (t4 t7 : Int) : T83a → Ex × St
  | .x0 t4' t8 => (.ret, o83a_0 xs da db cs t4 t7 t4' t8)
  | .x1 t8 => (.ext 0, o83a_1 xs da db cs t4 t7 t8)
noncomputable def r83a (xs : List (List AV)) (da db : Int) (cs : List (List AV)) (t4 t7 t8 : Int) : Option T83a := run (fun x => stp83a xs da db cs t4 t7 x.t8) (⟨t8⟩ : S83a)
noncomputable def i83a_0 (xs : List (List AV)) (da db : Int) (cs : List (List AV)) (t4 t7 t8 : Int) : Bool := match r83a xs da db cs t4 t7 t8 with
  | some (.x0 _ _) => true
  | _ => false
noncomputable def v83a_0_t4' (xs : List (List AV)) (da db : Int) (cs : List (List AV)) (t4 t7 t8 : Int) : Int := match r83a xs da db cs t4 t7 t8 with
  | some (.x0 t4' _) => t4'
  | _ => default
noncomputable def v83a_0_t8 (xs : List (List AV)) (da db : Int) (cs : List (List AV)) (t4 t7 t8 : Int) : Int := match r83a xs da db cs t4 t7 t8 with
  | some (.x0 _ t8) => t8
  | _ => default
noncomputable def i83a_1 (xs : List (List AV)) (da db : Int) (cs : List (List AV)) (t4 t7 t8 : Int) : Bool := match r83a xs da db cs t4 t7 t8 with
  | some (.x1 _) => true
  | _ => false
noncomputable def v83a_1_t8 (xs : List (List AV)) (da db : Int) (cs : List (List AV)) (t4 t7 t8 : Int) : Int := match r83a xs da db cs t4 t7 t8 with
  | some (.x1 t8) => t8
  | _ => default
noncomputable def l83a (st : St) : Option (List (Bool × Ex × St)) := match normW Try.prog [(0, none), (1, none), (4, none), (7, none), (8, none)] 0 st with
  | some ([.rs 44 xs, .fn 38 [.rp [.int .i64, .int .i64, .sl 44] [.i .i64 da, .i .i64 db, .rs 44 cs] 0], .i .i64 t4, .i .i64 t7, .i .i64 t8], [], 0, 19) => some [(i83a_0 xs da db cs t4 t7 t8, .ret, o83a_0 xs da db cs t4 t7 (v83a_0_t4' xs da db cs t4 t7 t8) (v83a_0_t8 xs da db cs t4 t7 t8)), (i83a_1 xs da db cs t4 t7 t8, .ext 0, o83a_1 xs da db cs t4 t7 (v83a_1_t8 xs da db cs t4 t7 t8))]
  | _ => none
noncomputable def L83 : LSpec := fun p st => match p with
  | [false, true, false, true] => l83a st
  | _ => none
theorem is83a_0 (xs : List (List AV)) (da db : Int) (cs : List (List AV)) (t4 t7 t8 : Int) (h : i83a_0 xs da db cs t4 t7 t8 = true) : r83a xs da db cs t4 t7 t8 = some (.x0 (v83a_0_t4' xs da db cs t4 t7 t8) (v83a_0_t8 xs da db cs t4 t7 t8)) := by
  unfold i83a_0 at h
  unfold v83a_0_t4' v83a_0_t8
  generalize r83a xs da db cs t4 t7 t8 = r at h ⊢
  rcases r with _ | y
  · cases h
  · cases y <;> first | rfl | cases h
theorem is83a_1 (xs : List (List AV)) (da db : Int) (cs : List (List AV)) (t4 t7 t8 : Int) (h : i83a_1 xs da db cs t4 t7 t8 = true) : r83a xs da db cs t4 t7 t8 = some (.x1 (v83a_1_t8 xs da db cs t4 t7 t8)) := by
  unfold i83a_1 at h
  unfold v83a_1_t8
  generalize r83a xs da db cs t4 t7 t8 = r at h ⊢
  rcases r with _ | y
  · cases h
  · cases y <;> first | rfl | cases h
theorem round83a (xs : List (List AV)) (da db : Int) (cs : List (List AV)) (t4 t7 t8 : Int) : round Try.prog SA1 (ro 47) L83 lp83a [false, true, false, true] [(0, none), (1, none), (4, none), (7, none), (8, none)] 0 (s83a xs da db cs t4 t7 t8) =
    cond (decide (t8 < t7)) (cond (inb t8 xs.length) (cond (w60_0 da db cs (fI (xs.getD t8.toNat []) 0) (fI (xs.getD t8.toNat []) 1)) (some (.ret, o83a_0 xs da db cs t4 t7 t8 t8)) (some (.nrm, s83a xs da db cs t4 t7 (IntKind.i64.wrap (t8 + 1))))) (none)) (some (.ext 0, o83a_1 xs da db cs t4 t7 t8)) := by kernel_rfl
theorem rnd83a (xs : List (List AV)) (da db : Int) (cs : List (List AV)) (t4 t7 : Int) (x : S83a) : round Try.prog SA1 (ro 47) L83 lp83a [false, true, false, true] [(0, none), (1, none), (4, none), (7, none), (8, none)] 0 ((fun x => s83a xs da db cs t4 t7 x.t8) x) = toR (fun x => s83a xs da db cs t4 t7 x.t8) (ou83a xs da db cs t4 t7) (stp83a xs da db cs t4 t7 x.t8) := by
  refine (round83a _ _ _ _ _ _ _ ).trans ?_
  unfold stp83a
  simp only [toR_cond]
  rfl
theorem lok83a {st : St} {outs : List (Bool × Ex × St)} {e : Ex} {s : St} (hl : l83a st = some outs) (hch : Chosen outs e s) :
    ∃ keep nb, 0 ≤ nb ∧ LB Try.prog SA1 (ro 47) L83 lp83a [false, true, false, true] keep nb st e s := by
  unfold l83a at hl
  split at hl
  · rename_i xs da db cs t4 t7 t8 hno
    cases hl
    have hno := normW_norm hno
    refine ⟨_, _, ?_, .enter hno ?_⟩
    · decide
    have main := fun y h => LB_run (x := (⟨t8⟩ : S83a)) (y := y) (nb := 0) (fun y => by cases y <;> simp [ou83a]) (rnd83a xs da db cs t4 t7) h
    obtain ⟨x, hx, hg, rfl, rfl⟩ := chosen_any hch
    simp only [List.mem_cons, List.not_mem_nil, or_false] at hx
    rcases hx with rfl | rfl
    · exact main _ (is83a_0 xs da db cs t4 t7 t8 hg)
    · exact main _ (is83a_1 xs da db cs t4 t7 t8 hg)
  · cases hl
theorem L83_ok (q : Pl) (c : Code) (hq : locate c83 q.reverse = some (.loop c)) (st : St) (outs : List (Bool × Ex × St)) (e : Ex) (s : St) (hl : L83 q st = some outs) (hch : Chosen outs e s) :
    ∃ keep nb, 0 ≤ nb ∧ LB Try.prog SA1 (ro 47) L83 c q keep nb st e s := by
  unfold L83 at hl
  split at hl
  · have : locate c83 ([false, true, false, true] : Pl).reverse = some (.loop lp83a) := by kernel_rfl
    rw [this] at hq
    cases hq
    exact lok83a hl hch
  · cases hl
theorem lok83 : LOK Try.prog SA1 (ro 47) L83 0 false c83 [] :=
  lok_lo L83_ok c83 [] false (locate_nil _) (by kernel_rfl)
noncomputable def t83 (xs : List (List AV)) (da db : Int) (cs : List (List AV)) : Tr ((Int)) :=
  .cn (i83a_0 xs da db cs 0 (↑xs.length : Int) 0) (.lf (v83a_0_t4' xs da db cs 0 (↑xs.length : Int) 0)) (.cn (i83a_1 xs da db cs 0 (↑xs.length : Int) 0) (.lf (-1)) (.nn))
noncomputable def g83 (xs : List (List AV)) (da db : Int) (cs : List (List AV)) : Bool := (t83 xs da db cs).g
noncomputable def w83_0 (xs : List (List AV)) (da db : Int) (cs : List (List AV)) : Int := (t83 xs da db cs).val
theorem eq83 (xs : List (List AV)) (da db : Int) (cs : List (List AV)) : evF Try.prog SA1 (ro 47) L83 Try.f47 [.rs 44 xs, .fn 38 [.rp [.int .i64, .int .i64, .sl 44] [.i .i64 da, .i .i64 db, .rs 44 cs] 0]] = (t83 xs da db cs).opt (fun (x : (Int)) => (.i .i64 x : AV)) := by kernel_rfl
theorem con83 (xs : List (List AV)) (da db : Int) (cs : List (List AV)) (h : g83 xs da db cs = true) : Con Try.prog 47 [.rs 44 xs, .fn 38 [.rp [.int .i64, .int .i64, .sl 44] [.i .i64 da, .i .i64 db, .rs 44 cs] 0]] [] (.i .i64 (w83_0 xs da db cs)) [] :=
  con_of SA1_ok mixed Try.func47 (c := c83) rfl (names 47 _ Try.func47) lok83 ((eq83 xs da db cs).trans (Tr.sound _ _ h))
noncomputable def e83 (args : List AV) (rows : List Blk) : Option (Bool × AV × List Blk) := match args, rows with
  | [.rs 44 xs, .fn 38 [.rp [.int .i64, .int .i64, .sl 44] [.i .i64 da, .i .i64 db, .rs 44 cs] 0]], [] => some (g83 xs da db cs, .i .i64 (w83_0 xs da db cs), [])
  | _, _ => none
theorem e83_ok (args : List AV) (rows : List Blk) (pre : Bool) (v : AV) (rows' : List Blk) (h : e83 args rows = some (pre, v, rows')) (hp : pre = true) : Con Try.prog 47 args rows v rows' := by
  unfold e83 at h
  split at h
  · cases h; exact con83 _ _ _ _ hp
  · cases h
-- SPEC 83
end Go.Proofs.Ytkdiaipaajgcbaa

set_option maxRecDepth 100000
set_option linter.unusedVariables false
namespace Go.Proofs.Ytkdiaipaajgcbaa
open Go Go.Ev
noncomputable def SA2 : Ev.Spec := insS 47 e83 (S0)
theorem SA2_ok : SpecOK Try.prog SA2 := insS_ok e83_ok (S0_ok)
end Go.Proofs.Ytkdiaipaajgcbaa

set_option maxRecDepth 100000
set_option maxHeartbeats 0
set_option linter.unusedVariables false
namespace Go.Proofs.Ytkdiaipaajgcbaa
open Go Go.Ev

noncomputable def c59 : Code := match Try.f37.body with | some c => c | _ => .skip
theorem lok59 : LOK Try.prog SA2 (ro 37) (fun _ _ => none) 0 false c59 [] :=
  lok_lo (fun _ _ _ _ _ _ _ h _ => by cases h) c59 [] false (locate_nil _) (by kernel_rfl)
noncomputable def t59 (xs : List (List AV)) (da db : Int) (cs : List (List AV)) : Tr ((Bool)) :=
  .cn (g83 xs da db cs) (.lf (decide (w83_0 xs da db cs ≥ 0))) (.nn)
noncomputable def g59 (xs : List (List AV)) (da db : Int) (cs : List (List AV)) : Bool := (t59 xs da db cs).g
noncomputable def w59_0 (xs : List (List AV)) (da db : Int) (cs : List (List AV)) : Bool := (t59 xs da db cs).val
theorem eq59 (xs : List (List AV)) (da db : Int) (cs : List (List AV)) : evF Try.prog SA2 (ro 37) (fun _ _ => none) Try.f37 [.rs 44 xs, .fn 38 [.rp [.int .i64, .int .i64, .sl 44] [.i .i64 da, .i .i64 db, .rs 44 cs] 0]] = (t59 xs da db cs).opt (fun (x : (Bool)) => (.b x : AV)) := by kernel_rfl
theorem con59 (xs : List (List AV)) (da db : Int) (cs : List (List AV)) (h : g59 xs da db cs = true) : Con Try.prog 37 [.rs 44 xs, .fn 38 [.rp [.int .i64, .int .i64, .sl 44] [.i .i64 da, .i .i64 db, .rs 44 cs] 0]] [] (.b (w59_0 xs da db cs)) [] :=
  con_of SA2_ok mixed Try.func37 (c := c59) rfl (names 37 _ Try.func37) lok59 ((eq59 xs da db cs).trans (Tr.sound _ _ h))
noncomputable def e59 (args : List AV) (rows : List Blk) : Option (Bool × AV × List Blk) := match args, rows with
  | [.rs 44 xs, .fn 38 [.rp [.int .i64, .int .i64, .sl 44] [.i .i64 da, .i .i64 db, .rs 44 cs] 0]], [] => some (g59 xs da db cs, .b (w59_0 xs da db cs), [])
  | _, _ => none
theorem e59_ok (args : List AV) (rows : List Blk) (pre : Bool) (v : AV) (rows' : List Blk) (h : e59 args rows = some (pre, v, rows')) (hp : pre = true) : Con Try.prog 37 args rows v rows' := by
  unfold e59 at h
  split at h
  · cases h; exact con59 _ _ _ _ hp
  · cases h
-- SPEC 59
end Go.Proofs.Ytkdiaipaajgcbaa

set_option maxRecDepth 100000
set_option linter.unusedVariables false
namespace Go.Proofs.Ytkdiaipaajgcbaa
open Go Go.Ev
noncomputable def SA3 : Ev.Spec := insS 37 e59 (insS 27 e55 (S0))
theorem SA3_ok : SpecOK Try.prog SA3 := insS_ok e59_ok (insS_ok e55_ok (S0_ok))
end Go.Proofs.Ytkdiaipaajgcbaa

set_option maxRecDepth 100000
set_option maxHeartbeats 0
set_option linter.unusedVariables false
namespace Go.Proofs.Ytkdiaipaajgcbaa
open Go Go.Ev

noncomputable def c24 : Code := match Try.f17.body with | some c => c | _ => .skip
noncomputable def lp24a : Code := loopAt c24 [true, true, true, false, true, false]
noncomputable def s24a (da db : Int) (cs : List (List AV)) (t2 t3 : Int) (t23 : List (List AV)) (t24 t25 : Int) : St :=
  { t := [(1, .rp [.int .i64, .int .i64, .sl 44] [.i .i64 da, .i .i64 db, .rs 44 cs] 0), (2, .i .i64 t2), (3, .i .i64 t3), (23, .rs 44 t23), (24, .i .i64 t24), (25, .i .i64 t25)], m := [], nx := 0, nt := 52 }
structure S24a where
  t3 : Int
  t25 : Int
inductive T24a where
  | x0 (t2' : Int) (t3 : Int) (t25 : Int)
  | x1 (t3 : Int) (t25 : Int)
noncomputable def stp24a (da db : Int) (cs : List (List AV)) (t2 : Int) (t23 : List (List AV)) (t24 t3 t25 : Int) : Lp S24a T24a :=
  cond (decide (t25 < t24)) (cond (inb t25 t23.length) (cond (g55 (fI (t23.getD t25.toNat []) 0) 1 100000) (cond (!w55_0 (fI (t23.getD t25.toNat []) 0) 1 100000) (.out (.x0 1 t3 t25)) (cond (g55 (fI (t23.getD t25.toNat []) 1) 0 12) (cond (!w55_0 (fI (t23.getD t25.toNat []) 1) 0 12) (.out (.x0 1 t3 t25)) (.go ⟨IntKind.i64.wrap (t3 + fI (t23.getD t25.toNat []) 1), IntKind.i64.wrap (t25 + 1)⟩)) (.bad))) (.bad)) (.bad)) (.out (.x1 t3 t25))
noncomputable def o24a_0 (da db : Int) (cs : List (List AV)) (t2 : Int) (t23 : List (List AV)) (t24 t2' t3 t25 : Int) : St :=
  { t := [(1, .rp [.int .i64, .int .i64, .sl 44] [.i .i64 da, .i .i64 db, .rs 44 cs] 0), (2, .i .i64 t2'), (3, .i .i64 t3), (23, .rs 44 t23), (24, .i .i64 t24), (25, .i .i64 t25)], m := [], nx := 0, nt := 52 }
noncomputable def o24a_1 (da db : Int) (cs : List (List AV)) (t2 : Int) (t23 : List (List AV)) (t24 t3 t25 : Int) : St :=
  { t := [(1, .rp [.int .i64, .int .i64, .sl 44] [.i .i64 da, .i .i64 db, .rs 44 cs] 0), (2, .i .i64 t2), (3, .i .i64 t3), (23, .rs 44 t23), (24, .i .i64 t24), (25, .i .i64 t25)], m := [], nx := 0, nt := 52 }
noncomputable def ou24a (da db : Int) (cs : List (List AV)) (t2 : Int) (t23 : List (List AV)) (t24 : Int) : T24a → Ex × St
  | .x0 t2' t3 t25 => (.ret, o24a_0 da db cs t2 t23 t24 t2' t3 t25)
  | .x1 t3 t25 => (.ext 1, o24a_1 da db cs t2 t23 t24 t3 t25)
noncomputable def r24a (da db : Int) (cs : List (List AV)) (t2 : Int) (t23 : List (List AV)) (t24 t3 t25 : Int) : Option T24a := run (fun x => stp24a da db cs t2 t23 t24 x.t3 x.t25) (⟨t3, t25⟩ : S24a)
noncomputable def i24a_0 (da db : Int) (cs : List (List AV)) (t2 : Int) (t23 : List (List AV)) (t24 t3 t25 : Int) : Bool := match r24a da db cs t2 t23 t24 t3 t25 with
  | some (.x0 _ _ _) => true
  | _ => false
noncomputable def v24a_0_t2' (da db : Int) (cs : List (List AV)) (t2 : Int) (t23 : List (List AV)) (t24 t3 t25 : Int) : Int := match r24a da db cs t2 t23 t24 t3 t25 with
  | some (.x0 t2' _ _) => t2'
  | _ => default
noncomputable def v24a_0_t3 (da db : Int) (cs : List (List AV)) (t2 : Int) (t23 : List (List AV)) (t24 t3 t25 : Int) : Int := match r24a da db cs t2 t23 t24 t3 t25 with
  | some (.x0 _ t3 _) => t3
  | _ => default
noncomputable def v24a_0_t25 (da db : Int) (cs : List (List AV)) (t2 : Int) (t23 : List (List AV)) (t24 t3 t25 : Int) : Int := match r24a da db cs t2 t23 t24 t3 t25 with
  | some (.x0 _ _ t25) => t25
  | _ => default
noncomputable def i24a_1 (da db : Int) (cs : List (List AV)) (t2 : Int) (t23 : List (List AV)) (t24 t3 t25 : Int) : Bool := match r24a da db cs t2 t23 t24 t3 t25 with
  | some (.x1 _ _) => true
  | _ => false
noncomputable def v24a_1_t3 (da db : Int) (cs : List (List AV)) (t2 : Int) (t23 : List (List AV)) (t24 t3 t25 : Int) : Int := match r24a da db cs t2 t23 t24 t3 t25 with
  | some (.x1 t3 _) => t3
  | _ => default
noncomputable def v24a_1_t25 (da db : Int) (cs : List (List AV)) (t2 : Int) (t23 : List (List AV)) (t24 t3 t25 : Int) : Int := match r24a da db cs t2 t23 t24 t3 t25 with
  | some (.x1 _ t25) => t25
  | _ => default
noncomputable def l24a (st : St) : Option (List (Bool × Ex × St)) := match normW Try.prog [(1, none), (2, none), (3, none), (23, none), (24, none), (25, none)] 0 st with
  | some ([.rp [.int .i64, .int .i64, .sl 44] [.i .i64 da, .i .i64 db, .rs 44 cs] 0, .i .i64 t2, .i .i64 t3, .rs 44 t23, .i .i64 t24, .i .i64 t25], [], 0, 52) => some [(i24a_0 da db cs t2 t23 t24 t3 t25, .ret, o24a_0 da db cs t2 t23 t24 (v24a_0_t2' da db cs t2 t23 t24 t3 t25) (v24a_0_t3 da db cs t2 t23 t24 t3 t25) (v24a_0_t25 da db cs t2 t23 t24 t3 t25)), (i24a_1 da db cs t2 t23 t24 t3 t25, .ext 1, o24a_1 da db cs t2 t23 t24 (v24a_1_t3 da db cs t2 t23 t24 t3 t25) (v24a_1_t25 da db cs t2 t23 t24 t3 t25))]
  | _ => none
noncomputable def L24 : LSpec := fun p st => match p with
  | [false, true, false, true, true, true] => l24a st
  | _ => none
theorem is24a_0 (da db : Int) (cs : List (List AV)) (t2 : Int) (t23 : List (List AV)) (t24 t3 t25 : Int) (h : i24a_0 da db cs t2 t23 t24 t3 t25 = true) : r24a da db cs t2 t23 t24 t3 t25 = some (.x0 (v24a_0_t2' da db cs t2 t23 t24 t3 t25) (v24a_0_t3 da db cs t2 t23 t24 t3 t25) (v24a_0_t25 da db cs t2 t23 t24 t3 t25)) := by
  unfold i24a_0 at h
  unfold v24a_0_t2' v24a_0_t3 v24a_0_t25
  generalize r24a da db cs t2 t23 t24 t3 t25 = r at h ⊢
  rcases r with _ | y
  · cases h
  · cases y <;> first | rfl | cases h
theorem is24a_1 (da db : Int) (cs : List (List AV)) (t2 : Int) (t23 : List (List AV)) (t24 t3 t25 : Int) (h : i24a_1 da db cs t2 t23 t24 t3 t25 = true) : r24a da db cs t2 t23 t24 t3 t25 = some (.x1 (v24a_1_t3 da db cs t2 t23 t24 t3 t25) (v24a_1_t25 da db cs t2 t23 t24 t3 t25)) := by
  unfold i24a_1 at h
  unfold v24a_1_t3 v24a_1_t25
  generalize r24a da db cs t2 t23 t24 t3 t25 = r at h ⊢
  rcases r with _ | y
  · cases h
  · cases y <;> first | rfl | cases h
theorem round24a (da db : Int) (cs : List (List AV)) (t2 t3 : Int) (t23 : List (List AV)) (t24 t25 : Int) : round Try.prog SA3 (ro 17) L24 lp24a [false, true, false, true, true, true] [(1, none), (2, none), (3, none), (23, none), (24, none), (25, none)] 0 (s24a da db cs t2 t3 t23 t24 t25) =
    cond (decide (t25 < t24)) (cond (inb t25 t23.length) (cond (g55 (fI (t23.getD t25.toNat []) 0) 1 100000) (cond (!w55_0 (fI (t23.getD t25.toNat []) 0) 1 100000) (some (.ret, o24a_0 da db cs t2 t23 t24 1 t3 t25)) (cond (g55 (fI (t23.getD t25.toNat []) 1) 0 12) (cond (!w55_0 (fI (t23.getD t25.toNat []) 1) 0 12) (some (.ret, o24a_0 da db cs t2 t23 t24 1 t3 t25)) (some (.nrm, s24a da db cs t2 (IntKind.i64.wrap (t3 + fI (t23.getD t25.toNat []) 1)) t23 t24 (IntKind.i64.wrap (t25 + 1))))) (none))) (none)) (none)) (some (.ext 1, o24a_1 da db cs t2 t23 t24 t3 t25)) := by kernel_rfl
theorem rnd24a (da db : Int) (cs : List (List AV)) (t2 : Int) (t23 : List (List AV)) (t24 : Int) (x : S24a) : round Try.prog SA3 (ro 17) L24 lp24a [false, true, false, true, true, true] [(1, none), (2, none), (3, none), (23, none), (24, none), (25, none)] 0 ((fun x => s24a da db cs t2 x.t3 t23 t24 x.t25) x) = toR (fun x => s24a da db cs t2 x.t3 t23 t24 x.t25) (ou24a da db cs t2 t23 t24) (stp24a da db cs t2 t23 t24 x.t3 x.t25) := by
  refine (round24a _ _ _ _ _ _ _ _ ).trans ?_
  unfold stp24a
  simp only [toR_cond]
  rfl
theorem lok24a {st : St} {outs : List (Bool × Ex × St)} {e : Ex} {s : St} (hl : l24a st = some outs) (hch : Chosen outs e s) :
    ∃ keep nb, 0 ≤ nb ∧ LB Try.prog SA3 (ro 17) L24 lp24a [false, true, false, true, true, true] keep nb st e s := by
  unfold l24a at hl
  split at hl
  · rename_i da db cs t2 t3 t23 t24 t25 hno
    cases hl
    have hno := normW_norm hno
    refine ⟨_, _, ?_, .enter hno ?_⟩
    · decide
    have main := fun y h => LB_run (x := (⟨t3, t25⟩ : S24a)) (y := y) (nb := 0) (fun y => by cases y <;> simp [ou24a]) (rnd24a da db cs t2 t23 t24) h
    obtain ⟨x, hx, hg, rfl, rfl⟩ := chosen_any hch
    simp only [List.mem_cons, List.not_mem_nil, or_false] at hx
    rcases hx with rfl | rfl
    · exact main _ (is24a_0 da db cs t2 t23 t24 t3 t25 hg)
    · exact main _ (is24a_1 da db cs t2 t23 t24 t3 t25 hg)
  · cases hl
theorem L24_ok (q : Pl) (c : Code) (hq : locate c24 q.reverse = some (.loop c)) (st : St) (outs : List (Bool × Ex × St)) (e : Ex) (s : St) (hl : L24 q st = some outs) (hch : Chosen outs e s) :
    ∃ keep nb, 0 ≤ nb ∧ LB Try.prog SA3 (ro 17) L24 c q keep nb st e s := by
  unfold L24 at hl
  split at hl
  · have : locate c24 ([false, true, false, true, true, true] : Pl).reverse = some (.loop lp24a) := by kernel_rfl
    rw [this] at hq
    cases hq
    exact lok24a hl hch
  · cases hl
theorem lok24 : LOK Try.prog SA3 (ro 17) L24 0 false c24 [] :=
  lok_lo L24_ok c24 [] false (locate_nil _) (by kernel_rfl)
noncomputable def t24 (da db : Int) (cs : List (List AV)) : Tr ((Int)) :=
  .cn (g55 da 1 100000) (.cn (!w55_0 da 1 100000) (.lf (1)) (.cn (g55 db 0 100000) (.cn (!w55_0 db 0 100000) (.lf (1)) (.cn (decide ((↑cs.length : Int) > 8)) (.lf (3)) (.cn (i24a_0 da db cs 0 cs (↑cs.length : Int) 0 0) (.lf (v24a_0_t2' da db cs 0 cs (↑cs.length : Int) 0 0)) (.cn (i24a_1 da db cs 0 cs (↑cs.length : Int) 0 0) (.cn (decide (v24a_1_t3 da db cs 0 cs (↑cs.length : Int) 0 0 > 12)) (.lf (3)) (.cn (g59 cs da db cs) (.cn (w59_0 cs da db cs) (.lf (9)) (.lf (0))) (.nn))) (.nn))))) (.nn))) (.nn)
noncomputable def g24 (da db : Int) (cs : List (List AV)) : Bool := (t24 da db cs).g
noncomputable def w24_0 (da db : Int) (cs : List (List AV)) : Int := (t24 da db cs).val
theorem eq24 (da db : Int) (cs : List (List AV)) : evF Try.prog SA3 (ro 17) L24 Try.f17 [.agg [.i .i64 da, .i .i64 db, .rs 44 cs]] = (t24 da db cs).opt (fun (x : (Int)) => (.i .i64 x : AV)) := by kernel_rfl
theorem con24 (da db : Int) (cs : List (List AV)) (h : g24 da db cs = true) : Con Try.prog 17 [.agg [.i .i64 da, .i .i64 db, .rs 44 cs]] [] (.i .i64 (w24_0 da db cs)) [] :=
  con_of SA3_ok mixed Try.func17 (c := c24) rfl (names 17 _ Try.func17) lok24 ((eq24 da db cs).trans (Tr.sound _ _ h))
noncomputable def e24 (args : List AV) (rows : List Blk) : Option (Bool × AV × List Blk) := match args, rows with
  | [.agg [.i .i64 da, .i .i64 db, .rs 44 cs]], [] => some (g24 da db cs, .i .i64 (w24_0 da db cs), [])
  | _, _ => none
theorem e24_ok (args : List AV) (rows : List Blk) (pre : Bool) (v : AV) (rows' : List Blk) (h : e24 args rows = some (pre, v, rows')) (hp : pre = true) : Con Try.prog 17 args rows v rows' := by
  unfold e24 at h
  split at h
  · cases h; exact con24 _ _ _ hp
  · cases h
-- SPEC 24
end Go.Proofs.Ytkdiaipaajgcbaa

set_option maxRecDepth 100000
set_option maxHeartbeats 0
set_option linter.unusedVariables false
namespace Go.Proofs.Ytkdiaipaajgcbaa
open Go Go.Ev
structure S25a where
  t3 : Int
  t4 : Int
inductive T25a where
  | x0 (t2' : Int) (t3 : Int) (t4 : Int)
  | x1 (t3 : Int) (t4 : Int)
noncomputable def stp25a (da db : Int) (cs : List (List AV)) (t2 t3 t4 : Int) : Lp S25a T25a :=
  cond (decide (t4 < (↑cs.length : Int))) (cond (inb t4 cs.length) (cond (g57 (fI (cs.getD t4.toNat []) 0) 1 100000) (cond (!w57_0 (fI (cs.getD t4.toNat []) 0) 1 100000) (.out (.x0 1 t3 t4)) (cond (inb t4 cs.length) (cond (g57 (fI (cs.getD t4.toNat []) 1) 0 12) (cond (!w57_0 (fI (cs.getD t4.toNat []) 1) 0 12) (.out (.x0 1 t3 t4)) (cond (inb t4 cs.length) (.go ⟨IntKind.i64.wrap (t3 + fI (cs.getD t4.toNat []) 1), IntKind.i64.wrap (t4 + 1)⟩) (.bad))) (.bad)) (.bad))) (.bad)) (.bad)) (.out (.x1 t3 t4))
noncomputable def r25a (da db : Int) (cs : List (List AV)) (t2 t3 t4 : Int) : Option T25a := run (fun x => stp25a da db cs t2 x.t3 x.t4) (⟨t3, t4⟩ : S25a)
noncomputable def i25a_0 (da db : Int) (cs : List (List AV)) (t2 t3 t4 : Int) : Bool := match r25a da db cs t2 t3 t4 with
  | some (.x0 _ _ _) => true
  | _ => false
noncomputable def v25a_0_t2' (da db : Int) (cs : List (List AV)) (t2 t3 t4 : Int) : Int := match r25a da db cs t2 t3 t4 with
  | some (.x0 t2' _ _) => t2'
  | _ => default
noncomputable def i25a_1 (da db : Int) (cs : List (List AV)) (t2 t3 t4 : Int) : Bool := match r25a da db cs t2 t3 t4 with
  | some (.x1 _ _) => true
  | _ => false
noncomputable def v25a_1_t3 (da db : Int) (cs : List (List AV)) (t2 t3 t4 : Int) : Int := match r25a da db cs t2 t3 t4 with
  | some (.x1 t3 _) => t3
  | _ => default
structure S25b where
  t5 : Int
inductive T25b where
  | x0 (t2' : Int) (t5 : Int)
  | x1 (t5 : Int)
noncomputable def stp25b (da db : Int) (cs : List (List AV)) (t2 t5 : Int) : Lp S25b T25b :=
  cond (decide (t5 < (↑cs.length : Int))) (cond (inb t5 cs.length) (cond (decide (fI (cs.getD t5.toNat []) 0 > da)) (.out (.x0 9 t5)) (.go ⟨IntKind.i64.wrap (t5 + 1)⟩)) (.bad)) (.out (.x1 t5))
noncomputable def r25b (da db : Int) (cs : List (List AV)) (t2 t5 : Int) : Option T25b := run (fun x => stp25b da db cs t2 x.t5) (⟨t5⟩ : S25b)
noncomputable def i25b_0 (da db : Int) (cs : List (List AV)) (t2 t5 : Int) : Bool := match r25b da db cs t2 t5 with
  | some (.x0 _ _) => true
  | _ => false
noncomputable def v25b_0_t2' (da db : Int) (cs : List (List AV)) (t2 t5 : Int) : Int := match r25b da db cs t2 t5 with
  | some (.x0 t2' _) => t2'
  | _ => default
noncomputable def i25b_1 (da db : Int) (cs : List (List AV)) (t2 t5 : Int) : Bool := match r25b da db cs t2 t5 with
  | some (.x1 _) => true
  | _ => false
noncomputable def t25 (da db : Int) (cs : List (List AV)) : Tr ((Int)) :=
  .cn (g57 da 1 100000) (.cn (!w57_0 da 1 100000) (.lf (1)) (.cn (g57 db 0 100000) (.cn (!w57_0 db 0 100000) (.lf (1)) (.cn (decide ((↑cs.length : Int) > 8)) (.lf (3)) (.cn (i25a_0 da db cs 0 0 0) (.lf (v25a_0_t2' da db cs 0 0 0)) (.cn (i25a_1 da db cs 0 0 0) (.cn (decide (v25a_1_t3 da db cs 0 0 0 > 12)) (.lf (3)) (.cn (i25b_0 da db cs 0 0) (.lf (v25b_0_t2' da db cs 0 0)) (.cn (i25b_1 da db cs 0 0) (.lf (0)) (.nn)))) (.nn))))) (.nn))) (.nn)
noncomputable def g25 (da db : Int) (cs : List (List AV)) : Bool := (t25 da db cs).g
noncomputable def w25_0 (da db : Int) (cs : List (List AV)) : Int := (t25 da db cs).val
end Go.Proofs.Ytkdiaipaajgcbaa
set_option maxRecDepth 100000
set_option linter.unusedVariables false
namespace Go.Proofs.Ytkdiaipaajgcbaa
open Go Go.Ev
def ln (cs : List (List AV)) (j : Nat) : Int := fI (cs.getD j []) 0
def mn (cs : List (List AV)) (j : Nat) : Int := fI (cs.getD j []) 1
def smn (cs : List (List AV)) : Nat → Int
  | 0 => 0
  | k + 1 => smn cs k + mn cs k
def okCut (cs : List (List AV)) (j : Nat) : Prop := 1 ≤ ln cs j ∧ ln cs j ≤ 100000 ∧ 0 ≤ mn cs j ∧ mn cs j ≤ 12
theorem smn_le {cs : List (List AV)} : ∀ {k : Nat}, (∀ j, j < k → okCut cs j) → 0 ≤ smn cs k ∧ smn cs k ≤ 12 * (k : Int)
  | 0, _ => ⟨Int.le_refl _, Int.le_refl _⟩
  | k + 1, h => by
    have h1 := smn_le (k := k) (fun j hj => h j (by omega))
    have h2 := h k (by omega)
    unfold okCut at h2
    show 0 ≤ smn cs k + mn cs k ∧ smn cs k + mn cs k ≤ _
    omega
theorem rods_sim (da db : Int) {cs : List (List AV)} (hl : cs.length ≤ 8) : ∃ y y', r24a da db cs 0 cs (cs.length : Int) 0 0 = some y ∧ r25a da db cs 0 0 0 = some y' ∧ (match y, y' with
    | .x0 a _ _, .x0 a' _ _ => a = 1 ∧ a' = 1
    | .x1 s _, .x1 s' _ => s = smn cs cs.length ∧ s' = smn cs cs.length ∧ ∀ j, j < cs.length → okCut cs j
    | _, _ => False) := by
  unfold r24a r25a
  refine run_sim (S := Unit) cs.length (fun k _ => (⟨smn cs k, (k : Int)⟩ : S24a)) (fun k _ => (⟨smn cs k, (k : Int)⟩ : S25a)) (fun k _ => ∀ j, j < k → okCut cs j) (fun (y : T24a) (y' : T25a) => match y, y' with
    | .x0 a _ _, .x0 a' _ _ => a = 1 ∧ a' = 1
    | .x1 s _, .x1 s' _ => s = smn cs cs.length ∧ s' = smn cs cs.length ∧ ∀ j, j < cs.length → okCut cs j
    | _, _ => False) (fun k _ hk hm => ?_) (fun _ hm => ?_) 0 () (Nat.zero_le _) (fun j hj => by omega)
  · show (∃ s', stp24a da db cs 0 cs (cs.length : Int) (smn cs k) (k : Int) = _ ∧ stp25a da db cs 0 (smn cs k) (k : Int) = _ ∧ _) ∨ ∃ y y', stp24a da db cs 0 cs (cs.length : Int) (smn cs k) (k : Int) = _ ∧ stp25a da db cs 0 (smn cs k) (k : Int) = _ ∧ _
    have hb := smn_le hm
    unfold stp24a stp25a
    rw [Int.toNat_natCast]
    have e0 : fI (cs.getD k []) 0 = ln cs k := rfl
    have e1 : fI (cs.getD k []) 1 = mn cs k := rfl
    simp only [lt_true hk, inb_true hk, cond_true, wrap_succ (show k < 9223372036854775807 by omega), g55_true, (w57_eq _ _ _).1, (w57_eq _ _ _).2, w55_eq, e0, e1]
    cases h1 : (decide (1 ≤ ln cs k) && decide (ln cs k ≤ 100000)) with
    | false => exact .inr ⟨_, _, rfl, rfl, rfl, rfl⟩
    | true =>
    cases h2 : (decide (0 ≤ mn cs k) && decide (mn cs k ≤ 12)) with
    | false => exact .inr ⟨_, _, rfl, rfl, rfl, rfl⟩
    | true =>
      simp only [Bool.and_eq_true, decide_eq_true_eq] at h1 h2
      have ew : IntKind.i64.wrap (smn cs k + mn cs k) = smn cs (k + 1) := wrap64 (by omega) (by omega)
      rw [ew]
      refine .inl ⟨(), rfl, rfl, fun j hj => ?_⟩
      rcases Nat.lt_succ_iff_lt_or_eq.1 hj with h' | rfl
      · exact hm j h'
      · exact ⟨h1.1, h1.2, h2.1, h2.2⟩
  · refine ⟨.x1 (smn cs cs.length) (cs.length : Int), .x1 (smn cs cs.length) (cs.length : Int), ?_, ?_, rfl, rfl, hm⟩
    · show stp24a da db cs 0 cs (cs.length : Int) (smn cs cs.length) (cs.length : Int) = _
      unfold stp24a
      rw [lt_false]; rfl
    · show stp25a da db cs 0 (smn cs cs.length) (cs.length : Int) = _
      unfold stp25a
      rw [lt_false]; rfl
theorem rods_sim2 (da db : Int) {cs : List (List AV)} (hl : cs.length ≤ 8) : ∃ y y', r83a cs da db cs 0 (cs.length : Int) 0 = some y ∧ r25b da db cs 0 0 = some y' ∧ (match y, y' with
    | .x0 a _, .x0 a' _ => 0 ≤ a ∧ a' = 9
    | .x1 _, .x1 _ => ∀ j, j < cs.length → ln cs j ≤ da
    | _, _ => False) := by
  unfold r83a r25b
  refine run_sim (S := Unit) cs.length (fun k _ => (⟨(k : Int)⟩ : S83a)) (fun k _ => (⟨(k : Int)⟩ : S25b)) (fun k _ => ∀ j, j < k → ln cs j ≤ da) (fun (y : T83a) (y' : T25b) => match y, y' with
    | .x0 a _, .x0 a' _ => 0 ≤ a ∧ a' = 9
    | .x1 _, .x1 _ => ∀ j, j < cs.length → ln cs j ≤ da
    | _, _ => False) (fun k _ hk hm => ?_) (fun _ hm => ?_) 0 () (Nat.zero_le _) (fun j hj => by omega)
  · show (∃ s', stp83a cs da db cs 0 (cs.length : Int) (k : Int) = _ ∧ stp25b da db cs 0 (k : Int) = _ ∧ _) ∨ ∃ y y', stp83a cs da db cs 0 (cs.length : Int) (k : Int) = _ ∧ stp25b da db cs 0 (k : Int) = _ ∧ _
    unfold stp83a stp25b
    rw [Int.toNat_natCast]
    have e0 : fI (cs.getD k []) 0 = ln cs k := rfl
    have e1 : ∀ x y, w60_0 da db cs x y = decide (x > da) := fun _ _ => rfl
    simp only [lt_true hk, inb_true hk, cond_true, wrap_succ (show k < 9223372036854775807 by omega), e0, e1]
    by_cases h : ln cs k > da
    · rw [decide_eq_true h]
      exact .inr ⟨_, _, rfl, rfl, by omega, rfl⟩
    · rw [decide_eq_false h]
      refine .inl ⟨(), rfl, rfl, fun j hj => ?_⟩
      rcases Nat.lt_succ_iff_lt_or_eq.1 hj with h' | rfl
      · exact hm j h'
      · omega
  · refine ⟨.x1 (cs.length : Int), .x1 (cs.length : Int), ?_, ?_, hm⟩
    · show stp83a cs da db cs 0 (cs.length : Int) (cs.length : Int) = _
      unfold stp83a
      rw [lt_false]; rfl
    · show stp25b da db cs 0 (cs.length : Int) = _
      unfold stp25b
      rw [lt_false]; rfl
theorem w83_val {da db : Int} {cs : List (List AV)} {z : T83a} (hz : r83a cs da db cs 0 (cs.length : Int) 0 = some z) : g83 cs da db cs = true ∧ (∀ a b, z = .x0 a b → w83_0 cs da db cs = a) ∧ ∀ b, z = .x1 b → w83_0 cs da db cs = -1 := by
  unfold g83 w83_0 t83 i83a_0 i83a_1 v83a_0_t4'
  rw [hz]
  cases z with
  | x0 a b => exact ⟨rfl, fun _ _ e => (by cases e; rfl), fun _ e => by cases e⟩
  | x1 b => exact ⟨rfl, fun _ _ e => (by cases e), fun _ e => by cases e; rfl⟩
structure RFine (da db : Int) (cs : List (List AV)) : Prop where
  a : 1 ≤ da ∧ da ≤ 100000
  b : 0 ≤ db ∧ db ≤ 100000
  l : cs.length ≤ 8
  c : ∀ j, j < cs.length → okCut cs j
  s : smn cs cs.length ≤ 12
  f : ∀ j, j < cs.length → ln cs j ≤ da
theorem rods_eq (da db : Int) (cs : List (List AV)) : g24 da db cs = true ∧ g25 da db cs = true ∧ w25_0 da db cs = w24_0 da db cs ∧ (w24_0 da db cs = 0 → RFine da db cs) := by
  unfold g24 w24_0 t24 g25 w25_0 t25
  simp only [g55_true, (w57_eq _ _ _).1, (w57_eq _ _ _).2, w55_eq]
  cases ha : (decide (1 ≤ da) && decide (da ≤ 100000)) with
  | false => exact ⟨rfl, rfl, rfl, fun h => (by cases h)⟩
  | true =>
  cases hb : (decide (0 ≤ db) && decide (db ≤ 100000)) with
  | false => exact ⟨rfl, rfl, rfl, fun h => (by cases h)⟩
  | true =>
  cases hl : decide ((cs.length : Int) > 8) with
  | true => exact ⟨rfl, rfl, rfl, fun h => (by cases h)⟩
  | false =>
    simp only [Bool.and_eq_true, decide_eq_true_eq] at ha hb
    have hl : cs.length ≤ 8 := by have := of_decide_eq_false hl; omega
    obtain ⟨y, y', hy, hy', hv⟩ := rods_sim da db hl
    obtain ⟨z, z', hz, hz', hw⟩ := rods_sim2 da db hl
    have h83 := w83_val hz
    have h59 : g59 cs da db cs = true ∧ w59_0 cs da db cs = decide (w83_0 cs da db cs ≥ 0) := by
      unfold g59 w59_0 t59
      rw [h83.1]
      exact ⟨rfl, rfl⟩
    unfold i24a_0 i24a_1 v24a_0_t2' v24a_1_t3 i25a_0 i25a_1 v25a_0_t2' v25a_1_t3 i25b_0 i25b_1 v25b_0_t2'
    rw [hy, hy', hz', h59.1, h59.2]
    cases y with
    | x0 a _ _ =>
      cases y' with
      | x0 a' _ _ =>
        simp only at hv
        rw [hv.1, hv.2]
        exact ⟨rfl, rfl, rfl, fun h => (by cases h)⟩
      | x1 _ _ => exact hv.elim
    | x1 s _ =>
      cases y' with
      | x0 a' _ _ => exact hv.elim
      | x1 s' _ =>
        obtain ⟨rfl, rfl, hc⟩ := hv
        cases hs : decide (smn cs cs.length > 12) with
        | true =>
          exact ⟨rfl, rfl, rfl, fun h => (by cases h)⟩
        | false =>
          cases z with
          | x0 b _ =>
            cases z' with
            | x0 b' _ =>
              simp only at hw
              have : decide (w83_0 cs da db cs ≥ 0) = true := by
                have := h83.2.1 _ _ rfl
                exact decide_eq_true (by omega)
              rw [this, hw.2]
              exact ⟨rfl, rfl, rfl, fun h => (by cases h)⟩
            | x1 _ => exact hw.elim
          | x1 _ =>
            cases z' with
            | x0 b' _ => exact hw.elim
            | x1 _ =>
              have : decide (w83_0 cs da db cs ≥ 0) = false := by
                have := h83.2.2 _ rfl
                exact decide_eq_false (by omega)
              rw [this]
              refine ⟨rfl, rfl, rfl, fun _ => ⟨ha, hb, hl, hc, ?_, hw⟩⟩
              have := of_decide_eq_false hs
              omega
end Go.Proofs.Ytkdiaipaajgcbaa

set_option maxRecDepth 100000
set_option linter.unusedVariables false
namespace Go.Proofs.Ytkdiaipaajgcbaa
open Go Go.Ev
theorem fine_ok {da db : Int} {cs : List (List AV)} (hF : RFine da db cs) : w24_0 da db cs = 0 := by
  have hl := hF.l
  have ha := hF.a
  have hb := hF.b
  have r1 : ∃ a, r24a da db cs 0 cs (cs.length : Int) 0 0 = some (.x1 (smn cs cs.length) a) := by
    have run := run_for (S := Unit) (step := fun x : S24a => stp24a da db cs 0 cs (cs.length : Int) x.t3 x.t25) cs.length (fun k _ => (⟨smn cs k, (k : Int)⟩ : S24a)) (fun _ _ => True) (fun _ _ (y : T24a) => ∃ a, y = .x1 (smn cs cs.length) a)
      (fun k _ hk _ => by
        left
        refine ⟨(), ?_, trivial, fun y hy => hy⟩
        have hc := hF.c k hk
        have hsm := smn_le (cs := cs) (k := k) (fun j hj => hF.c j (by omega))
        unfold okCut at hc
        have e0 : fI (cs.getD k []) 0 = ln cs k := rfl
        have e1 : fI (cs.getD k []) 1 = mn cs k := rfl
        unfold stp24a
        dsimp only
        rw [lt_true hk, inb_true hk, Int.toNat_natCast, e0, e1, g55_true, g55_true, w55_eq, w55_eq, decide_eq_true hc.1, decide_eq_true hc.2.1, decide_eq_true hc.2.2.1, decide_eq_true hc.2.2.2, wrap64 (x := smn cs k + mn cs k) (by omega) (by omega), wrap_succ (by omega)]
        rfl)
      (fun _ _ => by
        refine ⟨.x1 (smn cs cs.length) (cs.length : Int), ?_, _, rfl⟩
        unfold stp24a
        dsimp only
        rw [lt_false]; rfl)
      0 () (by omega) trivial
    obtain ⟨y, h1, a, h2⟩ := run
    exact ⟨a, by rw [← h2]; exact h1⟩
  have r2 : ∃ a, r83a cs da db cs 0 (cs.length : Int) 0 = some (.x1 a) := by
    have run := run_for (S := Unit) (step := fun x : S83a => stp83a cs da db cs 0 (cs.length : Int) x.t8) cs.length (fun k _ => (⟨(k : Int)⟩ : S83a)) (fun _ _ => True) (fun _ _ (y : T83a) => ∃ a, y = .x1 a)
      (fun k _ hk _ => by
        left
        refine ⟨(), ?_, trivial, fun y hy => hy⟩
        have hc := hF.f k hk
        have e1 : w60_0 da db cs (fI (cs.getD k []) 0) (fI (cs.getD k []) 1) = false := by
          show decide (ln cs k > da) = false
          exact decide_eq_false (by omega)
        unfold stp83a
        dsimp only
        rw [lt_true hk, inb_true hk, Int.toNat_natCast, e1, wrap_succ (by omega)]
        rfl)
      (fun _ _ => by
        refine ⟨.x1 (cs.length : Int), ?_, _, rfl⟩
        unfold stp83a
        dsimp only
        rw [lt_false]; rfl)
      0 () (by omega) trivial
    obtain ⟨y, h1, a, h2⟩ := run
    exact ⟨a, by rw [← h2]; exact h1⟩
  obtain ⟨a, r1⟩ := r1
  obtain ⟨b, r2⟩ := r2
  obtain ⟨h83, _, h83b⟩ := w83_val r2
  have h59 : g59 cs da db cs = true ∧ w59_0 cs da db cs = false := by
    unfold g59 w59_0 t59
    rw [h83, h83b b rfl]
    exact ⟨rfl, rfl⟩
  have hs := hF.s
  unfold w24_0 t24
  rw [g55_true, g55_true, w55_eq, w55_eq, decide_eq_true ha.1, decide_eq_true ha.2, decide_eq_true hb.1, decide_eq_true hb.2, decide_eq_false (show ¬ (cs.length : Int) > 8 by omega)]
  unfold i24a_0 i24a_1 v24a_1_t3
  rw [r1]
  dsimp only
  rw [decide_eq_false (show ¬ smn cs cs.length > 12 by omega), h59.1, h59.2]
  rfl
end Go.Proofs.Ytkdiaipaajgcbaa

set_option maxRecDepth 100000
set_option linter.unusedVariables false
namespace Go.Proofs.Ytkdiaipaajgcbaa
open Go Go.Ev
structure S18a where
  t3 : Int
  t4 : Int
inductive T18a where
  | x0 (t3 : Int) (t4 : Int)
noncomputable def stp18a (ra rb rc : Int) (ps : List (List AV)) (t2 : Bool) (t3 t4 : Int) : Lp S18a T18a :=
  cond (decide (t4 < (↑ps.length : Int))) (cond (decide (t4 ≤ 30)) (cond (inb t4 ps.length) (.go ⟨IntKind.i64.wrap (t3 + (↑(fS (ps.getD t4.toNat []) 0).size : Int)), IntKind.i64.wrap (t4 + 1)⟩) (.bad)) (.out (.x0 t3 t4))) (.out (.x0 t3 t4))
noncomputable def r18a (ra rb rc : Int) (ps : List (List AV)) (t2 : Bool) (t3 t4 : Int) : Option T18a := run (fun x => stp18a ra rb rc ps t2 x.t3 x.t4) (⟨t3, t4⟩ : S18a)
noncomputable def i18a_0 (ra rb rc : Int) (ps : List (List AV)) (t2 : Bool) (t3 t4 : Int) : Bool := match r18a ra rb rc ps t2 t3 t4 with
  | some (.x0 _ _) => true
  | _ => false
noncomputable def v18a_0_t3 (ra rb rc : Int) (ps : List (List AV)) (t2 : Bool) (t3 t4 : Int) : Int := match r18a ra rb rc ps t2 t3 t4 with
  | some (.x0 t3 _) => t3
  | _ => default
noncomputable def t18 (ra rb rc : Int) (ps : List (List AV)) : Tr ((Bool)) :=
  .cn (i18a_0 ra rb rc ps false 0 0) (.cn (decide (ra > 300)) (.cn (decide (ra ≤ 2000)) (.lf (true)) (.cn (decide ((↑ps.length : Int) > 30)) (.lf (true)) (.lf (decide (v18a_0_t3 ra rb rc ps false 0 0 > 2000))))) (.cn (decide ((↑ps.length : Int) > 30)) (.lf (true)) (.lf (decide (v18a_0_t3 ra rb rc ps false 0 0 > 2000))))) (.nn)
end Go.Proofs.Ytkdiaipaajgcbaa
set_option maxRecDepth 100000
set_option linter.unusedVariables false
namespace Go.Proofs.Ytkdiaipaajgcbaa
open Go Go.Ev

noncomputable def t48  : Tr ((Int) × (Int) × (Int) × (List (List AV))) :=
  .lf (5, 0, 0, [[AV.s { data := #[111, 110, 101] }, AV.i IntKind.i64 1, AV.i IntKind.i64 0, AV.i IntKind.i64 0, AV.i IntKind.i64 0], [AV.s { data := #[116, 119, 111] }, AV.i IntKind.i64 2, AV.i IntKind.i64 0, AV.i IntKind.i64 0, AV.i IntKind.i64 1], [AV.s { data := #[117, 112] }, AV.i IntKind.i64 1, AV.i IntKind.i64 0, AV.i IntKind.i64 1, AV.i IntKind.i64 3], [AV.s { data := #[100, 111, 119, 110] }, AV.i IntKind.i64 1, AV.i IntKind.i64 1, AV.i IntKind.i64 0, AV.i IntKind.i64 2]])
-- SPEC 48
end Go.Proofs.Ytkdiaipaajgcbaa

set_option maxRecDepth 100000
set_option linter.unusedVariables false
namespace Go.Proofs.Ytkdiaipaajgcbaa
open Go Go.Ev

noncomputable def t49  : Tr ((Int) × (Int) × (List (List AV))) :=
  .lf (10, 1, [[AV.i IntKind.i64 5, AV.i IntKind.i64 2], [AV.i IntKind.i64 3, AV.i IntKind.i64 2], [AV.i IntKind.i64 2, AV.i IntKind.i64 1]])
-- SPEC 49
end Go.Proofs.Ytkdiaipaajgcbaa

set_option maxRecDepth 100000
set_option linter.unusedVariables false
namespace Go.Proofs.Ytkdiaipaajgcbaa
open Go Go.Ev

-- SPEC 62
end Go.Proofs.Ytkdiaipaajgcbaa

set_option maxRecDepth 100000
set_option linter.unusedVariables false
namespace Go.Proofs.Ytkdiaipaajgcbaa
open Go Go.Ev

-- SPEC 63
end Go.Proofs.Ytkdiaipaajgcbaa

set_option maxRecDepth 100000
set_option linter.unusedVariables false
namespace Go.Proofs.Ytkdiaipaajgcbaa
open Go Go.Ev

-- SPEC 52
end Go.Proofs.Ytkdiaipaajgcbaa

set_option maxRecDepth 100000
set_option linter.unusedVariables false
namespace Go.Proofs.Ytkdiaipaajgcbaa
open Go Go.Ev

-- SPEC 85
end Go.Proofs.Ytkdiaipaajgcbaa

set_option maxRecDepth 100000
set_option linter.unusedVariables false
namespace Go.Proofs.Ytkdiaipaajgcbaa
open Go Go.Ev

structure S28a where
  t5 : Int
inductive T28a where
  | x0 (t4' : Bool) (t5 : Int)
  | x1 (t5 : Int)
-- SPEC 28
end Go.Proofs.Ytkdiaipaajgcbaa

set_option maxRecDepth 100000
set_option linter.unusedVariables false
namespace Go.Proofs.Ytkdiaipaajgcbaa
open Go Go.Ev
noncomputable def t31 (ra rb rc : Int) (ps : List (List AV)) : Tr ((Int) × (Int) × (Int) × (List (List AV))) :=
  .lf (ra, rc, rb, ps)
end Go.Proofs.Ytkdiaipaajgcbaa
set_option maxRecDepth 100000
set_option linter.unusedVariables false
namespace Go.Proofs.Ytkdiaipaajgcbaa
open Go Go.Ev

-- SPEC 71
end Go.Proofs.Ytkdiaipaajgcbaa

set_option maxRecDepth 100000
set_option linter.unusedVariables false
namespace Go.Proofs.Ytkdiaipaajgcbaa
open Go Go.Ev

noncomputable def t51 (cs : List (List AV)) (q0 q1 : Int) : Tr ((Int)) :=
  .cn (inb q0 cs.length) (.cn (inb q1 10) (.cn (ctsAt (cts Try.prog 120) (0 + q1.toNat * 1) (cts Try.prog 3)) (.lf (toI ((cs.getD q0.toNat []).getD (0 + q1.toNat * 1) AV.u))) (.nn)) (.nn)) (.nn)
noncomputable def g51 (cs : List (List AV)) (q0 q1 : Int) : Bool := (t51 cs q0 q1).g
noncomputable def w51_0 (cs : List (List AV)) (q0 q1 : Int) : Int := (t51 cs q0 q1).val
noncomputable def e51 (args : List AV) (rows : List Blk) : Option (Bool × AV × List Blk) := match args, rows with
  | [.rs 120 cs, .agg [.i .i64 q0, .i .i64 q1]], [] => some (g51 cs q0 q1, .i .i64 (w51_0 cs q0 q1), [])
  | _, _ => none
-- SPEC 51
end Go.Proofs.Ytkdiaipaajgcbaa

set_option maxRecDepth 100000
set_option linter.unusedVariables false
namespace Go.Proofs.Ytkdiaipaajgcbaa
open Go Go.Ev

noncomputable def c75 : Code := match Try.f21.body with | some c => c | _ => .skip
theorem lok75 : LOK Try.prog S0 (ro 21) (fun _ _ => none) 0 false c75 [] :=
  lok_lo (fun _ _ _ _ _ _ _ h _ => by cases h) c75 [] false (locate_nil _) (by kernel_rfl)
noncomputable def t75 (da db : Int) (cs : List (List AV)) (q0 q1 q2 q3 q4 q5 q6 q7 : Int) : Tr ((Int) × (Int) × (List (List AV)) × (Int) × (Int) × (Int) × (Int) × (Int) × (Int) × (Int) × (Int)) :=
  .lf (da, db, cs, q0, q1, q2, q3, q4, q5, q6, q7)
noncomputable def g75 (da db : Int) (cs : List (List AV)) (q0 q1 q2 q3 q4 q5 q6 q7 : Int) : Bool := (t75 da db cs q0 q1 q2 q3 q4 q5 q6 q7).g
noncomputable def w75_0 (da db : Int) (cs : List (List AV)) (q0 q1 q2 q3 q4 q5 q6 q7 : Int) : Int := (t75 da db cs q0 q1 q2 q3 q4 q5 q6 q7).val.1
noncomputable def w75_1 (da db : Int) (cs : List (List AV)) (q0 q1 q2 q3 q4 q5 q6 q7 : Int) : Int := (t75 da db cs q0 q1 q2 q3 q4 q5 q6 q7).val.2.1
noncomputable def w75_2 (da db : Int) (cs : List (List AV)) (q0 q1 q2 q3 q4 q5 q6 q7 : Int) : List (List AV) := (t75 da db cs q0 q1 q2 q3 q4 q5 q6 q7).val.2.2.1
noncomputable def w75_3 (da db : Int) (cs : List (List AV)) (q0 q1 q2 q3 q4 q5 q6 q7 : Int) : Int := (t75 da db cs q0 q1 q2 q3 q4 q5 q6 q7).val.2.2.2.1
noncomputable def w75_4 (da db : Int) (cs : List (List AV)) (q0 q1 q2 q3 q4 q5 q6 q7 : Int) : Int := (t75 da db cs q0 q1 q2 q3 q4 q5 q6 q7).val.2.2.2.2.1
noncomputable def w75_5 (da db : Int) (cs : List (List AV)) (q0 q1 q2 q3 q4 q5 q6 q7 : Int) : Int := (t75 da db cs q0 q1 q2 q3 q4 q5 q6 q7).val.2.2.2.2.2.1
noncomputable def w75_6 (da db : Int) (cs : List (List AV)) (q0 q1 q2 q3 q4 q5 q6 q7 : Int) : Int := (t75 da db cs q0 q1 q2 q3 q4 q5 q6 q7).val.2.2.2.2.2.2.1
noncomputable def w75_7 (da db : Int) (cs : List (List AV)) (q0 q1 q2 q3 q4 q5 q6 q7 : Int) : Int := (t75 da db cs q0 q1 q2 q3 q4 q5 q6 q7).val.2.2.2.2.2.2.2.1
noncomputable def w75_8 (da db : Int) (cs : List (List AV)) (q0 q1 q2 q3 q4 q5 q6 q7 : Int) : Int := (t75 da db cs q0 q1 q2 q3 q4 q5 q6 q7).val.2.2.2.2.2.2.2.2.1
noncomputable def w75_9 (da db : Int) (cs : List (List AV)) (q0 q1 q2 q3 q4 q5 q6 q7 : Int) : Int := (t75 da db cs q0 q1 q2 q3 q4 q5 q6 q7).val.2.2.2.2.2.2.2.2.2.1
noncomputable def w75_10 (da db : Int) (cs : List (List AV)) (q0 q1 q2 q3 q4 q5 q6 q7 : Int) : Int := (t75 da db cs q0 q1 q2 q3 q4 q5 q6 q7).val.2.2.2.2.2.2.2.2.2.2
theorem eq75 (da db : Int) (cs : List (List AV)) (q0 q1 q2 q3 q4 q5 q6 q7 : Int) : evF Try.prog S0 (ro 21) (fun _ _ => none) Try.f21 [.agg [.i .i64 da, .i .i64 db, .rs 44 cs], .agg [.i .i64 q0, .i .i64 q1, .i .i64 q2, .i .i64 q3, .i .i64 q4, .i .i64 q5, .i .i64 q6, .i .i64 q7]] = (t75 da db cs q0 q1 q2 q3 q4 q5 q6 q7).opt (fun (x : (Int) × (Int) × (List (List AV)) × (Int) × (Int) × (Int) × (Int) × (Int) × (Int) × (Int) × (Int)) => (.fn 39 [.rp [.int .i64, .int .i64, .sl 44] [.i .i64 x.1, .i .i64 x.2.1, .rs 44 x.2.2.1] 0, .rp [.int .i64, .int .i64, .int .i64, .int .i64, .int .i64, .int .i64, .int .i64, .int .i64] [.i .i64 x.2.2.2.1, .i .i64 x.2.2.2.2.1, .i .i64 x.2.2.2.2.2.1, .i .i64 x.2.2.2.2.2.2.1, .i .i64 x.2.2.2.2.2.2.2.1, .i .i64 x.2.2.2.2.2.2.2.2.1, .i .i64 x.2.2.2.2.2.2.2.2.2.1, .i .i64 x.2.2.2.2.2.2.2.2.2.2] 0] : AV)) := by kernel_rfl
theorem con75 (da db : Int) (cs : List (List AV)) (q0 q1 q2 q3 q4 q5 q6 q7 : Int) (h : g75 da db cs q0 q1 q2 q3 q4 q5 q6 q7 = true) : Con Try.prog 21 [.agg [.i .i64 da, .i .i64 db, .rs 44 cs], .agg [.i .i64 q0, .i .i64 q1, .i .i64 q2, .i .i64 q3, .i .i64 q4, .i .i64 q5, .i .i64 q6, .i .i64 q7]] [] (.fn 39 [.rp [.int .i64, .int .i64, .sl 44] [.i .i64 (w75_0 da db cs q0 q1 q2 q3 q4 q5 q6 q7), .i .i64 (w75_1 da db cs q0 q1 q2 q3 q4 q5 q6 q7), .rs 44 (w75_2 da db cs q0 q1 q2 q3 q4 q5 q6 q7)] 0, .rp [.int .i64, .int .i64, .int .i64, .int .i64, .int .i64, .int .i64, .int .i64, .int .i64] [.i .i64 (w75_3 da db cs q0 q1 q2 q3 q4 q5 q6 q7), .i .i64 (w75_4 da db cs q0 q1 q2 q3 q4 q5 q6 q7), .i .i64 (w75_5 da db cs q0 q1 q2 q3 q4 q5 q6 q7), .i .i64 (w75_6 da db cs q0 q1 q2 q3 q4 q5 q6 q7), .i .i64 (w75_7 da db cs q0 q1 q2 q3 q4 q5 q6 q7), .i .i64 (w75_8 da db cs q0 q1 q2 q3 q4 q5 q6 q7), .i .i64 (w75_9 da db cs q0 q1 q2 q3 q4 q5 q6 q7), .i .i64 (w75_10 da db cs q0 q1 q2 q3 q4 q5 q6 q7)] 0]) [] :=
  con_of S0_ok mixed Try.func21 (c := c75) rfl (names 21 _ Try.func21) lok75 ((eq75 da db cs q0 q1 q2 q3 q4 q5 q6 q7).trans (Tr.sound _ _ h))
noncomputable def e75 (args : List AV) (rows : List Blk) : Option (Bool × AV × List Blk) := match args, rows with
  | [.agg [.i .i64 da, .i .i64 db, .rs 44 cs], .agg [.i .i64 q0, .i .i64 q1, .i .i64 q2, .i .i64 q3, .i .i64 q4, .i .i64 q5, .i .i64 q6, .i .i64 q7]], [] => some (g75 da db cs q0 q1 q2 q3 q4 q5 q6 q7, .fn 39 [.rp [.int .i64, .int .i64, .sl 44] [.i .i64 (w75_0 da db cs q0 q1 q2 q3 q4 q5 q6 q7), .i .i64 (w75_1 da db cs q0 q1 q2 q3 q4 q5 q6 q7), .rs 44 (w75_2 da db cs q0 q1 q2 q3 q4 q5 q6 q7)] 0, .rp [.int .i64, .int .i64, .int .i64, .int .i64, .int .i64, .int .i64, .int .i64, .int .i64] [.i .i64 (w75_3 da db cs q0 q1 q2 q3 q4 q5 q6 q7), .i .i64 (w75_4 da db cs q0 q1 q2 q3 q4 q5 q6 q7), .i .i64 (w75_5 da db cs q0 q1 q2 q3 q4 q5 q6 q7), .i .i64 (w75_6 da db cs q0 q1 q2 q3 q4 q5 q6 q7), .i .i64 (w75_7 da db cs q0 q1 q2 q3 q4 q5 q6 q7), .i .i64 (w75_8 da db cs q0 q1 q2 q3 q4 q5 q6 q7), .i .i64 (w75_9 da db cs q0 q1 q2 q3 q4 q5 q6 q7), .i .i64 (w75_10 da db cs q0 q1 q2 q3 q4 q5 q6 q7)] 0], [])
  | _, _ => none
theorem e75_ok (args : List AV) (rows : List Blk) (pre : Bool) (v : AV) (rows' : List Blk) (h : e75 args rows = some (pre, v, rows')) (hp : pre = true) : Con Try.prog 21 args rows v rows' := by
  unfold e75 at h
  split at h
  · cases h; exact con75 _ _ _ _ _ _ _ _ _ _ _ hp
  · cases h
-- SPEC 75
end Go.Proofs.Ytkdiaipaajgcbaa

set_option maxRecDepth 100000
set_option linter.unusedVariables false
namespace Go.Proofs.Ytkdiaipaajgcbaa
open Go Go.Ev

noncomputable def c77 : Code := match Try.f23.body with | some c => c | _ => .skip
noncomputable def lp77a : Code := loopAt c77 [true, true, false, true, false]
noncomputable def s77a (cs : List (List AV)) (t8 t9 m1_0 m1_1 m1_2 m1_3 m1_4 m1_5 m1_6 m1_7 : Int) (m2 : List AV) : St :=
  { t := [(2, .p 1 0 0), (3, .p 2 0 0), (7, .rs 44 cs), (8, .i .i64 t8), (9, .i .i64 t9)], m := [(0, .dead), (1, .row 78 [[.i .i64 m1_0, .i .i64 m1_1, .i .i64 m1_2, .i .i64 m1_3, .i .i64 m1_4, .i .i64 m1_5, .i .i64 m1_6, .i .i64 m1_7]]), (2, .row 78 [m2])], nx := 3, nt := 20 }
structure S77a where
  t9 : Int
  m2 : List AV
inductive T77a where
  | x0 (t9 : Int) (m2 : List AV)
noncomputable def stp77a (cs : List (List AV)) (t8 m1_0 m1_1 m1_2 m1_3 m1_4 m1_5 m1_6 m1_7 t9 : Int) (m2 : List AV) : Lp S77a T77a :=
  cond (decide (t9 < t8)) (cond (inb t9 cs.length) (cond (inb t9 8) (cond (ctsAt (cts Try.prog 78) (0 + t9.toNat * 1) (cts Try.prog 3) && Nat.blt 0 [m2].length) (.go ⟨IntKind.i64.wrap (t9 + 1), setCs ([m2].getD 0 []) (0 + t9.toNat * 1) [AV.i IntKind.i64 (fI (cs.getD t9.toNat []) 1)]⟩) (.bad)) (.bad)) (.bad)) (.out (.x0 t9 m2))
noncomputable def o77a_0 (cs : List (List AV)) (t8 m1_0 m1_1 m1_2 m1_3 m1_4 m1_5 m1_6 m1_7 t9 : Int) (m2 : List AV) : St :=
  { t := [(2, .p 1 0 0), (3, .p 2 0 0), (7, .rs 44 cs), (8, .i .i64 t8), (9, .i .i64 t9)], m := [(0, .dead), (1, .row 78 [[.i .i64 m1_0, .i .i64 m1_1, .i .i64 m1_2, .i .i64 m1_3, .i .i64 m1_4, .i .i64 m1_5, .i .i64 m1_6, .i .i64 m1_7]]), (2, .row 78 [m2])], nx := 3, nt := 20 }
noncomputable def ou77a (cs : List (List AV)) (t8 m1_0 m1_1 m1_2 m1_3 m1_4 m1_5 m1_6 m1_7 : Int) : T77a → Ex × St
  | .x0 t9 m2 => (.ext 0, o77a_0 cs t8 m1_0 m1_1 m1_2 m1_3 m1_4 m1_5 m1_6 m1_7 t9 m2)
noncomputable def r77a (cs : List (List AV)) (t8 m1_0 m1_1 m1_2 m1_3 m1_4 m1_5 m1_6 m1_7 t9 : Int) (m2 : List AV) : Option T77a := run (fun x => stp77a cs t8 m1_0 m1_1 m1_2 m1_3 m1_4 m1_5 m1_6 m1_7 x.t9 x.m2) (⟨t9, m2⟩ : S77a)
noncomputable def i77a_0 (cs : List (List AV)) (t8 m1_0 m1_1 m1_2 m1_3 m1_4 m1_5 m1_6 m1_7 t9 : Int) (m2 : List AV) : Bool := match r77a cs t8 m1_0 m1_1 m1_2 m1_3 m1_4 m1_5 m1_6 m1_7 t9 m2 with
  | some (.x0 _ _) => true
  | _ => false
noncomputable def v77a_0_t9 (cs : List (List AV)) (t8 m1_0 m1_1 m1_2 m1_3 m1_4 m1_5 m1_6 m1_7 t9 : Int) (m2 : List AV) : Int := match r77a cs t8 m1_0 m1_1 m1_2 m1_3 m1_4 m1_5 m1_6 m1_7 t9 m2 with
  | some (.x0 t9 _) => t9
  | _ => default
noncomputable def v77a_0_m2 (cs : List (List AV)) (t8 m1_0 m1_1 m1_2 m1_3 m1_4 m1_5 m1_6 m1_7 t9 : Int) (m2 : List AV) : List AV := match r77a cs t8 m1_0 m1_1 m1_2 m1_3 m1_4 m1_5 m1_6 m1_7 t9 m2 with
  | some (.x0 _ m2) => m2
  | _ => default
noncomputable def l77a (st : St) : Option (List (Bool × Ex × St)) := match normW Try.prog [(2, none), (3, none), (7, none), (8, none), (9, none)] 3 st with
  | some ([.p 1 0 0, .p 2 0 0, .rs 44 cs, .i .i64 t8, .i .i64 t9], [(0, .dead), (1, .row 78 [[.i .i64 m1_0, .i .i64 m1_1, .i .i64 m1_2, .i .i64 m1_3, .i .i64 m1_4, .i .i64 m1_5, .i .i64 m1_6, .i .i64 m1_7]]), (2, .row 78 [m2])], 3, 20) => some [(i77a_0 cs t8 m1_0 m1_1 m1_2 m1_3 m1_4 m1_5 m1_6 m1_7 t9 m2, .ext 0, o77a_0 cs t8 m1_0 m1_1 m1_2 m1_3 m1_4 m1_5 m1_6 m1_7 (v77a_0_t9 cs t8 m1_0 m1_1 m1_2 m1_3 m1_4 m1_5 m1_6 m1_7 t9 m2) (v77a_0_m2 cs t8 m1_0 m1_1 m1_2 m1_3 m1_4 m1_5 m1_6 m1_7 t9 m2))]
  | _ => none
noncomputable def L77 : LSpec := fun p st => match p with
  | [false, true, false, true, true] => l77a st
  | _ => none
theorem is77a_0 (cs : List (List AV)) (t8 m1_0 m1_1 m1_2 m1_3 m1_4 m1_5 m1_6 m1_7 t9 : Int) (m2 : List AV) (h : i77a_0 cs t8 m1_0 m1_1 m1_2 m1_3 m1_4 m1_5 m1_6 m1_7 t9 m2 = true) : r77a cs t8 m1_0 m1_1 m1_2 m1_3 m1_4 m1_5 m1_6 m1_7 t9 m2 = some (.x0 (v77a_0_t9 cs t8 m1_0 m1_1 m1_2 m1_3 m1_4 m1_5 m1_6 m1_7 t9 m2) (v77a_0_m2 cs t8 m1_0 m1_1 m1_2 m1_3 m1_4 m1_5 m1_6 m1_7 t9 m2)) := by
  unfold i77a_0 at h
  unfold v77a_0_t9 v77a_0_m2
  generalize r77a cs t8 m1_0 m1_1 m1_2 m1_3 m1_4 m1_5 m1_6 m1_7 t9 m2 = r at h ⊢
  rcases r with _ | y
  · cases h
  · cases y <;> first | rfl | cases h
theorem round77a (cs : List (List AV)) (t8 t9 m1_0 m1_1 m1_2 m1_3 m1_4 m1_5 m1_6 m1_7 : Int) (m2 : List AV) : round Try.prog S0 (ro 23) L77 lp77a [false, true, false, true, true] [(2, none), (3, none), (7, none), (8, none), (9, none)] 3 (s77a cs t8 t9 m1_0 m1_1 m1_2 m1_3 m1_4 m1_5 m1_6 m1_7 m2) =
    cond (decide (t9 < t8)) (cond (inb t9 cs.length) (cond (inb t9 8) (cond (ctsAt (cts Try.prog 78) (0 + t9.toNat * 1) (cts Try.prog 3) && Nat.blt 0 [m2].length) (some (.nrm, s77a cs t8 (IntKind.i64.wrap (t9 + 1)) m1_0 m1_1 m1_2 m1_3 m1_4 m1_5 m1_6 m1_7 (setCs ([m2].getD 0 []) (0 + t9.toNat * 1) [AV.i IntKind.i64 (fI (cs.getD t9.toNat []) 1)]))) (none)) (none)) (none)) (some (.ext 0, o77a_0 cs t8 m1_0 m1_1 m1_2 m1_3 m1_4 m1_5 m1_6 m1_7 t9 m2)) := by kernel_rfl
theorem rnd77a (cs : List (List AV)) (t8 m1_0 m1_1 m1_2 m1_3 m1_4 m1_5 m1_6 m1_7 : Int) (x : S77a) : round Try.prog S0 (ro 23) L77 lp77a [false, true, false, true, true] [(2, none), (3, none), (7, none), (8, none), (9, none)] 3 ((fun x => s77a cs t8 x.t9 m1_0 m1_1 m1_2 m1_3 m1_4 m1_5 m1_6 m1_7 x.m2) x) = toR (fun x => s77a cs t8 x.t9 m1_0 m1_1 m1_2 m1_3 m1_4 m1_5 m1_6 m1_7 x.m2) (ou77a cs t8 m1_0 m1_1 m1_2 m1_3 m1_4 m1_5 m1_6 m1_7) (stp77a cs t8 m1_0 m1_1 m1_2 m1_3 m1_4 m1_5 m1_6 m1_7 x.t9 x.m2) := by
  refine (round77a _ _ _ _ _ _ _ _ _ _ _ _ ).trans ?_
  unfold stp77a
  simp only [toR_cond]
  rfl
theorem lok77a {st : St} {outs : List (Bool × Ex × St)} {e : Ex} {s : St} (hl : l77a st = some outs) (hch : Chosen outs e s) :
    ∃ keep nb, 0 ≤ nb ∧ LB Try.prog S0 (ro 23) L77 lp77a [false, true, false, true, true] keep nb st e s := by
  unfold l77a at hl
  split at hl
  · rename_i cs t8 t9 m1_0 m1_1 m1_2 m1_3 m1_4 m1_5 m1_6 m1_7 m2 hno
    cases hl
    have hno := normW_norm hno
    refine ⟨_, _, ?_, .enter hno ?_⟩
    · decide
    have main := fun y h => LB_run (x := (⟨t9, m2⟩ : S77a)) (y := y) (nb := 3) (fun y => by cases y <;> simp [ou77a]) (rnd77a cs t8 m1_0 m1_1 m1_2 m1_3 m1_4 m1_5 m1_6 m1_7) h
    obtain ⟨x, hx, hg, rfl, rfl⟩ := chosen_any hch
    simp only [List.mem_cons, List.not_mem_nil, or_false] at hx
    subst hx
    exact main _ (is77a_0 cs t8 m1_0 m1_1 m1_2 m1_3 m1_4 m1_5 m1_6 m1_7 t9 m2 hg)
  · cases hl
theorem L77_ok (q : Pl) (c : Code) (hq : locate c77 q.reverse = some (.loop c)) (st : St) (outs : List (Bool × Ex × St)) (e : Ex) (s : St) (hl : L77 q st = some outs) (hch : Chosen outs e s) :
    ∃ keep nb, 0 ≤ nb ∧ LB Try.prog S0 (ro 23) L77 c q keep nb st e s := by
  unfold L77 at hl
  split at hl
  · have : locate c77 ([false, true, false, true, true] : Pl).reverse = some (.loop lp77a) := by kernel_rfl
    rw [this] at hq
    cases hq
    exact lok77a hl hch
  · cases hl
theorem lok77 : LOK Try.prog S0 (ro 23) L77 0 false c77 [] :=
  lok_lo L77_ok c77 [] false (locate_nil _) (by kernel_rfl)
noncomputable def t77 (da db : Int) (cs : List (List AV)) : Tr ((Int) × (Int) × (Int) × (Int) × (Int) × (Int) × (Int) × (Int)) :=
  .cn (i77a_0 cs (↑cs.length : Int) 0 0 0 0 0 0 0 0 0 [AV.i IntKind.i64 0, AV.i IntKind.i64 0, AV.i IntKind.i64 0, AV.i IntKind.i64 0, AV.i IntKind.i64 0, AV.i IntKind.i64 0, AV.i IntKind.i64 0, AV.i IntKind.i64 0]) (.lf (fI ([v77a_0_m2 cs (↑cs.length : Int) 0 0 0 0 0 0 0 0 0 [AV.i IntKind.i64 0, AV.i IntKind.i64 0, AV.i IntKind.i64 0, AV.i IntKind.i64 0, AV.i IntKind.i64 0, AV.i IntKind.i64 0, AV.i IntKind.i64 0, AV.i IntKind.i64 0]].getD 0 []) 0, fI ([v77a_0_m2 cs (↑cs.length : Int) 0 0 0 0 0 0 0 0 0 [AV.i IntKind.i64 0, AV.i IntKind.i64 0, AV.i IntKind.i64 0, AV.i IntKind.i64 0, AV.i IntKind.i64 0, AV.i IntKind.i64 0, AV.i IntKind.i64 0, AV.i IntKind.i64 0]].getD 0 []) 1, fI ([v77a_0_m2 cs (↑cs.length : Int) 0 0 0 0 0 0 0 0 0 [AV.i IntKind.i64 0, AV.i IntKind.i64 0, AV.i IntKind.i64 0, AV.i IntKind.i64 0, AV.i IntKind.i64 0, AV.i IntKind.i64 0, AV.i IntKind.i64 0, AV.i IntKind.i64 0]].getD 0 []) 2, fI ([v77a_0_m2 cs (↑cs.length : Int) 0 0 0 0 0 0 0 0 0 [AV.i IntKind.i64 0, AV.i IntKind.i64 0, AV.i IntKind.i64 0, AV.i IntKind.i64 0, AV.i IntKind.i64 0, AV.i IntKind.i64 0, AV.i IntKind.i64 0, AV.i IntKind.i64 0]].getD 0 []) 3, fI ([v77a_0_m2 cs (↑cs.length : Int) 0 0 0 0 0 0 0 0 0 [AV.i IntKind.i64 0, AV.i IntKind.i64 0, AV.i IntKind.i64 0, AV.i IntKind.i64 0, AV.i IntKind.i64 0, AV.i IntKind.i64 0, AV.i IntKind.i64 0, AV.i IntKind.i64 0]].getD 0 []) 4, fI ([v77a_0_m2 cs (↑cs.length : Int) 0 0 0 0 0 0 0 0 0 [AV.i IntKind.i64 0, AV.i IntKind.i64 0, AV.i IntKind.i64 0, AV.i IntKind.i64 0, AV.i IntKind.i64 0, AV.i IntKind.i64 0, AV.i IntKind.i64 0, AV.i IntKind.i64 0]].getD 0 []) 5, fI ([v77a_0_m2 cs (↑cs.length : Int) 0 0 0 0 0 0 0 0 0 [AV.i IntKind.i64 0, AV.i IntKind.i64 0, AV.i IntKind.i64 0, AV.i IntKind.i64 0, AV.i IntKind.i64 0, AV.i IntKind.i64 0, AV.i IntKind.i64 0, AV.i IntKind.i64 0]].getD 0 []) 6, fI ([v77a_0_m2 cs (↑cs.length : Int) 0 0 0 0 0 0 0 0 0 [AV.i IntKind.i64 0, AV.i IntKind.i64 0, AV.i IntKind.i64 0, AV.i IntKind.i64 0, AV.i IntKind.i64 0, AV.i IntKind.i64 0, AV.i IntKind.i64 0, AV.i IntKind.i64 0]].getD 0 []) 7)) (.nn)
noncomputable def g77 (da db : Int) (cs : List (List AV)) : Bool := (t77 da db cs).g
noncomputable def w77_0 (da db : Int) (cs : List (List AV)) : Int := (t77 da db cs).val.1
noncomputable def w77_1 (da db : Int) (cs : List (List AV)) : Int := (t77 da db cs).val.2.1
noncomputable def w77_2 (da db : Int) (cs : List (List AV)) : Int := (t77 da db cs).val.2.2.1
noncomputable def w77_3 (da db : Int) (cs : List (List AV)) : Int := (t77 da db cs).val.2.2.2.1
noncomputable def w77_4 (da db : Int) (cs : List (List AV)) : Int := (t77 da db cs).val.2.2.2.2.1
noncomputable def w77_5 (da db : Int) (cs : List (List AV)) : Int := (t77 da db cs).val.2.2.2.2.2.1
noncomputable def w77_6 (da db : Int) (cs : List (List AV)) : Int := (t77 da db cs).val.2.2.2.2.2.2.1
noncomputable def w77_7 (da db : Int) (cs : List (List AV)) : Int := (t77 da db cs).val.2.2.2.2.2.2.2
theorem eq77 (da db : Int) (cs : List (List AV)) : evF Try.prog S0 (ro 23) L77 Try.f23 [.agg [.i .i64 da, .i .i64 db, .rs 44 cs]] = (t77 da db cs).opt (fun (x : (Int) × (Int) × (Int) × (Int) × (Int) × (Int) × (Int) × (Int)) => (.agg [.i .i64 x.1, .i .i64 x.2.1, .i .i64 x.2.2.1, .i .i64 x.2.2.2.1, .i .i64 x.2.2.2.2.1, .i .i64 x.2.2.2.2.2.1, .i .i64 x.2.2.2.2.2.2.1, .i .i64 x.2.2.2.2.2.2.2] : AV)) := by kernel_rfl
theorem con77 (da db : Int) (cs : List (List AV)) (h : g77 da db cs = true) : Con Try.prog 23 [.agg [.i .i64 da, .i .i64 db, .rs 44 cs]] [] (.agg [.i .i64 (w77_0 da db cs), .i .i64 (w77_1 da db cs), .i .i64 (w77_2 da db cs), .i .i64 (w77_3 da db cs), .i .i64 (w77_4 da db cs), .i .i64 (w77_5 da db cs), .i .i64 (w77_6 da db cs), .i .i64 (w77_7 da db cs)]) [] :=
  con_of S0_ok mixed Try.func23 (c := c77) rfl (names 23 _ Try.func23) lok77 ((eq77 da db cs).trans (Tr.sound _ _ h))
noncomputable def e77 (args : List AV) (rows : List Blk) : Option (Bool × AV × List Blk) := match args, rows with
  | [.agg [.i .i64 da, .i .i64 db, .rs 44 cs]], [] => some (g77 da db cs, .agg [.i .i64 (w77_0 da db cs), .i .i64 (w77_1 da db cs), .i .i64 (w77_2 da db cs), .i .i64 (w77_3 da db cs), .i .i64 (w77_4 da db cs), .i .i64 (w77_5 da db cs), .i .i64 (w77_6 da db cs), .i .i64 (w77_7 da db cs)], [])
  | _, _ => none
theorem e77_ok (args : List AV) (rows : List Blk) (pre : Bool) (v : AV) (rows' : List Blk) (h : e77 args rows = some (pre, v, rows')) (hp : pre = true) : Con Try.prog 23 args rows v rows' := by
  unfold e77 at h
  split at h
  · cases h; exact con77 _ _ _ hp
  · cases h
-- SPEC 77
end Go.Proofs.Ytkdiaipaajgcbaa

set_option maxRecDepth 100000
set_option linter.unusedVariables false
namespace Go.Proofs.Ytkdiaipaajgcbaa
open Go Go.Ev
end Go.Proofs.Ytkdiaipaajgcbaa

set_option maxRecDepth 100000
set_option linter.unusedVariables false
set_option linter.unusedSimpArgs false
namespace Go.Proofs.Ytkdiaipaajgcbaa
open Go Go.Ev
noncomputable def bd89 : Code := match Try.f40.body with | some c => c | _ => .skip
noncomputable def at89 (p : List Bool) : Code := match locate bd89 p with | some c => c | _ => .skip
noncomputable def q0 : Code := at89 [false]
noncomputable def q1 : Code := at89 [true, false, false]
noncomputable def q2 : Code := at89 [true, false, true, false, false]
noncomputable def q3 : Code := at89 [true, true, false]
noncomputable def q4 : Code := at89 [true, true, true, false, false]
noncomputable def qB : Code := match at89 [true, true, true, false, true, false] with | .loop c => c | _ => .skip
noncomputable def atB (p : List Bool) : Code := match locate qB p with | some c => c | _ => .skip
noncomputable def q5 : Code := atB [false, false]
noncomputable def q7 : Code := atB [true, false, false, false, false]
noncomputable def q8 : Code := atB [true, false, false, false, true, false, false]
noncomputable def q9 : Code := atB [true, false, false, true]
noncomputable def q6 : Code := atB [true, true]
noncomputable def q10 : Code := at89 [true, true, true, true, false]
noncomputable def q11 : Code := at89 [true, true, true, true, true, false]
theorem bd89_eq : bd89 = .seq q0 (.seq (.seq q1 (.cond (.tmp 15) (.seq q2 .ret) .skip)) (.seq q3 (.seq (.seq q4 (.block 0 (.loop qB))) (.seq q10 (.seq q11 .ret))))) := by kernel_rfl
theorem qB_eq : qB = .seq (.seq q5 (.cond (.tmp 40) .skip (.exit 0))) (.seq (.block 1 (.seq (.seq q7 (.cond (.tmp 51) (.seq q8 .ret) .skip)) q9)) q6) := by kernel_rfl
noncomputable def ops2 : Array Oper := match q2 with | .region _ o _ => o | _ => #[]
noncomputable def ops7 : Array Oper := match q7 with | .region _ o _ => o | _ => #[]
def rpR (da db : Int) (cs : List (List AV)) : AV := .rp [.int .i64, .int .i64, .sl 44] [.i .i64 da, .i .i64 db, .rs 44 cs] 0
def rpY (l : Nat) : AV := .rp [.oth] [.yl l] 0
def rpM (q0 q1 q2 q3 q4 q5 q6 q7 : Int) : AV := .rp [.int .i64, .int .i64, .int .i64, .int .i64, .int .i64, .int .i64, .int .i64, .int .i64] [.i .i64 q0, .i .i64 q1, .i .i64 q2, .i .i64 q3, .i .i64 q4, .i .i64 q5, .i .i64 q6, .i .i64 q7] 0
noncomputable def piece (c : Code) (ts : List Nat) (st : St) : Option (Ex × List AV × Blk) := evC Try.prog S0 (ro 40) (fun _ _ => none) c [] st fun e s => some (e, ts.map (gt s.t), gm s.m 0)
noncomputable def pieceB (ops : Array Oper) (k : Nat) (ts : List Nat) (st : St) : Option (List AV × Blk) := evOpsB Try.prog S0 (ro 40) ops st.nx (ops.toList.take k) 0 st fun s => some (ts.map (gt s.t), gm s.m 0)
noncomputable def stH (vs X : List AV) : St := { t := [0, 1, 2, 3, 4, 5, 6, 10].zip vs, m := [(0, .row 78 [X])], nx := 1, nt := 57 }
noncomputable def st0 (j room : Int) (v2 v3 v5 v6 : AV) (X : List AV) : St := initSt 57 [.i .i64 j, .i .i64 room, v2, v3, .p 0 0 0, v5, v6] [.row 78 [X]]
end Go.Proofs.Ytkdiaipaajgcbaa

set_option maxRecDepth 100000
set_option linter.unusedVariables false
set_option linter.unusedSimpArgs false
namespace Go.Ev
open Go
variable {P : Program} {S : Spec} {RO : Nat → Bool} {L : LSpec} {X : Nat → Nat → Prop} {R : Nat → Option (Nat × Nat × Nat)} {st : St} {a : Act} {w : World} {n : Nat} {Q : Exit → Act → World → Prop}
theorem gt_zip {D : Nat → Nat → Prop} {f : Nat → Value} : ∀ (ts : List Nat) (vs : List AV), (∀ k, k < ts.length → VR P D R w (vs.getD k .u) (f (ts.getD k 0))) → ∀ t, VR P D R w (gt (ts.zip vs) t) (f t)
  | [], vs, _, t => .u
  | a :: ts, [], _, t => .u
  | a :: ts, v :: vs, h, t => by
    simp only [List.zip_cons_cons, gt_cons]
    by_cases e : t = a
    · subst e
      simpa using h 0 (by simp)
    · simp only [e, if_false]
      exact gt_zip ts vs (fun k hk => by simpa using h (k + 1) (by simpa using hk)) t
theorem piece_sound (hs : SpecOK P S) (hm : P.follows .mixedOrders = true) {b0 : Nat} {s0 : Nat × Nat} (hR00 : R 0 = some (b0, s0)) (h : SR P ⟨w, rowsOf R, fun id => id < 1, w.heap.size, Nat.le_refl _⟩ (XR X R) (XR X R) R st a w)
    (hf : Fresh R st.nx) (hnx : 1 ≤ st.nx) {c : Code} (hL : LOK P S RO L 1 true c []) {ts : List Nat} {e0 : Ex} {vs : List AV} {e : TypeId} {es : List (List AV)} (hes : es ≠ [])
    (he : (evC P S RO L c [] st fun e s => some (e, ts.map (gt s.t), gm s.m 0)) = some (e0, vs, .row e es)) (hfr : freeL P 1 vs = true) (hfb : freeB P 1 (.row e es) = true)
    (hn : ∀ a' w', LeftP P X R st a w ts vs (.row e es) a' w' → Q e0.exit a' w') : c.wpIn (FW none) n P Q a w := by
  refine evC_sound hs hm c [] 1 true none n hL (fun h => by cases h) h hf hnx (fun i j hi hk => absurd hk (Nat.not_lt.2 hi)) he fun D' R' e' st' a' w' hS hf' hRR hd _ ht hK => ?_
  simp only [Option.some.injEq, Prod.mk.injEq] at hK
  obtain ⟨rfl, rfl, hrow⟩ := hK
  exact hn a' w' (left_of hR00 hes hS hRR (hd rfl) ht hfr hrow hfb)
theorem pieceB_sound (hs : SpecOK P S) {b0 : Nat} {s0 : Nat × Nat} (hR00 : R 0 = some (b0, s0)) (h : SR P ⟨w, rowsOf R, fun id => id < 1, w.heap.size, Nat.le_refl _⟩ (XR X R) (XR X R) R st a w)
    (hf : Fresh R st.nx) (hnx : 1 ≤ st.nx) {ops : Array Oper} {k : Nat} {rest : List Nat} (hk : k ≤ ops.size) {ts : List Nat} {vs : List AV} {e : TypeId} {es : List (List AV)} (hes : es ≠ [])
    (he : (evOpsB P S RO ops st.nx (ops.toList.take k) 0 st fun s => some (ts.map (gt s.t), gm s.m 0)) = some (vs, .row e es)) (hfr : freeL P 1 vs = true) (hfb : freeB P 1 (.row e es) = true)
    (hn : ∀ a' w', LeftP P X R st a w ts vs (.row e es) a' w' → wpOpsIn (FW none) n P ops Q rest a' w') : wpOpsIn (FW none) n P ops Q (List.range' 0 k ++ rest) a w := by
  have hl : (ops.toList.take k).length = k := by simp; omega
  rw [← hl]
  refine evOpsB_cut hs (ops.toList.take k) 0 (fun i hi => ?_) h (by simpa using hf) he fun D' R' st' a' w' hS hf' hRR hd hx ht hK => ?_
  · rw [hl] at hi
    simp [List.getElem?_take, hi]
  · simp only [Option.some.injEq, Prod.mk.injEq] at hK
    obtain ⟨rfl, hrow⟩ := hK
    exact hn a' w' (left_of hR00 hes hS (fun id hid => .inl (hRR id (by omega))) hd ht hfr hrow hfb)
def GoodW (X : Nat → Nat → Prop) (R : Nat → Option (Nat × Nat × Nat)) (W W' : World) : Prop := W.heap.size ≤ W'.heap.size ∧ ∀ b o u, ¬ XR X R b o → W.cell? ⟨b, o, none⟩ = some u → W'.cell? ⟨b, o, none⟩ = some u
theorem GoodW.refl {W : World} : GoodW X R W W := ⟨Nat.le_refl _, fun _ _ _ _ h => h⟩
theorem GoodW.trans {W W' W'' : World} (h : GoodW X R W W') (h' : GoodW X R W' W'') : GoodW X R W W'' := ⟨Nat.le_trans h.1 h'.1, fun b o u hd hc => h'.2 b o u hd (h.2 b o u hd hc)⟩
theorem GoodW.VR {W W' : World} (h : GoodW X R W W') {x : AV} {v : Value} (hv : VR P (XR X R) R W x v) : VR P (XR X R) R W' x v := hv.mono' (fun _ _ e => e) fun b o u hd hc => ⟨hd, h.2 b o u hd hc⟩
theorem good_below {W W' : World} (h : BelowY ⟨W, rowsOf R, fun id => id < 1, W.heap.size, Nat.le_refl _⟩ W') : GoodW X R W W' := by
  refine ⟨h.size, fun b o u hd hc => ?_⟩
  have hb : b < W.heap.size := by
    obtain ⟨ob, h5, _⟩ := cells_of_cell hc
    exact (Array.getElem?_eq_some_iff.1 h5).1
  exact (World.cell?_of_block (h.block b hb fun hr => hd (.inr hr))).trans hc
theorem good_kp {Y : Nat → Prop} {W W' : World} (h : KpOf Y W W') (hY : ∀ b o, Y b → X b o) : GoodW X R W W' := by
  refine ⟨h.size, fun b o u hd hc => ?_⟩
  obtain ⟨ob, h5, h6⟩ := cells_of_cell hc
  exact (World.cell?_of_block ((h.same b ob h5 h6 fun hy => hd (.inl (hY b o hy))).trans h5.symm)).trans hc
theorem row_kp {Y : Nat → Prop} {W W' : World} (h : KpOf Y W W') (hY : ∀ b o, Y b → X b o) (hX : ∀ b s o, R 0 = some (b, s) → ¬ X b o) {e : TypeId} {es : List (List AV)} (hr : RowOK P (XR X R) R W 0 (.row e es)) : RowOK P (XR X R) R W' 0 (.row e es) := by
  intro hne
  obtain ⟨b, cells, ty, g1, g2, g3, g4, g5, g6, g7⟩ := hr hne
  refine ⟨b, cells, ty, g1, (h.same b _ g2 rfl fun hy => hX b _ 0 g1 (hY b 0 hy)), g3, g4, g5, g6, fun i j hi hj => ?_⟩
  obtain ⟨v, k1, k2⟩ := g7 i j hi hj
  exact ⟨v, k1, (good_kp h hY).VR k2⟩
end Go.Ev

set_option maxRecDepth 100000
set_option linter.unusedVariables false
set_option linter.unusedSimpArgs false
namespace Go.Proofs.Ytkdiaipaajgcbaa
open Go Go.Ev
abbrev ts8 : List Nat := [0, 1, 2, 3, 4, 5, 6, 10]
abbrev rw0 (X : List AV) : Blk := .row 78 [X]
noncomputable def o2a : Oper := (ops2[2]?).getD default
noncomputable def o2b : Oper := (ops2[3]?).getD default
noncomputable def o7a : Oper := (ops7[4]?).getD default
noncomputable def o7b : Oper := (ops7[5]?).getD default
theorem o2a_at : ops2[2]? = some o2a := by kernel_rfl
theorem o2a_op : o2a.op = .call { callee := .value (.tmp 16), args := #[.tmp 17], argTypes := #[78] } := by kernel_rfl
theorem o2a_g : o2a.guard = none := by kernel_rfl
theorem o2a_d : o2a.dst = some 18 := by kernel_rfl
theorem o2b_at : ops2[3]? = some o2b := by kernel_rfl
theorem o2b_op : o2b.op = .assign (.tmp 18) := by kernel_rfl
theorem o2b_g : o2b.guard = none := by kernel_rfl
theorem o2b_d : o2b.dst = some 9 := by kernel_rfl
theorem o7a_at : ops7[4]? = some o7a := by kernel_rfl
theorem o7a_op : o7a.op = .call { callee := .value (.tmp 46), args := #[.tmp 48, .tmp 49], argTypes := #[3, 3] } := by kernel_rfl
theorem o7a_g : o7a.guard = none := by kernel_rfl
theorem o7a_d : o7a.dst = some 50 := by kernel_rfl
theorem o7b_at : ops7[5]? = some o7b := by kernel_rfl
theorem o7b_op : o7b.op = .unOp .not 4 (.tmp 50) := by kernel_rfl
theorem o7b_g : o7b.guard = none := by kernel_rfl
theorem o7b_d : o7b.dst = some 51 := by kernel_rfl
theorem q2_eq : q2 = .region 2 ops2 false := by kernel_rfl
theorem q7_eq : q7 = .region 7 ops7 false := by kernel_rfl
theorem sz2 : ops2.size = 4 := by kernel_rfl
theorem sz7 : ops7.size = 6 := by kernel_rfl
theorem body89 : Try.f40.body = some bd89 := by kernel_rfl
theorem res89 : Try.f40.results = #[.tmp 9] := by kernel_rfl
theorem lokP (c : Code) (h : (match c with | .region _ _ _ => true | .seq (.region _ _ _) (.region _ _ _) => true | _ => false) = true) : LOK Try.prog S0 (ro 40) (fun _ _ => none) 1 true c [] := by
  split at h
  · trivial
  · exact ⟨trivial, trivial⟩
  · cases h
variable (da db : Int) (cs : List (List AV)) (m0 m1 m2 m3 m4 m5 m6 m7 : Int) (j room w : Int) (l : Nat) (v6 v10 : AV) (X : List AV)
noncomputable def vH (j room : Int) (v6 v10 : AV) : List AV := [.i .i64 j, .i .i64 room, rpR da db cs, rpY l, .p 0 0 0, rpM m0 m1 m2 m3 m4 m5 m6 m7, v6, v10]
noncomputable def fn89 (v6 : AV) : AV := .fn 40 [rpR da db cs, rpY l, .p 0 0 0, rpM m0 m1 m2 m3 m4 m5 m6 m7, v6]
noncomputable def gj (j : Int) : Bool := ctsAt (cts Try.prog 78) (0 + j.toNat * 1) (cts Try.prog 3)
theorem pe0 : piece q0 ts8 (st0 j room (rpR da db cs) (rpY l) (rpM m0 m1 m2 m3 m4 m5 m6 m7) v6 X) = some (.nrm, vH da db cs m0 m1 m2 m3 m4 m5 m6 m7 l j room v6 .u, rw0 X) := by kernel_rfl
theorem pe1 : piece q1 [0, 1, 2, 3, 4, 5, 6, 10, 15] (stH (vH da db cs m0 m1 m2 m3 m4 m5 m6 m7 l j room v6 .u) X) = some (.nrm, vH da db cs m0 m1 m2 m3 m4 m5 m6 m7 l j room v6 .u ++ [.b (j == (cs.length : Int))], rw0 X) := by kernel_rfl
theorem pe2 : pieceB ops2 2 [16, 17] (stH (vH da db cs m0 m1 m2 m3 m4 m5 m6 m7 l j room v6 .u) X) = some ([.yl l, .agg [.i .i64 (fI X 0), .i .i64 (fI X 1), .i .i64 (fI X 2), .i .i64 (fI X 3), .i .i64 (fI X 4), .i .i64 (fI X 5), .i .i64 (fI X 6), .i .i64 (fI X 7)]], rw0 X) := by kernel_rfl
theorem pe3 : piece q3 ts8 (stH (vH da db cs m0 m1 m2 m3 m4 m5 m6 m7 l j room v6 .u) X) = cond (inb j cs.length) (some (.nrm, vH da db cs m0 m1 m2 m3 m4 m5 m6 m7 l j room v6 (.i .i64 (IntKind.i64.wrap (fI (cs.getD j.toNat []) 0 + db))), rw0 X)) none := by kernel_rfl
theorem pe4 : piece q4 ts8 (stH (vH da db cs m0 m1 m2 m3 m4 m5 m6 m7 l j room v6 (.i .i64 w)) X) = cond (inb j 8) (cond (gj j && Nat.blt 0 1) (some (.nrm, vH da db cs m0 m1 m2 m3 m4 m5 m6 m7 l j room v6 (.i .i64 w), rw0 (setCs X (0 + j.toNat * 1) [.i .i64 0]))) none) none := by kernel_rfl
theorem pe5 : piece q5 [0, 1, 2, 3, 4, 5, 6, 10, 40] (stH (vH da db cs m0 m1 m2 m3 m4 m5 m6 m7 l j room v6 (.i .i64 w)) X) = cond (inb j 8) (cond (gj j && Nat.blt 0 1) (cond (inb j 8) (cond (ctsAt [CT.int IntKind.i64, CT.int IntKind.i64, CT.int IntKind.i64, CT.int IntKind.i64, CT.int IntKind.i64, CT.int IntKind.i64, CT.int IntKind.i64, CT.int IntKind.i64] (0 + j.toNat * 1) (cts Try.prog 3))
    (cond (decide (fI X (0 + j.toNat * 1) ≤ fI [AV.i IntKind.i64 m0, AV.i IntKind.i64 m1, AV.i IntKind.i64 m2, AV.i IntKind.i64 m3, AV.i IntKind.i64 m4, AV.i IntKind.i64 m5, AV.i IntKind.i64 m6, AV.i IntKind.i64 m7] (0 + j.toNat * 1)))
      (some (.nrm, vH da db cs m0 m1 m2 m3 m4 m5 m6 m7 l j room v6 (.i .i64 w) ++ [.b (decide (room ≥ 0))], rw0 X)) (some (.nrm, vH da db cs m0 m1 m2 m3 m4 m5 m6 m7 l j room v6 (.i .i64 w) ++ [.b false], rw0 X))) none) none) none) none := by kernel_rfl
theorem pe7 : pieceB ops7 4 [0, 1, 2, 3, 4, 5, 6, 10, 46, 48, 49] (stH (vH da db cs m0 m1 m2 m3 m4 m5 m6 m7 l j room (.rp [.oth] [fn89 da db cs m0 m1 m2 m3 m4 m5 m6 m7 l v6] 0) (.i .i64 w)) X) =
    some (vH da db cs m0 m1 m2 m3 m4 m5 m6 m7 l j room (.rp [.oth] [fn89 da db cs m0 m1 m2 m3 m4 m5 m6 m7 l v6] 0) (.i .i64 w) ++ [fn89 da db cs m0 m1 m2 m3 m4 m5 m6 m7 l v6, .i .i64 (IntKind.i64.wrap (j + 1)), .i .i64 room], rw0 X) := by kernel_rfl
theorem pe9 : piece q9 ts8 (stH (vH da db cs m0 m1 m2 m3 m4 m5 m6 m7 l j room v6 (.i .i64 w)) X) = some (.nrm, vH da db cs m0 m1 m2 m3 m4 m5 m6 m7 l j (IntKind.i64.wrap (room - w)) v6 (.i .i64 w), rw0 X) := by kernel_rfl
theorem pe6 : piece q6 ts8 (stH (vH da db cs m0 m1 m2 m3 m4 m5 m6 m7 l j room v6 (.i .i64 w)) X) = cond (inb j 8) (cond (gj j && Nat.blt 0 1) (cond (inb j 8) (cond (gj j && Nat.blt 0 1) (some (.nrm, vH da db cs m0 m1 m2 m3 m4 m5 m6 m7 l j room v6 (.i .i64 w), rw0 (setCs X (0 + j.toNat * 1) [.i .i64 (IntKind.i64.wrap (fI X (0 + j.toNat * 1) + 1))]))) none) none) none) none := by kernel_rfl
theorem peA : piece q10 ts8 (stH (vH da db cs m0 m1 m2 m3 m4 m5 m6 m7 l j room v6 (.i .i64 w)) X) = cond (inb j 8) (cond (gj j && Nat.blt 0 1) (some (.nrm, vH da db cs m0 m1 m2 m3 m4 m5 m6 m7 l j room v6 (.i .i64 w), rw0 (setCs X (0 + j.toNat * 1) [.i .i64 0]))) none) none := by kernel_rfl
theorem peB : piece q11 [9] (stH (vH da db cs m0 m1 m2 m3 m4 m5 m6 m7 l j room v6 (.i .i64 w)) X) = some (.nrm, [.b true], rw0 X) := by kernel_rfl

theorem fr8 (h : free Try.prog 1 v6 = true) (h' : free Try.prog 1 v10 = true) : freeL Try.prog 1 (vH da db cs m0 m1 m2 m3 m4 m5 m6 m7 l j room v6 v10) = true := by
  have : freeL Try.prog 1 (vH da db cs m0 m1 m2 m3 m4 m5 m6 m7 l j room v6 v10) = (free Try.prog 1 v6 && (free Try.prog 1 v10 && true)) := by kernel_rfl
  rw [this, h, h']; rfl
theorem frB (X : List AV) : freeB Try.prog 1 (rw0 X) = true := by kernel_rfl
theorem gj_at {k : Nat} (h : k < 8) : inb ((k : Nat) : Int) 8 = true ∧ gj k = true ∧ ctsAt [CT.int IntKind.i64, CT.int IntKind.i64, CT.int IntKind.i64, CT.int IntKind.i64, CT.int IntKind.i64, CT.int IntKind.i64, CT.int IntKind.i64, CT.int IntKind.i64] (0 + (k : Int).toNat * 1) (cts Try.prog 3) = true := by
  rcases k with _ | _ | _ | _ | _ | _ | _ | _ | k
  all_goals first | (exfalso; omega) | (exact ⟨by kernel_rfl, by kernel_rfl, by kernel_rfl⟩)
end Go.Proofs.Ytkdiaipaajgcbaa

set_option maxRecDepth 100000
set_option linter.unusedVariables false
set_option linter.unusedSimpArgs false
namespace Go.Proofs.Ytkdiaipaajgcbaa
open Go Go.Ev Go.RowKit
def ag8 (X : List AV) : AV := .agg [.i .i64 (fI X 0), .i .i64 (fI X 1), .i .i64 (fI X 2), .i .i64 (fI X 3), .i .i64 (fI X 4), .i .i64 (fI X 5), .i .i64 (fI X 6), .i .i64 (fI X 7)]
def enc8 (X : List AV) : List AV := [ag8 X]
def wid (db : Int) (cs : List (List AV)) (j : Nat) : Int := IntKind.i64.wrap (fI (cs.getD j []) 0 + db)
inductive PT (db : Int) (cs : List (List AV)) (ms : List AV) : Bool → Nat → Int → List AV → List (List AV) → List AV → Prop
  | leaf {room : Int} {X : List AV} : PT db cs ms false cs.length room X [enc8 X] X
  | node {j : Nat} {room : Int} {X X' : List AV} {l : List (List AV)} : j < cs.length → j < 8 → PT db cs ms true j room (setCs X j [.i .i64 0]) l X' → PT db cs ms false j room X l (setCs X' j [.i .i64 0])
  | stop {j : Nat} {room : Int} {X : List AV} : (decide (fI X j ≤ fI ms j) && decide (room ≥ 0)) = false → PT db cs ms true j room X [] X
  | step {j : Nat} {room : Int} {X X1 X2 : List AV} {l1 l2 : List (List AV)} : fI X j ≤ fI ms j → 0 ≤ room → PT db cs ms false (j + 1) room X l1 X1 →
      PT db cs ms true j (IntKind.i64.wrap (room - wid db cs j)) (setCs X1 j [.i .i64 (IntKind.i64.wrap (fI X1 j + 1))]) l2 X2 → PT db cs ms true j room X (l1 ++ l2) X2

structure Env (l : Nat) (X : Nat → Nat → Prop) (Y : Nat → Prop) (R : Nat → Option (Nat × Nat × Nat)) (pb : Nat) (xs : List (List AV)) (J : (Nat → Prop) → Nat → World → Prop) (Jx : (Nat → Prop) → World → Prop) : Prop where
  R0 : R 0 = some (pb, 8, 0)
  R1 : ∀ id, 1 ≤ id → R id = none
  YX : ∀ b o, Y b → X b o
  pX : ∀ o, ¬ X pb o
  hJ : ∀ Z i W W', J Z i W → BelowZ Z W W' → J (fun b => Z b ∨ (W.heap.size ≤ b ∧ b < W'.heap.size)) i W'
  yield : ∀ Z i x W m, J Z i W → xs[i]? = some x → YieldAt (FW none) m Try.prog l (encV x) W fun e W' => (e = .returned (.bool true) ∧ J Z (i + 1) W' ∧ KpOf Y W W') ∨ (e = .returned (.bool false) ∧ Jx Z W' ∧ KpOf Y W W')
structure At (l : Nat) (X : Nat → Nat → Prop) (R : Nat → Option (Nat × Nat × Nat)) (pb : Nat) (p : List AV) (W : World) : Prop where
  xl : ∀ b o, X b o → b < W.heap.size
  pl : pb < W.heap.size
  row : RowOK Try.prog (XR X R) R W 0 (rw0 p)

variable {da db : Int} {cs : List (List AV)} {m0 m1 m2 m3 m4 m5 m6 m7 : Int} {l : Nat} {X : Nat → Nat → Prop} {Y : Nat → Prop} {R : Nat → Option (Nat × Nat × Nat)} {pb : Nat} {xs : List (List AV)} {J : (Nat → Prop) → Nat → World → Prop} {Jx : (Nat → Prop) → World → Prop}
noncomputable def RP (da db : Int) (cs : List (List AV)) (m0 m1 m2 m3 m4 m5 m6 m7 : Int) (l : Nat) : Nat → AV
  | 0 => .u
  | d + 1 => .rp [.oth] [fn89 da db cs m0 m1 m2 m3 m4 m5 m6 m7 l (RP da db cs m0 m1 m2 m3 m4 m5 m6 m7 l d)] 0
theorem RP_free : ∀ d, free Try.prog 1 (RP da db cs m0 m1 m2 m3 m4 m5 m6 m7 l d) = true
  | 0 => rfl
  | d + 1 => by
    have : free Try.prog 1 (RP da db cs m0 m1 m2 m3 m4 m5 m6 m7 l (d + 1)) = (free Try.prog 1 (RP da db cs m0 m1 m2 m3 m4 m5 m6 m7 l d) && true && true) := by kernel_rfl
    rw [this, RP_free d]; rfl
structure Hd (da db : Int) (cs : List (List AV)) (m0 m1 m2 m3 m4 m5 m6 m7 : Int) (l : Nat) (X : Nat → Nat → Prop) (R : Nat → Option (Nat × Nat × Nat)) (pb : Nat) (j room : Int) (v6 v10 : AV) (p : List AV) (a : Act) (W : World) : Prop where
  at_ : At l X R pb p W
  tmp : ∀ k, k < 8 → VR Try.prog (XR X R) R W ((vH da db cs m0 m1 m2 m3 m4 m5 m6 m7 l j room v6 v10).getD k .u) (a.tmps.getD (ts8.getD k 0) undef)
  nt : a.tmps.size = 57
  df : a.defers = []
theorem Hd.sr {j room : Int} {v6 v10 : AV} {p : List AV} {a : Act} {W : World} (E : Env l X Y R pb xs J Jx) (h : Hd da db cs m0 m1 m2 m3 m4 m5 m6 m7 l X R pb j room v6 v10 p a W) :
    SR Try.prog ⟨W, rowsOf R, fun id => id < 1, W.heap.size, Nat.le_refl _⟩ (XR X R) (XR X R) R (stH (vH da db cs m0 m1 m2 m3 m4 m5 m6 m7 l j room v6 v10) p) a W := by
  refine mkSR E.R1 (fun id b s e => ?_) h.at_.xl (fun t => ?_) h.nt rfl (fun id hid => ?_) h.at_.row h.df
  · rcases Nat.eq_zero_or_pos id with e0 | e0
    · rw [e0, E.R0] at e; cases e; exact ⟨h.at_.pl, by simp⟩
    · rw [E.R1 id e0] at e; cases e
  · exact gt_zip (f := fun t => a.tmps.getD t undef) ts8 _ (fun k hk => h.tmp k hk) t
  · cases id with
    | zero => omega
    | succ id => rfl
theorem Hd.fresh (E : Env l X Y R pb xs J Jx) : Fresh R 1 := fun id hid => E.R1 id hid
theorem At.left {p p' : List AV} {W W' : World} {st : St} {a a' : Act} {ts : List Nat} {vs : List AV} (h : At l X R pb p W) (k : LeftP Try.prog X R st a W ts vs (rw0 p') a' W') : At l X R pb p' W' :=
  ⟨fun b o hx => Nat.lt_of_lt_of_le (h.xl b o hx) k.below.size, Nat.lt_of_lt_of_le h.pl k.below.size, k.row⟩
theorem Hd.left {j room : Int} {v6 v10 : AV} {p p' : List AV} {W W' : World} {st : St} {a a' : Act} {ts : List Nat} {vs : List AV} (h : At l X R pb p W) (hts : ts.take 8 = ts8) (hvs : vs.take 8 = vH da db cs m0 m1 m2 m3 m4 m5 m6 m7 l j room v6 v10) (hnt : st.nt = 57) (hd : a.defers = [])
    (k : LeftP Try.prog X R st a W ts vs (rw0 p') a' W') : Hd da db cs m0 m1 m2 m3 m4 m5 m6 m7 l X R pb j room v6 v10 p' a' W' := by
  have hl : 8 ≤ ts.length := by have := congrArg List.length hts; simp at this; omega
  refine ⟨h.left k, fun i hi => ?_, k.nt.trans hnt, k.df.trans hd⟩
  have := k.tmp i (by omega)
  have e1 : vs.getD i .u = (vs.take 8).getD i .u := by simp [List.getD_eq_getElem?_getD, List.getElem?_take, hi]
  have e2 : ts.getD i 0 = (ts.take 8).getD i 0 := by simp [List.getD_eq_getElem?_getD, List.getElem?_take, hi]
  rw [e1, e2, hvs, hts] at this
  exact this
theorem belowZ {Z : Nat → Prop} (E : Env l X Y R pb xs J Jx) (hZ : Z pb) {W W' : World} (h : BelowY ⟨W, rowsOf R, fun id => id < 1, W.heap.size, Nat.le_refl _⟩ W') : BelowZ Z W W' :=
  ⟨h.os, h.tape, h.output, h.size, fun k hk hz => h.block k hk fun ⟨id, s, e⟩ => hz (by
    rcases Nat.eq_zero_or_pos id with e0 | e0
    · rw [e0, E.R0] at e; cases e; exact hZ
    · rw [E.R1 id e0] at e; cases e)⟩
def Done (l : Nat) (X : Nat → Nat → Prop) (R : Nat → Option (Nat × Nat × Nat)) (pb : Nat) (J : (Nat → Prop) → Nat → World → Prop) (Jx : (Nat → Prop) → World → Prop) (W : World) (n : Nat) (p' : List AV) (e : Ending) (W' : World) : Prop :=
  (e = .returned (.bool true) ∧ ∃ Z', Z' pb ∧ J Z' n W' ∧ At l X R pb p' W' ∧ GoodW X R W W') ∨ (e = .returned (.bool false) ∧ ∃ Z', Jx Z' W')
end Go.Proofs.Ytkdiaipaajgcbaa

set_option maxRecDepth 100000
set_option linter.unusedVariables false
set_option linter.unusedSimpArgs false
namespace Go.Proofs.Ytkdiaipaajgcbaa
open Go Go.Ev Go.RowKit
variable {da db : Int} {cs : List (List AV)} {m0 m1 m2 m3 m4 m5 m6 m7 : Int} {l : Nat} {X : Nat → Nat → Prop} {Y : Nat → Prop} {R : Nat → Option (Nat × Nat × Nat)} {pb : Nat} {xs : List (List AV)} {J : (Nat → Prop) → Nat → World → Prop} {Jx : (Nat → Prop) → World → Prop}

theorem freeL_app {nb : Nat} : ∀ {x y : List AV}, freeL Try.prog nb x = true → freeL Try.prog nb y = true → freeL Try.prog nb (x ++ y) = true
  | [], y, _, h => h
  | a :: x, y, h, h' => by
    simp only [freeL, Bool.and_eq_true, List.cons_append] at h ⊢
    exact ⟨h.1, freeL_app h.2 h'⟩
theorem stp {Z : Nat → Prop} {i : Nat} {st : St} {a a' : Act} {W W' : World} {ts : List Nat} {vs : List AV} {blk : Blk} (E : Env l X Y R pb xs J Jx) (hZ : Z pb) (hJ : J Z i W) (k : LeftP Try.prog X R st a W ts vs blk a' W') :
    ∃ Z', Z' pb ∧ J Z' i W' ∧ GoodW X R W W' := ⟨_, .inl hZ, E.hJ _ _ _ _ hJ (belowZ E hZ k.below), good_below k.below⟩
theorem put_get {a : Act} {d t : Nat} {v : Value} (h : d < a.tmps.size) : (a.put (some d) v).tmps.getD t undef = if t = d then v else a.tmps.getD t undef := by
  show (a.tmps.setIfInBounds d v).getD t undef = _
  by_cases e : t = d
  · subst e; simp [Array.getD_eq_getD_getElem?, h]
  · simp [Array.getD_eq_getD_getElem?, Array.getElem?_setIfInBounds, e, Ne.symm e]
theorem put_size {a : Act} {d : Nat} {v : Value} : (a.put (some d) v).tmps.size = a.tmps.size := by
  show (a.tmps.setIfInBounds d v).size = _
  simp
theorem fin89 {A : Ending → World → Prop} {a : Act} {W : World} {b : Bool} (hd : a.defers = []) (ht : a.tmps.getD 9 undef = .bool b) (hA : A (.returned (.bool b)) W) : bodyPost Try.prog Try.f40 A .ret a W := by
  refine ⟨hd, .bool b, ?_, hA⟩
  simp only [results, res89]
  simpa [Array.getD_eq_getD_getElem?] using ht
theorem pre89 (E : Env l X Y R pb xs J Jx) {j room : Int} {v6 : AV} {p : List AV} {W : World} {Z : Nat → Prop} {i : Nat} {av : Array Value} (hv6 : free Try.prog 1 v6 = true) (h : At l X R pb p W) (hs : av.size = 7)
    (hv : ∀ k, k < 7 → VR Try.prog (XR X R) R W (([.i .i64 j, .i .i64 room, rpR da db cs, rpY l, .p 0 0 0, rpM m0 m1 m2 m3 m4 m5 m6 m7, v6] : List AV).getD k .u) (av.getD k undef)) (hZ : Z pb) (hJ : J Z i W) {Q : Exit → Act → World → Prop}
    (hc : ∀ a' W' Z', Hd da db cs m0 m1 m2 m3 m4 m5 m6 m7 l X R pb j room v6 .u p a' W' → a'.eval (.tmp 15) = .bool (j == (cs.length : Int)) → Z' pb → J Z' i W' → GoodW X R W W' →
      (Code.cond (.tmp 15) (.seq q2 .ret) .skip).wpIn (FW none) 0 Try.prog (Exit.then (fun a w => (Code.seq q3 (.seq (.seq q4 (.block 0 (.loop qB))) (.seq q10 (.seq q11 .ret)))).wpIn (FW none) 0 Try.prog Q a w) Q) a' W') :
    bd89.wpIn (FW none) 0 Try.prog Q { tmps := av ++ Array.replicate (57 - av.size) undef, defers := [] } W := by
  rw [bd89_eq]
  have h0 : SR Try.prog ⟨W, rowsOf R, fun id => id < 1, W.heap.size, Nat.le_refl _⟩ (XR X R) (XR X R) R (st0 j room (rpR da db cs) (rpY l) (rpM m0 m1 m2 m3 m4 m5 m6 m7) v6 p) { tmps := av ++ Array.replicate (57 - av.size) undef, defers := [] } W :=
    init_SR (args := [.i .i64 j, .i .i64 room, rpR da db cs, rpY l, .p 0 0 0, rpM m0 m1 m2 m3 m4 m5 m6 m7, v6]) (rows := [rw0 p]) h.xl E.R1 (fun id b s e => by
      rcases Nat.eq_zero_or_pos id with e0 | e0
      · rw [e0, E.R0] at e; cases e; exact ⟨h.pl, by simp⟩
      · rw [E.R1 id e0] at e; cases e) (fun id id' b s s' e e' => by
      rcases Nat.eq_zero_or_pos id with e0 | e0
      · rcases Nat.eq_zero_or_pos id' with e1 | e1
        · rw [e0, e1]
        · rw [E.R1 id' e1] at e'; cases e'
      · rw [E.R1 id e0] at e; cases e) rfl (fun id hid => by
      have : id = 0 := by simp at hid; omega
      subst this
      exact h.row) hs (show 7 ≤ 57 by decide) hv
  refine wpIn_seq (piece_sound S0_ok mixed E.R0 h0 (fun id hid => E.R1 id hid) (Nat.le_refl 1) (lokP q0 (by kernel_rfl)) (by simp) (pe0 da db cs m0 m1 m2 m3 m4 m5 m6 m7 j room l v6 p) (fr8 _ _ _ _ _ _ _ _ _ _ _ _ _ _ _ _ hv6 rfl) (frB p) fun a1 W1 k1 => ?_)
  obtain ⟨Z1, z1, j1, g1⟩ := stp E hZ hJ k1
  have H1 : Hd da db cs m0 m1 m2 m3 m4 m5 m6 m7 l X R pb j room v6 .u p a1 W1 := Hd.left h rfl rfl rfl rfl k1
  refine wpIn_seq (wpIn_seq (piece_sound S0_ok mixed E.R0 (H1.sr E) (fun id hid => E.R1 id hid) (Nat.le_refl 1) (lokP q1 (by kernel_rfl)) (by simp) (pe1 da db cs m0 m1 m2 m3 m4 m5 m6 m7 j room l v6 p) (freeL_app (fr8 _ _ _ _ _ _ _ _ _ _ _ _ _ _ _ _ hv6 rfl) rfl) (frB p) fun a2 W2 k2 => ?_))
  obtain ⟨Z2, z2, j2, g2⟩ := stp E z1 j1 k2
  have H2 : Hd da db cs m0 m1 m2 m3 m4 m5 m6 m7 l X R pb j room v6 .u p a2 W2 := Hd.left H1.at_ rfl rfl rfl H1.df k2
  exact hc a2 W2 Z2 H2 (k2.tmp 8 (by decide)).bool_inv z2 j2 (g1.trans g2)

theorem plain8 {D : Nat → Nat → Prop} {W : World} {p : List AV} {v : Value} (h : VR Try.prog D R W (ag8 p) v) : plain (ag8 p) = true := by
  obtain ⟨cv, _, _, h⟩ := h.agg_inv
  have k : ∀ i, i < 8 → IntKind.i64.min ≤ fI p i ∧ fI p i ≤ IntKind.i64.max := by
    intro i hi
    have := h i hi
    rcases i with _ | _ | _ | _ | _ | _ | _ | _ | i
    all_goals first | (exfalso; omega) | exact VR.int_inv this |>.2
  have := k 0 (by decide); have := k 1 (by decide); have := k 2 (by decide); have := k 3 (by decide)
  have := k 4 (by decide); have := k 5 (by decide); have := k 6 (by decide); have := k 7 (by decide)
  simp only [ag8, plain, plainL, Bool.and_eq_true, decide_eq_true_eq, and_true]
  exact ⟨k 0 (by decide), k 1 (by decide), k 2 (by decide), k 3 (by decide), k 4 (by decide), k 5 (by decide), k 6 (by decide), k 7 (by decide)⟩
theorem leaf89 (E : Env l X Y R pb xs J Jx) {room : Int} {v6 : AV} {p : List AV} {W : World} {Z : Nat → Prop} {i : Nat} {av : Array Value} (hv6 : free Try.prog 1 v6 = true) (h : At l X R pb p W) (hs : av.size = 7)
    (hv : ∀ k, k < 7 → VR Try.prog (XR X R) R W (([.i .i64 (cs.length : Nat), .i .i64 room, rpR da db cs, rpY l, .p 0 0 0, rpM m0 m1 m2 m3 m4 m5 m6 m7, v6] : List AV).getD k .u) (av.getD k undef)) (hZ : Z pb) (hJ : J Z i W)
    (hx : xs[i]? = some (enc8 p)) : Calls Try.prog 40 av W (Done l X R pb J Jx W (i + 1) p) := by
  refine calls_of_FW (ro := none) (n := 0) (callsIn_of_wp Try.func40 body89 trivial ?_)
  refine pre89 E hv6 h hs hv hZ hJ fun a2 W2 Z2 H2 ht z2 j2 g2 => ?_
  refine wpIn_cond (t := true) (ht.trans (by simp)) ?_
  simp only [if_true]
  rw [q2_eq]
  refine wpIn_seq (wpIn_region ?_)
  rw [sz2, show List.range 4 = List.range' 0 2 ++ [2, 3] by decide]
  refine pieceB_sound S0_ok E.R0 (H2.sr E) (fun id hid => E.R1 id hid) (Nat.le_refl 1) (by rw [sz2]; decide) (by simp) (pe2 da db cs m0 m1 m2 m3 m4 m5 m6 m7 _ room l v6 p) (by kernel_rfl) (frB p) fun a3 W3 k3 => ?_
  obtain ⟨Z3, z3, j3, g3⟩ := stp E z2 j2 k3
  have A3 := H2.at_.left k3
  have hy : a3.eval (.tmp 16) = .func (.yield l) #[] #[] := by
    have := k3.tmp 0 (by decide)
    simp only [List.getD_cons_zero] at this
    show a3.tmps.getD 16 undef = _
    generalize a3.tmps.getD 16 undef = q at this
    cases this; rfl
  have sz3 : a3.tmps.size = 57 := k3.nt.trans rfl
  have df3 : a3.defers = [] := k3.df.trans H2.df
  simp only [wpOpsIn, o2a_at, o2b_at]
  rw [if_pos (by simp [Region.wanted, o2a_g])]
  have hx8 : VR Try.prog (XR X R) R W3 (ag8 p) (a3.eval (.tmp 17)) := k3.tmp 1 (by decide)
  refine yield_op o2a_op rfl rfl hy hx8 (plain8 hx8) (fun m => E.yield Z3 i _ W3 m j3 hx) fun e4 W4 he => ?_
  have tl : ∀ (b : Bool) (Q : Exit → Act → World → Prop), (∀ a', a'.defers = [] → a'.tmps.getD 9 undef = .bool b → Q .normal a' W4) → (if Region.wanted o2b (yielded ops2 (a3.put o2a.dst (.bool b)).tmps) = true then o2b.wpIn (FW none) 0 Try.prog (a3.put o2a.dst (.bool b)) W4 (fun a w => Q .normal a w) Q
      else (∀ f, o2b.about Try.prog W4 (a3.put o2a.dst (.bool b)).eval = some f → (FW none).fn f) ∧ Q .normal ((a3.put o2a.dst (.bool b)).put o2b.dst undef) W4) := by
    intro b Q hQ
    rw [if_pos (by simp [Region.wanted, o2b_g])]
    have e18 : (a3.put o2a.dst (.bool b)).eval (.tmp 18) = .bool b := by
      rw [o2a_d]
      exact (put_get (by rw [sz3]; decide)).trans (if_pos rfl)
    refine wpIn_value (w' := W4) (v := .bool b) (fun c hc => by rw [o2b_op] at hc; cases hc) (by simp only [execOp, o2b_op, e18, Sem.run_pure]) (hQ _ ?_ ?_)
    · rw [put_defers, put_defers]; exact df3
    · rw [o2b_d, o2a_d]
      exact (put_get (by rw [put_size, sz3]; decide)).trans (if_pos rfl)
  rcases he with ⟨rfl, j4, kp⟩ | ⟨rfl, jx, kp⟩
  · refine ⟨_, rfl, tl true _ fun a' hd' ht' => ?_⟩
    refine wpIn_ret (fin89 hd' ht' (.inl ⟨rfl, Z3, z3, j4, ⟨fun b o hb => Nat.lt_of_lt_of_le (A3.xl b o hb) kp.size, Nat.lt_of_lt_of_le A3.pl kp.size, row_kp kp E.YX (fun b s o e => ?_) A3.row⟩, (g2.trans g3).trans (good_kp kp E.YX)⟩))
    rw [E.R0] at e; cases e; exact E.pX o
  · refine ⟨_, rfl, tl false _ fun a' hd' ht' => ?_⟩
    exact wpIn_ret (fin89 hd' ht' (.inr ⟨rfl, Z3, jx⟩))
end Go.Proofs.Ytkdiaipaajgcbaa

set_option maxRecDepth 100000
set_option linter.unusedVariables false
set_option linter.unusedSimpArgs false
namespace Go.Proofs.Ytkdiaipaajgcbaa
open Go Go.Ev Go.RowKit
noncomputable def o8 : Oper := (match q8 with | .region _ o _ => o | _ => #[])[0]?.getD default
theorem q8_eq : q8 = .region 8 #[o8] false := by kernel_rfl
theorem o8_op : o8.op = .assign (.const (.bool false)) := by kernel_rfl
theorem o8_g : o8.guard = none := by kernel_rfl
theorem o8_d : o8.dst = some 9 := by kernel_rfl
section
variable (da db : Int) (cs : List (List AV)) (m0 m1 m2 m3 m4 m5 m6 m7 : Int) (l : Nat) (X : Nat → Nat → Prop) (R : Nat → Option (Nat × Nat × Nat)) (pb : Nat) (xs : List (List AV)) (J : (Nat → Prop) → Nat → World → Prop) (Jx : (Nat → Prop) → World → Prop)
def RecOK (j : Nat) (room : Int) (p : List AV) (lst : List (List AV)) (p' : List AV) : Prop :=
  ∀ (W : World) (Z : Nat → Prop) (i : Nat) (av : Array Value), At l X R pb p W → av.size = 7 →
    (∀ k, k < 7 → VR Try.prog (XR X R) R W (([.i .i64 (j : Nat), .i .i64 room, rpR da db cs, rpY l, .p 0 0 0, rpM m0 m1 m2 m3 m4 m5 m6 m7, RP da db cs m0 m1 m2 m3 m4 m5 m6 m7 l (cs.length - j)] : List AV).getD k .u) (av.getD k undef)) → Z pb → J Z i W →
    (∀ q x, lst[q]? = some x → xs[i + q]? = some x) → Calls Try.prog 40 av W (Done l X R pb J Jx W (i + lst.length) p')
def LoopOK (j : Nat) (room : Int) (p : List AV) (lst : List (List AV)) (p' : List AV) : Prop :=
  ∀ (W : World) (Z : Nat → Prop) (i : Nat) (a : Act), j < cs.length → j < 8 → Hd da db cs m0 m1 m2 m3 m4 m5 m6 m7 l X R pb j room (RP da db cs m0 m1 m2 m3 m4 m5 m6 m7 l (cs.length - j)) (.i .i64 (wid db cs j)) p a W → Z pb → J Z i W →
    (∀ q x, lst[q]? = some x → xs[i + q]? = some x) → ∀ (Q : Exit → Act → World → Prop),
    (∀ a' W' Z' room', Hd da db cs m0 m1 m2 m3 m4 m5 m6 m7 l X R pb j room' (RP da db cs m0 m1 m2 m3 m4 m5 m6 m7 l (cs.length - j)) (.i .i64 (wid db cs j)) p' a' W' → Z' pb → J Z' (i + lst.length) W' → GoodW X R W W' → Q .normal a' W') →
    (∀ a' W' Z', a'.defers = [] → a'.tmps.getD 9 undef = .bool false → Jx Z' W' → Q .ret a' W') →
    ∀ (bf : Frame) (k : List Item) (fs : List Frame), bf.roundOf = (FW none).round → (FW none).fn bf.fn → (FW none).room (fs.length + 1 + 0) → ∃ e a' w', Exit.inBlock 0 Q e a' w' ∧ ArrivesIn (Machine.fenced Try.prog (FW none)) Try.prog (lone (bf.atR a (.code qB :: .inLoop qB :: k)) fs W) bf k fs e a' w'
end
variable {da db : Int} {cs : List (List AV)} {m0 m1 m2 m3 m4 m5 m6 m7 : Int} {l : Nat} {X : Nat → Nat → Prop} {Y : Nat → Prop} {R : Nat → Option (Nat × Nat × Nat)} {pb : Nat} {xs : List (List AV)} {J : (Nat → Prop) → Nat → World → Prop} {Jx : (Nat → Prop) → World → Prop}
theorem idx (j : Nat) : 0 + ((j : Nat) : Int).toNat * 1 = j := by simp
theorem node89 (E : Env l X Y R pb xs J Jx) {j : Nat} {room : Int} {p p' : List AV} {lst : List (List AV)} (hj : j < cs.length) (h8 : j < 8)
    (ih : LoopOK da db cs m0 m1 m2 m3 m4 m5 m6 m7 l X R pb xs J Jx j room (setCs p j [.i .i64 0]) lst p') : RecOK da db cs m0 m1 m2 m3 m4 m5 m6 m7 l X R pb xs J Jx j room p lst (setCs p' j [.i .i64 0]) := by
  intro W Z i av h hs hv hZ hJ hx
  obtain ⟨g1, g2, g3⟩ := gj_at h8
  have gl : inb ((j : Nat) : Int) cs.length = true := by simp [inb, hj]
  have hv6 := RP_free (da := da) (db := db) (cs := cs) (m0 := m0) (m1 := m1) (m2 := m2) (m3 := m3) (m4 := m4) (m5 := m5) (m6 := m6) (m7 := m7) (l := l) (cs.length - j)
  refine calls_of_FW (ro := none) (n := 0) (callsIn_of_wp Try.func40 body89 trivial ?_)
  refine pre89 E hv6 h hs hv hZ hJ fun a2 W2 Z2 H2 ht z2 j2 k2 => ?_
  refine wpIn_cond (t := false) (ht.trans (by congr 1; simp; omega)) ?_
  refine wpIn_skip ?_
  show (Code.seq q3 _).wpIn _ _ _ _ _ _
  have E3 := pe3 da db cs m0 m1 m2 m3 m4 m5 m6 m7 j room l (RP da db cs m0 m1 m2 m3 m4 m5 m6 m7 l (cs.length - j)) p
  rw [gl, cond_true] at E3
  refine wpIn_seq (piece_sound S0_ok mixed E.R0 (H2.sr E) (fun id hid => E.R1 id hid) (Nat.le_refl 1) (lokP q3 (by kernel_rfl)) (by simp) E3 (fr8 _ _ _ _ _ _ _ _ _ _ _ _ _ _ _ _ hv6 rfl) (frB p) fun a3 W3 k3 => ?_)
  obtain ⟨Z3, z3, j3, q3'⟩ := stp E z2 j2 k3
  have H3 : Hd da db cs m0 m1 m2 m3 m4 m5 m6 m7 l X R pb j room (RP da db cs m0 m1 m2 m3 m4 m5 m6 m7 l (cs.length - j)) (.i .i64 (wid db cs j)) p a3 W3 := Hd.left H2.at_ rfl rfl rfl H2.df k3
  have E4 := pe4 da db cs m0 m1 m2 m3 m4 m5 m6 m7 j room (wid db cs j) l (RP da db cs m0 m1 m2 m3 m4 m5 m6 m7 l (cs.length - j)) p
  rw [g1, g2, idx] at E4
  refine wpIn_seq (wpIn_seq (piece_sound S0_ok mixed E.R0 (H3.sr E) (fun id hid => E.R1 id hid) (Nat.le_refl 1) (lokP q4 (by kernel_rfl)) (by simp) E4 (fr8 _ _ _ _ _ _ _ _ _ _ _ _ _ _ _ _ hv6 rfl) (frB _) fun a4 W4 k4 => ?_))
  obtain ⟨Z4, z4, j4, q4'⟩ := stp E z3 j3 k4
  have H4 : Hd da db cs m0 m1 m2 m3 m4 m5 m6 m7 l X R pb j room (RP da db cs m0 m1 m2 m3 m4 m5 m6 m7 l (cs.length - j)) (.i .i64 (wid db cs j)) (setCs p j [.i .i64 0]) a4 W4 := Hd.left H3.at_ rfl rfl rfl H3.df k4
  refine wpIn_block (loop_of ?_)
  refine ih W4 Z4 i a4 hj h8 H4 z4 j4 hx _ (fun a5 W5 Z5 room' H5 z5 j5 q5' => ?_) (fun a5 W5 Z5 d5 t5 jx => ?_)
  · show (Code.seq q10 (.seq q11 .ret)).wpIn _ _ _ _ _ _
    have EA := peA da db cs m0 m1 m2 m3 m4 m5 m6 m7 j room' (wid db cs j) l (RP da db cs m0 m1 m2 m3 m4 m5 m6 m7 l (cs.length - j)) p'
    rw [g1, g2, idx] at EA
    refine wpIn_seq (piece_sound S0_ok mixed E.R0 (H5.sr E) (fun id hid => E.R1 id hid) (Nat.le_refl 1) (lokP q10 (by kernel_rfl)) (by simp) EA (fr8 _ _ _ _ _ _ _ _ _ _ _ _ _ _ _ _ hv6 rfl) (frB _) fun a6 W6 k6 => ?_)
    obtain ⟨Z6, z6, j6, q6'⟩ := stp E z5 j5 k6
    have H6 : Hd da db cs m0 m1 m2 m3 m4 m5 m6 m7 l X R pb j room' (RP da db cs m0 m1 m2 m3 m4 m5 m6 m7 l (cs.length - j)) (.i .i64 (wid db cs j)) (setCs p' j [.i .i64 0]) a6 W6 := Hd.left H5.at_ rfl rfl rfl H5.df k6
    refine wpIn_seq (piece_sound S0_ok mixed E.R0 (H6.sr E) (fun id hid => E.R1 id hid) (Nat.le_refl 1) (lokP q11 (by kernel_rfl)) (by simp) (peB da db cs m0 m1 m2 m3 m4 m5 m6 m7 j room' (wid db cs j) l _ _) rfl (frB _) fun a7 W7 k7 => ?_)
    obtain ⟨Z7, z7, j7, q7'⟩ := stp E z6 j6 k7
    exact wpIn_ret (fin89 (k7.df.trans H6.df) (k7.tmp 0 (by decide)).bool_inv (.inl ⟨rfl, Z7, z7, j7, H6.at_.left k7, k2.trans (q3'.trans (q4'.trans (q5'.trans (q6'.trans q7'))))⟩))
  · exact fin89 d5 t5 (.inr ⟨rfl, Z5, jx⟩)
theorem stop89 (E : Env l X Y R pb xs J Jx) {j : Nat} {room : Int} {p : List AV} (hst : (decide (fI p j ≤ fI [AV.i IntKind.i64 m0, AV.i IntKind.i64 m1, AV.i IntKind.i64 m2, AV.i IntKind.i64 m3, AV.i IntKind.i64 m4, AV.i IntKind.i64 m5, AV.i IntKind.i64 m6, AV.i IntKind.i64 m7] j) && decide (room ≥ 0)) = false) :
    LoopOK da db cs m0 m1 m2 m3 m4 m5 m6 m7 l X R pb xs J Jx j room p [] p := by
  intro W Z i a hj h8 H hZ hJ hx Q h1 h2
  obtain ⟨g1, g2, g3⟩ := gj_at h8
  have hv6 := RP_free (da := da) (db := db) (cs := cs) (m0 := m0) (m1 := m1) (m2 := m2) (m3 := m3) (m4 := m4) (m5 := m5) (m6 := m6) (m7 := m7) (l := l) (cs.length - j)
  have E5 := pe5 da db cs m0 m1 m2 m3 m4 m5 m6 m7 j room (wid db cs j) l (RP da db cs m0 m1 m2 m3 m4 m5 m6 m7 l (cs.length - j)) p
  rw [g1, g2, g3, idx] at E5
  have E5' : piece q5 [0, 1, 2, 3, 4, 5, 6, 10, 40] (stH (vH da db cs m0 m1 m2 m3 m4 m5 m6 m7 l j room (RP da db cs m0 m1 m2 m3 m4 m5 m6 m7 l (cs.length - j)) (.i .i64 (wid db cs j))) p) = some (.nrm, vH da db cs m0 m1 m2 m3 m4 m5 m6 m7 l j room (RP da db cs m0 m1 m2 m3 m4 m5 m6 m7 l (cs.length - j)) (.i .i64 (wid db cs j)) ++ [.b false], rw0 p) := by
    rw [E5]
    cases hd : decide (fI p j ≤ fI [AV.i IntKind.i64 m0, AV.i IntKind.i64 m1, AV.i IntKind.i64 m2, AV.i IntKind.i64 m3, AV.i IntKind.i64 m4, AV.i IntKind.i64 m5, AV.i IntKind.i64 m6, AV.i IntKind.i64 m7] j) with
    | false => rfl
    | true =>
      rw [hd, Bool.true_and] at hst
      simp only [cond_true, hst]
      rfl
  refine of_loop ?_
  have hq := qB_eq
  generalize hB : qB = B at hq ⊢
  rw [hq]
  refine wpIn_seq (wpIn_seq (piece_sound S0_ok mixed E.R0 (H.sr E) (fun id hid => E.R1 id hid) (Nat.le_refl 1) (lokP q5 (by kernel_rfl)) (by simp) E5' (freeL_app (fr8 _ _ _ _ _ _ _ _ _ _ _ _ _ _ _ _ hv6 rfl) rfl) (frB _) fun a1 W1 k1 => ?_))
  obtain ⟨Z1, z1, j1, q1'⟩ := stp E hZ hJ k1
  have H1 : Hd da db cs m0 m1 m2 m3 m4 m5 m6 m7 l X R pb j room (RP da db cs m0 m1 m2 m3 m4 m5 m6 m7 l (cs.length - j)) (.i .i64 (wid db cs j)) p a1 W1 := Hd.left H.at_ rfl rfl rfl H.df k1
  refine wpIn_cond (t := false) (k1.tmp 8 (by decide)).bool_inv ?_
  refine wpIn_exit ?_
  show Exit.inBlock 0 Q (.exit 0) a1 W1
  simp only [Exit.inBlock, if_true]
  exact h1 a1 W1 Z1 room H1 z1 j1 q1'
end Go.Proofs.Ytkdiaipaajgcbaa

set_option maxRecDepth 100000
set_option linter.unusedVariables false
set_option linter.unusedSimpArgs false
namespace Go.Proofs.Ytkdiaipaajgcbaa
open Go Go.Ev Go.RowKit
variable {da db : Int} {cs : List (List AV)} {m0 m1 m2 m3 m4 m5 m6 m7 : Int} {l : Nat} {X : Nat → Nat → Prop} {Y : Nat → Prop} {R : Nat → Option (Nat × Nat × Nat)} {pb : Nat} {xs : List (List AV)} {J : (Nat → Prop) → Nat → World → Prop} {Jx : (Nat → Prop) → World → Prop}
theorem wrap_id {x : Int} (h0 : -9223372036854775808 ≤ x) (h1 : x ≤ 9223372036854775807) : IntKind.i64.wrap x = x := by
  simp only [IntKind.wrap, IntKind.signed, IntKind.bits]
  simp
  omega
theorem app2_0 {x y : Value} {cv : Array Value} : (#[x, y] ++ cv).getD 0 undef = x := by simp [Array.getD_eq_getD_getElem?, Array.getElem?_append]
theorem app2_1 {x y : Value} {cv : Array Value} : (#[x, y] ++ cv).getD 1 undef = y := by simp [Array.getD_eq_getD_getElem?, Array.getElem?_append]
theorem app2_2 {x y : Value} {cv : Array Value} {k : Nat} : (#[x, y] ++ cv).getD (k + 2) undef = cv.getD k undef := by
  have : ¬ (k + 2 < 2) := by omega
  simp [Array.getD_eq_getD_getElem?, Array.getElem?_append, this]
theorem tab89 : ∃ fn, Try.prog.funcs[40]? = some fn ∧ (fn.name == "runtime.NumGoroutine") = false ∧ fn.body.isSome = true := ⟨Try.f40, Try.func40, names 40 _ Try.func40, by rw [body89]; rfl⟩
theorem step89 (E : Env l X Y R pb xs J Jx) {j : Nat} {room : Int} {p p1 p2 : List AV} {l1 l2 : List (List AV)} (hle : fI p j ≤ fI [AV.i IntKind.i64 m0, AV.i IntKind.i64 m1, AV.i IntKind.i64 m2, AV.i IntKind.i64 m3, AV.i IntKind.i64 m4, AV.i IntKind.i64 m5, AV.i IntKind.i64 m6, AV.i IntKind.i64 m7] j) (hr : 0 ≤ room)
    (ih1 : RecOK da db cs m0 m1 m2 m3 m4 m5 m6 m7 l X R pb xs J Jx (j + 1) room p l1 p1)
    (ih2 : LoopOK da db cs m0 m1 m2 m3 m4 m5 m6 m7 l X R pb xs J Jx j (IntKind.i64.wrap (room - wid db cs j)) (setCs p1 j [.i .i64 (IntKind.i64.wrap (fI p1 j + 1))]) l2 p2) :
    LoopOK da db cs m0 m1 m2 m3 m4 m5 m6 m7 l X R pb xs J Jx j room p (l1 ++ l2) p2 := by
  intro W Z i a hj h8 H hZ hJ hx Q h1 h2
  obtain ⟨g1, g2, g3⟩ := gj_at h8
  obtain ⟨d, hd⟩ : ∃ d, cs.length - j = d + 1 := ⟨cs.length - (j + 1), by omega⟩
  have hd' : cs.length - (j + 1) = d := by omega
  have hv6 : ∀ d, free Try.prog 1 (RP da db cs m0 m1 m2 m3 m4 m5 m6 m7 l d) = true := RP_free
  rw [hd] at H h1
  have hRP : RP da db cs m0 m1 m2 m3 m4 m5 m6 m7 l (d + 1) = .rp [.oth] [fn89 da db cs m0 m1 m2 m3 m4 m5 m6 m7 l (RP da db cs m0 m1 m2 m3 m4 m5 m6 m7 l d)] 0 := rfl
  have E5 := pe5 da db cs m0 m1 m2 m3 m4 m5 m6 m7 j room (wid db cs j) l (RP da db cs m0 m1 m2 m3 m4 m5 m6 m7 l (d + 1)) p
  rw [g1, g2, g3, idx, decide_eq_true hle, show decide (room ≥ 0) = true from decide_eq_true hr] at E5
  refine of_loop ?_
  have hq := qB_eq
  generalize hB : Code.loop qB = B0
  generalize hB : qB = B at hq ⊢
  rw [hq]
  refine wpIn_seq (wpIn_seq (piece_sound S0_ok mixed E.R0 (H.sr E) (fun id hid => E.R1 id hid) (Nat.le_refl 1) (lokP q5 (by kernel_rfl)) (by simp) E5 (freeL_app (fr8 _ _ _ _ _ _ _ _ _ _ _ _ _ _ _ _ (hv6 _) rfl) rfl) (frB _) fun a1 W1 k1 => ?_))
  obtain ⟨Z1, z1, j1, q1'⟩ := stp E hZ hJ k1
  have H1 : Hd da db cs m0 m1 m2 m3 m4 m5 m6 m7 l X R pb j room (RP da db cs m0 m1 m2 m3 m4 m5 m6 m7 l (d + 1)) (.i .i64 (wid db cs j)) p a1 W1 := Hd.left H.at_ rfl rfl rfl H.df k1
  refine wpIn_cond (t := true) (k1.tmp 8 (by decide)).bool_inv ?_
  refine wpIn_skip ?_
  show (Code.seq (.block 1 (.seq (.seq q7 (.cond (.tmp 51) (.seq q8 .ret) .skip)) q9)) q6).wpIn _ _ _ _ _ _
  refine wpIn_seq (wpIn_block (wpIn_seq (wpIn_seq ?_)))
  rw [q7_eq]
  refine wpIn_region ?_
  rw [sz7, show List.range 6 = List.range' 0 4 ++ [4, 5] by decide]
  have H1' := H1
  rw [hRP] at H1'
  refine pieceB_sound S0_ok E.R0 (H1'.sr E) (fun id hid => E.R1 id hid) (Nat.le_refl 1) (by rw [sz7]; decide) (by simp) (pe7 da db cs m0 m1 m2 m3 m4 m5 m6 m7 j room (wid db cs j) l (RP da db cs m0 m1 m2 m3 m4 m5 m6 m7 l d) p) (freeL_app (fr8 _ _ _ _ _ _ _ _ _ _ _ _ _ _ _ _ (hv6 (d + 1)) rfl) ?_) (frB p) fun a2 W2 k2 => ?_
  · have : freeL Try.prog 1 [fn89 da db cs m0 m1 m2 m3 m4 m5 m6 m7 l (RP da db cs m0 m1 m2 m3 m4 m5 m6 m7 l d), .i .i64 (IntKind.i64.wrap ((j : Int) + 1)), .i .i64 room] = ((free Try.prog 1 (RP da db cs m0 m1 m2 m3 m4 m5 m6 m7 l d) && true) && true) := by kernel_rfl
    rw [this, hv6 d]; rfl
  obtain ⟨Z2, z2, j2, q2'⟩ := stp E z1 j1 k2
  have H2 : Hd da db cs m0 m1 m2 m3 m4 m5 m6 m7 l X R pb j room (RP da db cs m0 m1 m2 m3 m4 m5 m6 m7 l (d + 1)) (.i .i64 (wid db cs j)) p a2 W2 := Hd.left H1.at_ rfl rfl rfl H1.df k2
  have t46 := k2.tmp 8 (by decide)
  have t48 := k2.tmp 9 (by decide)
  have t49 := k2.tmp 10 (by decide)
  change VR Try.prog (XR X R) R W2 (fn89 da db cs m0 m1 m2 m3 m4 m5 m6 m7 l (RP da db cs m0 m1 m2 m3 m4 m5 m6 m7 l d)) (a2.tmps.getD 46 undef) at t46
  change VR Try.prog (XR X R) R W2 (.i .i64 (IntKind.i64.wrap ((j : Int) + 1))) (a2.tmps.getD 48 undef) at t48
  change VR Try.prog (XR X R) R W2 (.i .i64 room) (a2.tmps.getD 49 undef) at t49
  rw [show IntKind.i64.wrap ((j : Int) + 1) = ((j + 1 : Nat) : Int) from (wrap_id (by omega) (by omega)).trans (by omega)] at t48
  have hf : ∃ cv, a2.eval (.tmp 46) = .func (.func 40) #[] cv ∧ cv.size = 5 ∧ ∀ k, k < 5 → VR Try.prog (XR X R) R W2 (([rpR da db cs, rpY l, .p 0 0 0, rpM m0 m1 m2 m3 m4 m5 m6 m7, RP da db cs m0 m1 m2 m3 m4 m5 m6 m7 l d] : List AV).getD k .u) (cv.getD k undef) := by
    show ∃ cv, a2.tmps.getD 46 undef = _ ∧ _
    generalize a2.tmps.getD 46 undef = q at t46
    unfold fn89 at t46
    cases t46 with
    | fn c1 c2 => exact ⟨_, rfl, c1, c2⟩
  obtain ⟨cv, hy, c1, c2⟩ := hf
  have sz2' : a2.tmps.size = 57 := k2.nt.trans rfl
  simp only [wpOpsIn, o7a_at, o7b_at]
  rw [if_pos (by simp [Region.wanted, o7a_g])]
  obtain ⟨fn, f1, f2, f3⟩ := tab89
  refine enter_op o7a_op rfl hy f1 f2 f3 (ih1 W2 Z2 i _ H2.at_ (by simp [c1]) (fun k hk => ?_) z2 j2 (fun q x hq => hx q x (by
    have hlt := (List.getElem?_eq_some_iff.1 hq).1
    rw [List.getElem?_append_left hlt]; exact hq))) fun e3 W3 he => ?_
  · rw [hd']
    have em : Array.map a2.eval #[Operand.tmp 48, Operand.tmp 49] = #[a2.tmps.getD 48 undef, a2.tmps.getD 49 undef] := by simp [Act.eval]
    dsimp only
    rw [em]
    rcases k with _ | _ | k
    · rw [app2_0]; exact t48
    · rw [show 0 + 1 = 1 from rfl, app2_1]; exact t49
    · rw [show k + 1 + 1 = k + 2 from rfl, app2_2]; exact c2 k (by omega)
  -- the result, and its opposite
  have e50 : ∀ b : Bool, (a2.put o7a.dst (.bool b)).eval (.tmp 50) = .bool b := fun b => by
    rw [o7a_d]
    exact (put_get (by rw [sz2']; decide)).trans (if_pos rfl)
  have e51 : ∀ b : Bool, ((a2.put o7a.dst (.bool b)).put o7b.dst (.bool (!b))).eval (.tmp 51) = .bool (!b) := fun b => by
    rw [o7a_d, o7b_d]
    exact (put_get (by rw [put_size, sz2']; decide)).trans (if_pos rfl)
  have tl : ∀ (b : Bool) (nx : Act → World → Prop) (Q : Exit → Act → World → Prop), nx ((a2.put o7a.dst (.bool b)).put o7b.dst (.bool (!b))) W3 → (if Region.wanted o7b (yielded ops7 (a2.put o7a.dst (.bool b)).tmps) = true then o7b.wpIn (FW none) 0 Try.prog (a2.put o7a.dst (.bool b)) W3 nx Q
      else (∀ f, o7b.about Try.prog W3 (a2.put o7a.dst (.bool b)).eval = some f → (FW none).fn f) ∧ nx ((a2.put o7a.dst (.bool b)).put o7b.dst undef) W3) := by
    intro b nx Q hQ
    rw [if_pos (by simp [Region.wanted, o7b_g])]
    refine wpIn_value (w' := W3) (v := .bool (!b)) (fun c hc => by rw [o7b_op] at hc; cases hc) ?_ hQ
    simp only [execOp, o7b_op, e50 b]
    simp [Op.unary]
  have dfs : ∀ b : Bool, ((a2.put o7a.dst (.bool b)).put o7b.dst (.bool (!b))).defers = [] := fun b => by rw [put_defers, put_defers]; exact H2.df
  rcases he with ⟨rfl, Z3, z3, j3, A3, q3'⟩ | ⟨rfl, Z3, jx⟩
  · refine ⟨_, rfl, tl true _ _ ?_⟩
    show (Code.cond (.tmp 51) (.seq q8 .ret) .skip).wpIn (FW none) 0 Try.prog _ _ W3
    refine wpIn_cond (t := false) (e51 true) ?_
    refine wpIn_skip ?_
    show q9.wpIn (FW none) 0 Try.prog _ _ W3
    have H3 : Hd da db cs m0 m1 m2 m3 m4 m5 m6 m7 l X R pb j room (RP da db cs m0 m1 m2 m3 m4 m5 m6 m7 l (d + 1)) (.i .i64 (wid db cs j)) p1 ((a2.put o7a.dst (.bool true)).put o7b.dst (.bool (!true))) W3 := by
      refine ⟨A3, fun k hk => ?_, ?_, dfs true⟩
      · rw [o7a_d, o7b_d, put_get (by rw [put_size, sz2']; decide), put_get (by rw [sz2']; decide)]
        rw [if_neg (by rcases k with _ | _ | _ | _ | _ | _ | _ | _ | k <;> first | (exfalso; omega) | decide), if_neg (by rcases k with _ | _ | _ | _ | _ | _ | _ | _ | k <;> first | (exfalso; omega) | decide)]
        exact q3'.VR (H2.tmp k hk)
      · rw [o7a_d, o7b_d, put_size, put_size]; exact sz2'
    refine piece_sound S0_ok mixed E.R0 (H3.sr E) (fun id hid => E.R1 id hid) (Nat.le_refl 1) (lokP q9 (by kernel_rfl)) (by simp) (pe9 da db cs m0 m1 m2 m3 m4 m5 m6 m7 j room (wid db cs j) l _ p1) (fr8 _ _ _ _ _ _ _ _ _ _ _ _ _ _ _ _ (hv6 _) rfl) (frB _) fun a4 W4 k4 => ?_
    obtain ⟨Z4, z4, j4, q4'⟩ := stp E z3 j3 k4
    have H4 : Hd da db cs m0 m1 m2 m3 m4 m5 m6 m7 l X R pb j (IntKind.i64.wrap (room - wid db cs j)) (RP da db cs m0 m1 m2 m3 m4 m5 m6 m7 l (d + 1)) (.i .i64 (wid db cs j)) p1 a4 W4 := Hd.left H3.at_ rfl rfl rfl H3.df k4
    show q6.wpIn (FW none) 0 Try.prog _ a4 W4
    have E6 := pe6 da db cs m0 m1 m2 m3 m4 m5 m6 m7 j (IntKind.i64.wrap (room - wid db cs j)) (wid db cs j) l (RP da db cs m0 m1 m2 m3 m4 m5 m6 m7 l (d + 1)) p1
    rw [g1, g2, idx] at E6
    refine piece_sound S0_ok mixed E.R0 (H4.sr E) (fun id hid => E.R1 id hid) (Nat.le_refl 1) (lokP q6 (by kernel_rfl)) (by simp) E6 (fr8 _ _ _ _ _ _ _ _ _ _ _ _ _ _ _ _ (hv6 _) rfl) (frB _) fun a5 W5 k5 => ?_
    obtain ⟨Z5, z5, j5, q5'⟩ := stp E z4 j4 k5
    have H5 : Hd da db cs m0 m1 m2 m3 m4 m5 m6 m7 l X R pb j (IntKind.i64.wrap (room - wid db cs j)) (RP da db cs m0 m1 m2 m3 m4 m5 m6 m7 l (d + 1)) (.i .i64 (wid db cs j)) (setCs p1 j [.i .i64 (IntKind.i64.wrap (fI p1 j + 1))]) a5 W5 := Hd.left H4.at_ rfl rfl rfl H4.df k5
    subst hB
    have hgood := q1'.trans (q2'.trans (q3'.trans (q4'.trans q5')))
    refine ih2 W5 Z5 (i + l1.length) a5 hj h8 (by rw [hd]; exact H5) z5 j5 (fun q x hq => ?_) Q (fun a6 W6 Z6 room' H6 z6 j6 q6' => ?_) h2
    · have := hx (l1.length + q) x (by rw [List.getElem?_append_right (by omega), Nat.add_sub_cancel_left]; exact hq)
      rw [Nat.add_assoc]; exact this
    · rw [hd] at H6
      refine h1 a6 W6 Z6 room' H6 z6 ?_ (hgood.trans q6')
      rw [List.length_append, ← Nat.add_assoc]; exact j6
  · refine ⟨_, rfl, tl false _ _ ?_⟩
    show (Code.cond (.tmp 51) (.seq q8 .ret) .skip).wpIn (FW none) 0 Try.prog _ _ W3
    refine wpIn_cond (t := true) (e51 false) ?_
    simp only [if_true]
    rw [q8_eq]
    refine wpIn_seq (wpIn_region ?_)
    show wpOpsIn (FW none) 0 Try.prog #[o8] _ [0] _ W3
    simp only [wpOpsIn, List.getElem?_toArray, List.getElem?_cons_zero]
    rw [if_pos (by simp [Region.wanted, o8_g])]
    refine wpIn_value (w' := W3) (v := .bool false) (fun c hc => by rw [o8_op] at hc; cases hc) (by simp only [execOp, o8_op, Sem.run_pure]; rfl) ?_
    refine wpIn_ret ?_
    show Q .ret _ W3
    refine h2 _ W3 Z3 ?_ ?_ jx
    · rw [put_defers]; exact dfs false
    · rw [o8_d]
      exact (put_get (by rw [o7b_d, o7a_d, put_size, put_size, sz2']; decide)).trans (if_pos rfl)
def Goal89 (da db : Int) (cs : List (List AV)) (m0 m1 m2 m3 m4 m5 m6 m7 : Int) (l : Nat) (X : Nat → Nat → Prop) (R : Nat → Option (Nat × Nat × Nat)) (pb : Nat) (xs : List (List AV)) (J : (Nat → Prop) → Nat → World → Prop) (Jx : (Nat → Prop) → World → Prop) : Bool → Nat → Int → List AV → List (List AV) → List AV → Prop
  | false => RecOK da db cs m0 m1 m2 m3 m4 m5 m6 m7 l X R pb xs J Jx
  | true => LoopOK da db cs m0 m1 m2 m3 m4 m5 m6 m7 l X R pb xs J Jx
theorem rec89 (E : Env l X Y R pb xs J Jx) {b : Bool} {j : Nat} {room : Int} {p p' : List AV} {lst : List (List AV)} (h : PT db cs [AV.i IntKind.i64 m0, AV.i IntKind.i64 m1, AV.i IntKind.i64 m2, AV.i IntKind.i64 m3, AV.i IntKind.i64 m4, AV.i IntKind.i64 m5, AV.i IntKind.i64 m6, AV.i IntKind.i64 m7] b j room p lst p') :
    Goal89 da db cs m0 m1 m2 m3 m4 m5 m6 m7 l X R pb xs J Jx b j room p lst p' := by
  induction h with
  | leaf => 
    intro W Z i av h hs hv hZ hJ hx
    exact leaf89 E (RP_free _) h hs hv hZ hJ (by simpa using hx 0 _ rfl)
  | node hj h8 _ ih => exact node89 E hj h8 ih
  | stop h => exact stop89 E h
  | step h1 h2 _ _ ih1 ih2 => exact step89 E h1 h2 ih1 ih2
end Go.Proofs.Ytkdiaipaajgcbaa

set_option maxRecDepth 100000
set_option linter.unusedVariables false
set_option linter.unusedSimpArgs false
namespace Go.Proofs.Ytkdiaipaajgcbaa
open Go Go.Ev Go.RowKit
variable {da db : Int} {cs : List (List AV)} {m0 m1 m2 m3 m4 m5 m6 m7 : Int} {l : Nat} {X : Nat → Nat → Prop} {Y : Nat → Prop} {R : Nat → Option (Nat × Nat × Nat)} {pb : Nat} {xs : List (List AV)} {J : (Nat → Prop) → Nat → World → Prop} {Jx : (Nat → Prop) → World → Prop}
def rng (X : List AV) : Prop := ∀ k, IntKind.i64.min ≤ fI X k ∧ fI X k ≤ IntKind.i64.max
theorem wrap_rng (x : Int) : IntKind.i64.min ≤ IntKind.i64.wrap x ∧ IntKind.i64.wrap x ≤ IntKind.i64.max := by
  simp only [IntKind.wrap, IntKind.signed, IntKind.bits, IntKind.min, IntKind.max]
  simp
  omega
theorem rng_set {X : List AV} (h : rng X) (j : Nat) {v : Int} (hv : IntKind.i64.min ≤ v ∧ v ≤ IntKind.i64.max) : rng (setCs X j [.i .i64 v]) := by
  intro k
  have e : fI (setCs X j [.i .i64 v]) k = v ∨ fI (setCs X j [.i .i64 v]) k = fI X k ∨ fI (setCs X j [.i .i64 v]) k = 0 := by
    show toI ((X.set j (.i .i64 v)).getD k .u) = v ∨ toI ((X.set j (.i .i64 v)).getD k .u) = toI (X.getD k .u) ∨ toI ((X.set j (.i .i64 v)).getD k .u) = 0
    simp only [List.getD_eq_getElem?_getD, List.getElem?_set]
    split
    · split
      · exact .inl rfl
      · exact .inr (.inr rfl)
    · exact .inr (.inl rfl)
  rcases e with e | e | e <;> rw [e]
  · exact hv
  · exact h k
  · decide
theorem plain_of_rng {X : List AV} (k : rng X) : plainL (enc8 X) = true := by
  simp only [enc8, ag8, plain, plainL, Bool.and_eq_true, decide_eq_true_eq, and_true]
  exact ⟨k 0, k 1, k 2, k 3, k 4, k 5, k 6, k 7⟩
theorem PT.plain {ms : List AV} {b : Bool} {j : Nat} {room : Int} {p p' : List AV} {lst : List (List AV)} (h : PT db cs ms b j room p lst p') : rng p → (∀ x, x ∈ lst → plainL x = true) ∧ rng p' := by
  induction h with
  | leaf =>
    intro hr
    refine ⟨fun x hx => ?_, hr⟩
    simp only [List.mem_singleton] at hx
    subst hx
    exact plain_of_rng hr
  | node _ _ _ ih =>
    intro hr
    obtain ⟨i1, i2⟩ := ih (rng_set hr _ (by decide))
    exact ⟨i1, rng_set i2 _ (by decide)⟩
  | stop _ =>
    intro hr
    refine ⟨fun x hx => ?_, hr⟩
    cases hx
  | step _ _ _ _ ih1 ih2 =>
    intro hr
    obtain ⟨i1, i2⟩ := ih1 hr
    obtain ⟨i3, i4⟩ := ih2 (rng_set i2 _ (wrap_rng _))
    refine ⟨fun x hx => ?_, i4⟩
    rcases List.mem_append.1 hx with hx | hx
    · exact i1 x hx
    · exact i3 x hx
noncomputable def bd88 : Code := match Try.f39.body with | some c => c | _ => .skip
noncomputable def at88 (p : List Bool) : Code := match locate bd88 p with | some c => c | _ => .skip
noncomputable def y0 : Code := at88 [false]
noncomputable def y1 : Code := at88 [true, false]
noncomputable def y2 : Code := at88 [true, true, false]
noncomputable def y3 : Code := at88 [true, true, true, false]
noncomputable def y4 : Code := at88 [true, true, true, true]
noncomputable def opsY : Array Oper := match y4 with | .region _ o _ => o | _ => #[]
theorem bd88_eq : bd88 = .seq y0 (.seq y1 (.seq y2 (.seq y3 y4))) := by kernel_rfl
theorem y4_eq : y4 = .region 4 opsY false := by kernel_rfl
theorem szY : opsY.size = 7 := by kernel_rfl
noncomputable def oY : Oper := (opsY[6]?).getD default
theorem oY_at : opsY[6]? = some oY := by kernel_rfl
theorem oY_op : oY.op = .call { callee := .value (.tmp 7), args := #[.const (.int .i64 0), .tmp 12], argTypes := #[3, 3] } := by kernel_rfl
theorem oY_g : oY.guard = none := by kernel_rfl
theorem body88 : Try.f39.body = some bd88 := by kernel_rfl
theorem res88 : Try.f39.results = #[] := by kernel_rfl
noncomputable def ro88 (t : Nat) : Bool := cond (Nat.beq t 4) false (ro 39 t)
noncomputable def fnY (da db : Int) (cs : List (List AV)) (m0 m1 m2 m3 m4 m5 m6 m7 : Int) (l : Nat) : AV := .fn 40 [rpR da db cs, rpY l, .p 1 0 0, rpM m0 m1 m2 m3 m4 m5 m6 m7, .p 2 0 0]
def zero8 : List AV := [.i .i64 0, .i .i64 0, .i .i64 0, .i .i64 0, .i .i64 0, .i .i64 0, .i .i64 0, .i .i64 0]
noncomputable def upY (st : St) : Option (AV × AV × Blk × Blk) := evC Try.prog S0 ro88 (fun _ _ => none) y0 [] st fun e s => match e with
  | .nrm => evC Try.prog S0 ro88 (fun _ _ => none) y1 [] s fun e s => match e with
    | .nrm => evC Try.prog S0 ro88 (fun _ _ => none) y2 [] s fun e s => match e with
      | .nrm => evC Try.prog S0 ro88 (fun _ _ => none) y3 [] s fun e s => match e with
        | .nrm => evOpsB Try.prog S0 ro88 opsY s.nx (opsY.toList.take 6) 0 s fun s => some (gt s.t 7, gt s.t 12, gm s.m 1, gm s.m 2)
        | _ => none
      | _ => none
    | _ => none
  | _ => none
theorem upY_eq (da db : Int) (cs : List (List AV)) (m0 m1 m2 m3 m4 m5 m6 m7 : Int) (l : Nat) : upY (initSt 14 [.yl l, rpR da db cs, rpM m0 m1 m2 m3 m4 m5 m6 m7] []) = some (fnY da db cs m0 m1 m2 m3 m4 m5 m6 m7 l, .i .i64 (IntKind.i64.wrap (da + db)), rw0 zero8, .row 111 [[fnY da db cs m0 m1 m2 m3 m4 m5 m6 m7 l]]) := by kernel_rfl
theorem rp_chain {W : World} {fb : Nat} {cv : Array Value} (hc : W.cell? ⟨fb, 0, none⟩ = some (.func (.func 40) #[] cv)) (hs : cv.size = 5) (hX : ∀ o, ¬ XR X R fb o) (h4 : cv.getD 4 undef = .pointer (some ⟨fb, 0, none⟩))
    (h : ∀ k, k < 4 → VR Try.prog (XR X R) R W (([rpR da db cs, rpY l, .p 0 0 0, rpM m0 m1 m2 m3 m4 m5 m6 m7] : List AV).getD k .u) (cv.getD k undef)) :
    ∀ d, VR Try.prog (XR X R) R W (RP da db cs m0 m1 m2 m3 m4 m5 m6 m7 l d) (.pointer (some ⟨fb, 0, none⟩))
  | 0 => .u
  | d + 1 => by
    refine .rp (b := fb) (o := 0) (j := 0) (f := fun _ => .func (.func 40) #[] cv) (fun k hk => hX _) (by simp) ⟨rfl, fun j hj => ?_⟩ (fun k hk => ?_) (fun k hk => ?_)
    · have : j = 0 := by simp at hj; omega
      subst this
      exact .oth
    · have : k = 0 := by simp at hk; omega
      subst this
      exact hc
    · have : k = 0 := by simp at hk; omega
      subst this
      refine .fn hs fun k hk => ?_
      rcases Nat.lt_or_ge k 4 with g | g
      · have := h k g
        rcases k with _ | _ | _ | _ | k
        · exact this
        · exact this
        · exact this
        · exact this
        · omega
      · have : k = 4 := by simp at hk; omega
        subst this
        rw [h4]
        exact rp_chain hc hs hX h4 h d
end Go.Proofs.Ytkdiaipaajgcbaa

set_option maxRecDepth 100000
set_option linter.unusedVariables false
set_option linter.unusedSimpArgs false
namespace Go.Proofs.Ytkdiaipaajgcbaa
open Go Go.Ev Go.RowKit
variable {da db : Int} {cs : List (List AV)} {m0 m1 m2 m3 m4 m5 m6 m7 : Int}
theorem lokY (c : Code) (h : (match c with | .region _ _ _ => true | _ => false) = true) : LOK Try.prog S0 ro88 (fun _ _ => none) 0 true c [] := by
  split at h
  · trivial
  · cases h
theorem cells104 : Try.prog.cellsOf 78 = 8 := by kernel_rfl
theorem cells125 : Try.prog.cellsOf 111 = 1 := by kernel_rfl
theorem pat_con {lst : List (List AV)} {p' : List AV} (h : PT db cs [AV.i IntKind.i64 m0, AV.i IntKind.i64 m1, AV.i IntKind.i64 m2, AV.i IntKind.i64 m3, AV.i IntKind.i64 m4, AV.i IntKind.i64 m5, AV.i IntKind.i64 m6, AV.i IntKind.i64 m7] false 0 (IntKind.i64.wrap (da + db)) zero8 lst p') :
    SeqCon Try.prog 39 [rpR da db cs, rpM m0 m1 m2 m3 m4 m5 m6 m7] lst := by
  refine ⟨⟨Try.f39, Try.func39, names 39 _ Try.func39, by rw [body88]; rfl⟩, (h.plain fun k => ?_).1, ?_⟩
  · rcases k with _ | _ | _ | _ | _ | _ | _ | _ | k <;> exact (show IntKind.i64.min ≤ (0 : Int) ∧ (0 : Int) ≤ IntKind.i64.max from ⟨by decide, by decide⟩)
  intro X Y n w lb hX hYX hlb hcaps l J Jx hJ hJx hJ0 hyield
  refine callsIn_FW (calls_of_FW (ro := none) (n := 0) (callsIn_of_wp Try.func39 body88 trivial ?_))
  have h0 : SR Try.prog ⟨w, rowsOf none2, fun id => id < 0, w.heap.size, Nat.le_refl _⟩ (XR X none2) (XR X none2) none2 (initSt 14 [.yl l, rpR da db cs, rpM m0 m1 m2 m3 m4 m5 m6 m7] []) { tmps := (#[Value.func (.yield l) #[] #[]] ++ lb) ++ Array.replicate (14 - (#[Value.func (.yield l) #[] #[]] ++ lb).size) undef, defers := [] } w :=
    init_SR (rows := []) hX (fun _ _ => rfl) (fun _ _ _ e => by cases e) (fun _ _ _ _ _ e => by cases e) rfl (fun id hid => by simp at hid) (by simp at hlb; simp [hlb]) (show 3 ≤ 14 by decide) (fun k hk => by
      cases k with
      | zero =>
        have e : (#[Value.func (.yield l) #[] #[]] ++ lb).getD 0 undef = .func (.yield l) #[] #[] := by simp [Array.getD_eq_getD_getElem?, Array.getElem?_append]
        rw [e]
        exact .yl
      | succ k =>
        have := (hcaps k (by simp at hk ⊢; omega)).to_xr_none
        simpa [Array.getD_eq_getD_getElem?, Array.getElem?_append] using this)
  rw [bd88_eq]
  have hW := upY_eq da db cs m0 m1 m2 m3 m4 m5 m6 m7 l
  unfold upY at hW
  refine wpIn_seq (evC_sound S0_ok mixed y0 [] 0 true none 0 (lokY y0 (by kernel_rfl)) (fun h => by cases h) h0 (fun _ _ => rfl) (Nat.zero_le _) (fun i j hi hk => absurd hk (Nat.not_lt_zero _)) hW fun D1 R1 e1 s1 a1 w1 hS1 hF1 _ hd1 _ ht1 hK1 => ?_)
  cases e1 with
  | ext k => cases hK1
  | ret => cases hK1
  | nrm =>
  refine wpIn_seq (evC_sound S0_ok mixed y1 [] 0 true none 0 (lokY y1 (by kernel_rfl)) (fun h => by cases h) hS1 hF1 (Nat.zero_le _) (fun i j hi hk => absurd hk (Nat.not_lt_zero _)) hK1 fun D2 R2 e2 s2 a2 w2 hS2 hF2 _ hd2 _ ht2 hK2 => ?_)
  cases e2 with
  | ext k => cases hK2
  | ret => cases hK2
  | nrm =>
  refine wpIn_seq (evC_sound S0_ok mixed y2 [] 0 true none 0 (lokY y2 (by kernel_rfl)) (fun h => by cases h) hS2 hF2 (Nat.zero_le _) (fun i j hi hk => absurd hk (Nat.not_lt_zero _)) hK2 fun D3 R3 e3 s3 a3 w3 hS3 hF3 _ hd3 _ ht3 hK3 => ?_)
  cases e3 with
  | ext k => cases hK3
  | ret => cases hK3
  | nrm =>
  refine wpIn_seq (evC_sound S0_ok mixed y3 [] 0 true none 0 (lokY y3 (by kernel_rfl)) (fun h => by cases h) hS3 hF3 (Nat.zero_le _) (fun i j hi hk => absurd hk (Nat.not_lt_zero _)) hK3 fun D4 R4 e4 s4 a4 w4 hS4 hF4 _ hd4 _ ht4 hK4 => ?_)
  cases e4 with
  | ext k => cases hK4
  | ret => cases hK4
  | nrm =>
  show y4.wpIn (FW none) 0 Try.prog _ a4 w4
  rw [y4_eq]
  refine wpIn_region ?_
  rw [szY, show List.range 7 = List.range' 0 6 ++ [6] by decide]
  have hl : (opsY.toList.take 6).length = 6 := by simp [szY]
  obtain ⟨rest, hrest⟩ : ∃ rest : List Nat, rest = [6] := ⟨_, rfl⟩
  rw [← hrest, ← hl]
  refine evOpsB_cut S0_ok (opsY.toList.take 6) 0 (fun i hi => ?_) hS4 (by simpa using hF4) hK4 fun D R' s a W hS hF hRR hd _ hnt hK => ?_
  · rw [hl] at hi
    simp [List.getElem?_take, hi]
  simp only [Option.some.injEq, Prod.mk.injEq] at hK
  obtain ⟨k7, k12, kr1, kr2⟩ := hK
  have dfa : a.defers = [] := hd.trans ((hd4 rfl).trans ((hd3 rfl).trans ((hd2 rfl).trans (hd1 rfl))))
  -- where the rows lie
  have r1 := hS.mem 1
  rw [kr1] at r1
  have r2 := hS.mem 2
  rw [kr2] at r2
  obtain ⟨pb, c1, ty1, g1, hb1, _⟩ := r1 (by simp)
  obtain ⟨fb, c2, ty2, g2, hb2, _, _, _, _, hv2⟩ := r2 (by simp)
  rw [cells104] at g1
  rw [cells125] at g2
  have o1 := hS.own 1 pb _ g1 (by simp)
  have o2 := hS.own 2 fb _ g2 (by simp)
  have p1 : w.heap.size ≤ pb := by
    rcases o1.1 with g | ⟨_, g⟩
    · exact g
    · simp only at g; omega
  have p2 : w.heap.size ≤ fb := by
    rcases o2.1 with g | ⟨_, g⟩
    · exact g
    · simp only at g; omega
  have hne : fb ≠ pb := fun e => by
    subst e
    have := hS.inj 1 2 fb _ _ g1 g2 (by simp) (by simp) (by rw [kr1]; rfl) (by rw [kr2]; rfl)
    omega
  obtain ⟨R3', hR3⟩ : ∃ R3' : Nat → Option (Nat × Nat × Nat), R3' = fun id => if id = 0 then some (pb, 8, 0) else none := ⟨_, rfl⟩
  have E : Env l X Y R3' pb lst J Jx := ⟨by rw [hR3]; rfl, fun id hid => by rw [hR3]; exact if_neg (by omega), hYX, fun o hx => by have := hX _ _ hx; omega, hJ, hyield⟩
  have hsub : ∀ b o, XR X R3' b o → D b o := by
    rintro b o (hx | ⟨id, s, e⟩)
    · exact hS.X b o (.inl hx)
    · rw [hR3] at e
      simp only at e
      split at e
      · cases e
        exact hS.dom 1 pb _ o g1 (by rw [kr1]; trivial)
      · cases e
  have toD : ∀ {x : AV} {v : Value}, VR Try.prog D R3' W x v → VR Try.prog (XR X R3') R3' W x v := fun hv => hv.mono' (fun _ _ e => e) fun b o u hd hc => ⟨fun hx => hd (hsub b o hx), hc⟩
  have toX : ∀ {x : AV} {v : Value}, VR Try.prog D R' W x v → free Try.prog 0 x = true → VR Try.prog (XR X R3') R3' W x v := fun hv hf => toD (hv.free_any (nb := 0) (fun id y h => by omega) hf)
  have A : At l X R3' pb zero8 W := by
    refine ⟨fun b o hx => Nat.lt_of_lt_of_le (hX b o hx) hS.old.size, o1.2, ?_⟩
    exact (RowOK.free (nb := 0) (R' := R3') (id := 1) (id' := 0) (fun id y h => by omega) (fun y e => by rw [g1] at e; cases e; exact E.R0) r1 (by kernel_rfl)).mono rfl (fun _ _ _ _ => rfl) fun _ _ => toD
  -- the function's value
  have cap : ∀ v, VR Try.prog D R' W (fnY da db cs m0 m1 m2 m3 m4 m5 m6 m7 l) v → ∃ cv, v = .func (.func 40) #[] cv ∧ cv.size = 5 ∧ cv.getD 4 undef = .pointer (some ⟨fb, 0, none⟩) ∧
      ∀ k, k < 4 → VR Try.prog (XR X R3') R3' W (([rpR da db cs, rpY l, .p 0 0 0, rpM m0 m1 m2 m3 m4 m5 m6 m7] : List AV).getD k .u) (cv.getD k undef) := by
    intro v hv
    unfold fnY at hv
    cases hv with
    | @fn _ _ cv q1 q2 =>
      have t0 := q2 0 (by simp)
      have t1 := q2 1 (by simp)
      have t2 := q2 2 (by simp)
      have t3 := q2 3 (by simp)
      have t4 := q2 4 (by simp)
      simp only [List.getD_cons_zero, List.getD_cons_succ] at t0 t1 t2 t3 t4
      refine ⟨cv, rfl, q1, ?_, fun k hk => ?_⟩
      · generalize cv.getD 4 undef = u at t4
        cases t4 with
        | @p _ _ _ b sz hR =>
          rw [g2] at hR
          cases hR
          rfl
      · rcases k with _ | _ | _ | _ | k
        · exact toX t0 (by kernel_rfl)
        · exact toX t1 (by kernel_rfl)
        · show VR _ _ _ _ (.p 0 0 0) (cv.getD 2 undef)
          generalize cv.getD 2 undef = u at t2
          cases t2 with
          | @p _ _ _ b sz hR =>
            rw [g1] at hR
            cases hR
            exact .p E.R0
        · exact toX t3 (by kernel_rfl)
        · omega
  -- the box that holds it
  obtain ⟨vb, hvb, hvv⟩ := hv2 0 0 (by simp) (by rw [cells125]; decide)
  obtain ⟨cvb, rfl, b1, b2, b3⟩ := cap vb hvv
  have hcell : W.cell? ⟨fb, 0, none⟩ = some (.func (.func 40) #[] cvb) := by
    simp only [cells125, Nat.mul_one, Nat.add_zero] at hvb
    simp only [World.cell?, hb2]
    simpa using hvb
  have chain := rp_chain (da := da) (db := db) (cs := cs) (m0 := m0) (m1 := m1) (m2 := m2) (m3 := m3) (m4 := m4) (m5 := m5) (m6 := m6) (m7 := m7) (l := l) hcell b1 (fun o hx => by
    rcases hx with hx | ⟨id, s, e⟩
    · have := hX _ _ hx; omega
    · rw [hR3] at e
      simp only at e
      split at e
      · cases e; exact hne rfl
      · cases e) b2 b3
  have t7 := hS.tmp 7
  rw [k7] at t7
  obtain ⟨cv, hy, d1, d2, d3⟩ := cap _ t7
  have t12 := hS.tmp 12
  rw [k12] at t12
  rw [hrest]
  simp only [wpOpsIn, oY_at]
  rw [if_pos (by simp [Region.wanted, oY_g])]
  obtain ⟨fn, f1, f2, f3⟩ := tab89
  have hrec := rec89 (da := da) E h
  have hJ1 := hJ _ _ _ _ hJ0 (show BelowZ (fun _ => False) w W from ⟨hS.old.os, hS.old.tape, hS.old.output, hS.old.size, fun k hk _ => hS.old.block k hk (by rintro ⟨_, _, e⟩; cases e)⟩)
  refine enter_op oY_op rfl hy f1 f2 f3 (hrec W _ 0 _ A (by simp [d1]) (fun k hk => ?_) (.inr ⟨p1, o1.2⟩) hJ1 (fun q x hq => by simpa using hq)) fun e5 W5 he => ?_
  · have em : Array.map a.eval #[Operand.const (.int .i64 0), Operand.tmp 12] = #[.int .i64 0, a.tmps.getD 12 undef] := by simp [Act.eval]
    dsimp only
    rw [em]
    rcases k with _ | _ | k
    · rw [app2_0]; exact .i (by decide) (by decide)
    · rw [show 0 + 1 = 1 from rfl, app2_1]; exact toX t12 (by kernel_rfl)
    · rw [show k + 1 + 1 = k + 2 from rfl, app2_2]
      rcases Nat.lt_or_ge k 4 with g | g
      · have := d3 k g
        rcases k with _ | _ | _ | _ | k
        · exact this
        · exact this
        · exact this
        · exact this
        · omega
      · have : k = 4 := by omega
        subst this
        rw [d2]
        exact chain _
  · have fin : ∀ v : Value, (∃ v', Ending.returned v = .returned v') ∧ ((∃ Z, J Z lst.length W5) ∨ ∃ Z, Jx Z W5) → ∃ v', Ending.returned v = .returned v' ∧ wpOpsIn (FW none) 0 Try.prog opsY (bodyPost Try.prog Try.f39 fun e W' => (∃ v, e = .returned v) ∧ ((∃ Z, J Z lst.length W') ∨ ∃ Z, Jx Z W')) [] (a.put oY.dst v') W5 := by
      intro v hv
      refine ⟨v, rfl, (put_defers _ _ _).trans dfa, ?_⟩
      have hr : ∃ u, (results Try.f39 (a.put oY.dst v).tmps).run Try.prog W5 = .ok u W5 := by simp [results, res88]
      obtain ⟨u, hu⟩ := hr
      exact ⟨u, hu, ⟨u, rfl⟩, hv.2⟩
    rcases he with ⟨rfl, Z', _, hj, _⟩ | ⟨rfl, Z', hj⟩
    · exact fin _ ⟨⟨_, rfl⟩, .inl ⟨Z', by simpa using hj⟩⟩
    · exact fin _ ⟨⟨_, rfl⟩, .inr ⟨Z', hj⟩⟩
end Go.Proofs.Ytkdiaipaajgcbaa

set_option maxRecDepth 100000
set_option linter.unusedVariables false
namespace Go.Proofs.Ytkdiaipaajgcbaa
open Go Go.Ev
def Pats (da db : Int) (cs : List (List AV)) (ms : List AV) (Xs : List (List AV)) : Prop := ∃ p', PT db cs ms false 0 (IntKind.i64.wrap (da + db)) zero8 (Xs.map enc8) p'
open Classical in
noncomputable def okP (da db : Int) (cs : List (List AV)) (m0 m1 m2 m3 m4 m5 m6 m7 : Int) : Bool := decide (∃ Xs, Pats da db cs [.i .i64 m0, .i .i64 m1, .i .i64 m2, .i .i64 m3, .i .i64 m4, .i .i64 m5, .i .i64 m6, .i .i64 m7] Xs)
open Classical in
noncomputable def patX (da db : Int) (cs : List (List AV)) (m0 m1 m2 m3 m4 m5 m6 m7 : Int) : List (List AV) := if h : ∃ Xs, Pats da db cs [.i .i64 m0, .i .i64 m1, .i .i64 m2, .i .i64 m3, .i .i64 m4, .i .i64 m5, .i .i64 m6, .i .i64 m7] Xs then h.choose else []
theorem patX_ok {da db : Int} {cs : List (List AV)} {m0 m1 m2 m3 m4 m5 m6 m7 : Int} (h : okP da db cs m0 m1 m2 m3 m4 m5 m6 m7 = true) : Pats da db cs [.i .i64 m0, .i .i64 m1, .i .i64 m2, .i .i64 m3, .i .i64 m4, .i .i64 m5, .i .i64 m6, .i .i64 m7] (patX da db cs m0 m1 m2 m3 m4 m5 m6 m7) := by
  unfold okP at h
  simp only [decide_eq_true_eq] at h
  unfold patX
  rw [dif_pos h]
  exact h.choose_spec
theorem patX_con {da db : Int} {cs : List (List AV)} {m0 m1 m2 m3 m4 m5 m6 m7 : Int} (h : okP da db cs m0 m1 m2 m3 m4 m5 m6 m7 = true) :
    SeqCon Try.prog 39 [.rp [.int .i64, .int .i64, .sl 44] [.i .i64 da, .i .i64 db, .rs 44 cs] 0, .rp [.int .i64, .int .i64, .int .i64, .int .i64, .int .i64, .int .i64, .int .i64, .int .i64] [.i .i64 m0, .i .i64 m1, .i .i64 m2, .i .i64 m3, .i .i64 m4, .i .i64 m5, .i .i64 m6, .i .i64 m7] 0] ((patX da db cs m0 m1 m2 m3 m4 m5 m6 m7).map enc8) := by
  obtain ⟨p', h⟩ := patX_ok h
  exact pat_con h
theorem enc8_len {Xs : List (List AV)} {x : List AV} (h : x ∈ Xs.map enc8) : x.length = 1 := by
  obtain ⟨y, _, rfl⟩ := List.mem_map.1 h
  rfl
end Go.Proofs.Ytkdiaipaajgcbaa

set_option maxRecDepth 1000000
set_option maxHeartbeats 0
set_option linter.unusedVariables false
namespace Go.Proofs.Ytkdiaipaajgcbaa
open Go Go.Ev
def patF (db : Int) (cs : List (List AV)) (ms : List AV) : Nat → Bool → Nat → Int → List AV → Option (List (List AV) × List AV)
  | 0, _, _, _, _ => none
  | n + 1, false, j, room, X => cond (Nat.beq j cs.length) (some ([enc8 X], X)) (cond (Nat.blt j cs.length && Nat.blt j 8) (match patF db cs ms n true j room (setCs X j [.i .i64 0]) with
    | some (l, X') => some (l, setCs X' j [.i .i64 0])
    | none => none) none)
  | n + 1, true, j, room, X => cond (decide (fI X j ≤ fI ms j) && decide (room ≥ 0)) (match patF db cs ms n false (j + 1) room X with
    | some (l1, X1) => match patF db cs ms n true j (IntKind.i64.wrap (room - wid db cs j)) (setCs X1 j [.i .i64 (IntKind.i64.wrap (fI X1 j + 1))]) with
      | some (l2, X2) => some (l1 ++ l2, X2)
      | none => none
    | none => none) (some ([], X))
theorem patF_ok {db : Int} {cs : List (List AV)} {ms : List AV} : ∀ {n : Nat} {b : Bool} {j : Nat} {room : Int} {X X' : List AV} {l : List (List AV)}, patF db cs ms n b j room X = some (l, X') → PT db cs ms b j room X l X'
  | 0, _, _, _, _, _, _, h => by cases h
  | n + 1, false, j, room, X, X', l, h => by
    simp only [patF] at h
    cases hb : Nat.beq j cs.length with
    | true =>
      rw [hb] at h
      simp only [cond_true, Option.some.injEq, Prod.mk.injEq] at h
      obtain ⟨rfl, rfl⟩ := h
      rw [Nat.eq_of_beq_eq_true hb]
      exact .leaf
    | false =>
      rw [hb] at h
      simp only [cond_false] at h
      obtain ⟨hc, h⟩ := cond_some h
      simp only [Bool.and_eq_true, Nat.blt_eq] at hc
      split at h
      · rename_i l1 X1 h1
        simp only [Option.some.injEq, Prod.mk.injEq] at h
        obtain ⟨rfl, rfl⟩ := h
        exact .node hc.1 hc.2 (patF_ok h1)
      · cases h
  | n + 1, true, j, room, X, X', l, h => by
    simp only [patF] at h
    cases hb : (decide (fI X j ≤ fI ms j) && decide (room ≥ 0)) with
    | false =>
      rw [hb] at h
      simp only [cond_false, Option.some.injEq, Prod.mk.injEq] at h
      obtain ⟨rfl, rfl⟩ := h
      exact .stop hb
    | true =>
      rw [hb] at h
      simp only [cond_true] at h
      simp only [Bool.and_eq_true, decide_eq_true_eq] at hb
      split at h
      · rename_i l1 X1 h1
        split at h
        · rename_i l2 X2 h2
          simp only [Option.some.injEq, Prod.mk.injEq] at h
          obtain ⟨rfl, rfl⟩ := h
          exact .step hb.1 hb.2 (patF_ok h1) (patF_ok h2)
        · cases h
      · cases h
def its : ISpec := fun g caps => cond (Nat.beq g 39) (match caps with
  | [.rp [.int .i64, .int .i64, .sl 44] [.i .i64 da, .i .i64 db, .rs 44 cs] 0, .rp [.int .i64, .int .i64, .int .i64, .int .i64, .int .i64, .int .i64, .int .i64, .int .i64] [.i .i64 m0, .i .i64 m1, .i .i64 m2, .i .i64 m3, .i .i64 m4, .i .i64 m5, .i .i64 m6, .i .i64 m7] 0] =>
    match patF db cs [.i .i64 m0, .i .i64 m1, .i .i64 m2, .i .i64 m3, .i .i64 m4, .i .i64 m5, .i .i64 m6, .i .i64 m7] 100 false 0 (IntKind.i64.wrap (da + db)) zero8 with
    | some (l, _) => some l
    | none => none
  | _ => none) none
theorem its_ok : IOK Try.prog its := by
  intro g caps xs h
  unfold its at h
  obtain ⟨hg, h2⟩ := cond_some h
  clear h
  have hg := Nat.eq_of_beq_eq_true hg
  subst hg
  split at h2
  · split at h2
    · rename_i l X' h3
      cases h2
      exact pat_con (patF_ok h3)
    · cases h2
  · cases h2
noncomputable def SL : Ev.Spec := runS Try.prog its ro (fun _ _ _ => none) 300 5 12
theorem SL_ok : SpecOK Try.prog SL := runS_ok its_ok mixed names (fun _ _ _ _ _ _ h => by cases h) 12
theorem lives_eq : SL 5 [] [] = some (true, .b true, []) := by kernel_rfl
theorem lives_con : Con Try.prog 5 [] [] (.b true) [] := SL_ok _ _ _ _ _ _ lives_eq rfl
end Go.Proofs.Ytkdiaipaajgcbaa

set_option maxRecDepth 100000
set_option linter.unusedVariables false
namespace Go.Proofs.Ytkdiaipaajgcbaa
open Go Go.Ev
theorem fI_set {X : List AV} {j i : Nat} {v : Int} (h : j < X.length) : fI (setCs X j [.i .i64 v]) i = if i = j then v else fI X i := by
  show toI ((X.set j (.i .i64 v)).getD i .u) = _
  rw [List.getD_eq_getElem?_getD, List.getElem?_set]
  by_cases e : j = i
  · subst e
    rw [if_pos rfl, if_pos h, if_pos rfl]
    rfl
  · rw [if_neg e, if_neg (fun e' => e e'.symm), ← List.getD_eq_getElem?_getD]
    rfl
theorem set_len (X : List AV) (j : Nat) (v : AV) : (setCs X j [v]).length = X.length := List.length_set
theorem PT_keep {db : Int} {cs : List (List AV)} {ms : List AV} {b : Bool} {j : Nat} {room : Int} {X X' : List AV} {l : List (List AV)} (h : PT db cs ms b j room X l X') : X.length = 8 → j ≤ 8 → (b = true → j < 8) → X'.length = 8 ∧ ∀ i, i < j → fI X' i = fI X i := by
  induction h with
  | leaf => exact fun h _ _ => ⟨h, fun _ _ => rfl⟩
  | @node j room X X' l h1 h2 h3 ih =>
    intro hX hj _
    obtain ⟨i1, i2⟩ := ih (by rw [set_len]; exact hX) hj (fun _ => h2)
    refine ⟨by rw [set_len]; exact i1, fun i hi => ?_⟩
    rw [fI_set (by omega), if_neg (by omega), i2 i hi, fI_set (by omega), if_neg (by omega)]
  | stop _ => exact fun h _ _ => ⟨h, fun _ _ => rfl⟩
  | @step j room X X1 X2 l1 l2 h1 h2 h3 h4 ih1 ih2 =>
    intro hX hj hb
    have hj8 := hb rfl
    obtain ⟨i1, i2⟩ := ih1 hX (by omega) (fun h => by cases h)
    obtain ⟨i3, i4⟩ := ih2 (by rw [set_len]; exact i1) hj (fun _ => hj8)
    refine ⟨i3, fun i hi => ?_⟩
    rw [i4 i hi, fI_set (by omega), if_neg (by omega), i2 i (by omega)]
theorem wid_eq {da db : Int} {cs : List (List AV)} (hF : RFine da db cs) {j : Nat} (hj : j < cs.length) : wid db cs j = ln cs j + db := by
  have h1 := hF.c j hj
  have h2 := hF.b
  unfold okCut at h1
  exact wrap64 (by show _ ≤ ln cs j + db; omega) (by show ln cs j + db ≤ _; omega)
end Go.Proofs.Ytkdiaipaajgcbaa

set_option maxRecDepth 100000
set_option linter.unusedVariables false
namespace Go.Proofs.Ytkdiaipaajgcbaa
open Go Go.Ev
def DD (db : Int) (cs : List (List AV)) (f : Nat → Int) : Nat → Int
  | 0 => 0
  | n + 1 => DD db cs f n + f n * (ln cs n + db)
theorem DD_congr {db : Int} {cs : List (List AV)} {f g : Nat → Int} : ∀ {n : Nat}, (∀ i, i < n → f i = g i) → DD db cs f n = DD db cs g n
  | 0, _ => rfl
  | n + 1, h => by
    show DD db cs f n + f n * _ = DD db cs g n + g n * _
    rw [DD_congr (n := n) (fun i hi => h i (by omega)), h n (by omega)]
theorem DD_mono {db : Int} {cs : List (List AV)} {f : Nat → Int} {j : Nat} : ∀ {n : Nat}, j ≤ n → (∀ i, j ≤ i → i < n → 0 ≤ f i ∧ 0 ≤ ln cs i + db) → DD db cs f j ≤ DD db cs f n
  | 0, h, _ => by
    obtain rfl : j = 0 := by omega
    exact Int.le_refl _
  | n + 1, h, hh => by
    rcases Nat.eq_or_lt_of_le h with rfl | h
    · exact Int.le_refl _
    · have h1 := DD_mono (db := db) (cs := cs) (f := f) (n := n) (by omega) (fun i h1 h2 => hh i h1 (by omega))
      obtain ⟨a, b⟩ := hh n (by omega) (by omega)
      have := Int.mul_nonneg a b
      show _ ≤ DD db cs f n + f n * (ln cs n + db)
      omega
section
variable {da db : Int} {cs : List (List AV)} {ms : List AV}
abbrev fX (X : List AV) : Nat → Int := fun i => fI X i
def VecF (db : Int) (cs : List (List AV)) (ms : List AV) (j : Nat) (room : Int) (X : List AV) (l : List (List AV)) : Prop :=
  (∀ e, e ∈ l → ∃ Y, e = enc8 Y ∧ (∀ i, i < j ∨ cs.length ≤ i → fI Y i = fI X i) ∧ (∀ i, j ≤ i → i < cs.length → 0 ≤ fI Y i ∧ fI Y i ≤ fI ms i) ∧ DD db cs (fX Y) cs.length - DD db cs (fX Y) j ≤ room) ∧
  ∀ f : Nat → Int, (∀ i, j ≤ i → i < cs.length → 0 ≤ f i ∧ f i ≤ fI ms i) → DD db cs f cs.length - DD db cs f j ≤ room → ∃ e, e ∈ l ∧ ∃ Y, e = enc8 Y ∧ (∀ i, i < j ∨ cs.length ≤ i → fI Y i = fI X i) ∧ ∀ i, j ≤ i → i < cs.length → fI Y i = f i
def VecT (db : Int) (cs : List (List AV)) (ms : List AV) (j : Nat) (room : Int) (X : List AV) (l : List (List AV)) : Prop :=
  (∀ e, e ∈ l → ∃ Y, e = enc8 Y ∧ (∀ i, i < j ∨ cs.length ≤ i → fI Y i = fI X i) ∧ (∀ i, j ≤ i → i < cs.length → 0 ≤ fI Y i ∧ fI Y i ≤ fI ms i) ∧ fI X j ≤ fI Y j ∧ DD db cs (fX Y) cs.length - DD db cs (fX Y) j - fI X j * (ln cs j + db) ≤ room) ∧
  ∀ f : Nat → Int, (∀ i, j ≤ i → i < cs.length → 0 ≤ f i ∧ f i ≤ fI ms i) → fI X j ≤ f j → DD db cs f cs.length - DD db cs f j - fI X j * (ln cs j + db) ≤ room → ∃ e, e ∈ l ∧ ∃ Y, e = enc8 Y ∧ (∀ i, i < j ∨ cs.length ≤ i → fI Y i = fI X i) ∧ ∀ i, j ≤ i → i < cs.length → fI Y i = f i
theorem PT_vec (hF : RFine da db cs) (hms : ∀ j, j < cs.length → 0 ≤ fI ms j ∧ fI ms j ≤ 12) {b : Bool} {j : Nat} {room : Int} {X X' : List AV} {l : List (List AV)} (h : PT db cs ms b j room X l X') :
    X.length = 8 → j ≤ cs.length → -200000 ≤ room → room ≤ 200000 → (b = false → 0 ≤ room → VecF db cs ms j room X l) ∧ (b = true → j < cs.length → 0 ≤ fI X j → VecT db cs ms j room X l) ∧ ((b = true → j < cs.length) → ∀ i, cs.length ≤ i → fI X' i = fI X i) := by
  have hN := hF.l
  have hsz : ∀ i, i < cs.length → 0 ≤ ln cs i + db := fun i hi => by
    have := hF.c i hi
    have := hF.b
    unfold okCut at *
    omega
  induction h with
  | @leaf room X =>
    intro hX hj r1 r2
    refine ⟨fun _ hr => ⟨fun e he => ?_, fun f hf1 hf2 => ?_⟩, fun h => (by cases h), fun _ _ _ => rfl⟩
    · rw [List.mem_singleton] at he
      exact ⟨X, he, fun _ _ => rfl, fun i h1 h2 => by omega, by omega⟩
    · exact ⟨enc8 X, by simp, X, rfl, fun _ _ => rfl, fun i h1 h2 => by omega⟩
  | @node j room X X' l h1 h2 h3 ih =>
    intro hX hj r1 r2
    have hx0 : fI (setCs X j [.i .i64 0]) j = 0 := by rw [fI_set (by omega), if_pos rfl]
    obtain ⟨_, c3, c4⟩ := ih (by rw [set_len]; exact hX) hj r1 r2
    obtain ⟨c1, c2⟩ := c3 rfl h1 (by rw [hx0]; exact Int.le_refl _)
    have hag : ∀ i, i < j ∨ cs.length ≤ i → fI (setCs X j [.i .i64 0]) i = fI X i := fun i hi => by rw [fI_set (by omega), if_neg (by omega)]
    obtain ⟨k1, k2⟩ := PT_keep h3 (by rw [set_len]; exact hX) (by omega) (fun _ => h2)
    rw [hx0] at c1 c2
    refine ⟨fun _ hr => ⟨fun e he => ?_, fun f hf1 hf2 => ?_⟩, fun h => (by cases h), fun _ i hi => ?_⟩
    · obtain ⟨Y, e1, e2, e3, e4, e5⟩ := c1 e he
      exact ⟨Y, e1, fun i hi => (e2 i hi).trans (hag i hi), e3, by omega⟩
    · obtain ⟨e, he, Y, e1, e2, e3⟩ := c2 f hf1 (hf1 j (Nat.le_refl _) h1).1 (by omega)
      exact ⟨e, he, Y, e1, fun i hi => (e2 i hi).trans (hag i hi), e3⟩
    · rw [fI_set (by omega), if_neg (by omega), c4 (fun _ => h1) i hi, hag i (.inr hi)]
  | @stop j room X h =>
    intro hX hj r1 r2
    refine ⟨fun h => (by cases h), fun _ hjN hx => ⟨fun e he => (by cases he), fun f hf1 hf2 hf3 => ?_⟩, fun _ _ _ => rfl⟩
    exfalso
    have hm := DD_mono (db := db) (cs := cs) (f := f) (j := j + 1) (n := cs.length) (by omega) (fun i h1 h2 => ⟨(hf1 i (by omega) h2).1, hsz i h2⟩)
    have e1 : DD db cs f (j + 1) = DD db cs f j + f j * (ln cs j + db) := rfl
    have hz : 0 ≤ (f j - fI X j) * (ln cs j + db) := Int.mul_nonneg (by omega) (hsz j hjN)
    rw [Int.sub_mul] at hz
    have hfj := (hf1 j (Nat.le_refl _) hjN).2
    rw [decide_eq_true (show fI X j ≤ fI ms j by omega), decide_eq_true (show room ≥ 0 by omega)] at h
    cases h
  | @step j room X X1 X2 l1 l2 h1 h2 h3 h4 ih1 ih2 =>
    intro hX hj r1 r2
    have core : j < cs.length → (0 ≤ fI X j → VecT db cs ms j room X (l1 ++ l2)) ∧ ∀ i, cs.length ≤ i → fI X2 i = fI X i := by
      intro hjN
      have hc := hF.c j hjN
      have hb := hF.b
      unfold okCut at hc
      have hmj := hms j hjN
      obtain ⟨k1, k2⟩ := PT_keep h3 hX (by omega) (fun h => by cases h)
      have hxj : fI X1 j = fI X j := k2 j (by omega)
      obtain ⟨a0, _, a3⟩ := ih1 hX (by omega) r1 r2
      obtain ⟨a1, a2⟩ := a0 rfl h2
      have a3 := a3 (fun h => by cases h)
      have hwr : IntKind.i64.wrap (room - wid db cs j) = room - (ln cs j + db) := by rw [wid_eq hF hjN]; exact wrap64 (by omega) (by omega)
      rw [hwr] at ih2
      obtain ⟨_, b0, b3⟩ := ih2 (by rw [set_len]; exact k1) hj (by omega) (by omega)
      have b3 := b3 (fun _ => hjN)
      refine ⟨fun hx => ?_, fun i hi => ?_⟩
      · have hwk : IntKind.i64.wrap (fI X1 j + 1) = fI X j + 1 := by rw [hxj]; exact wrap64 (by omega) (by omega)
        rw [hwk] at b0
        have hx3 : fI (setCs X1 j [.i .i64 (fI X j + 1)]) j = fI X j + 1 := by rw [fI_set (by omega), if_pos rfl]
        obtain ⟨b1, b2⟩ := b0 rfl hjN (by rw [hx3]; omega)
        have hag : ∀ i, i < j ∨ cs.length ≤ i → fI (setCs X1 j [.i .i64 (fI X j + 1)]) i = fI X i := fun i hi => by
          rw [fI_set (by omega), if_neg (by omega)]
          rcases hi with hi | hi
          · exact k2 i (by omega)
          · exact a3 i hi
        rw [hx3] at b1 b2
        have hmul : (fI X j + 1) * (ln cs j + db) = fI X j * (ln cs j + db) + (ln cs j + db) := by rw [Int.add_mul, Int.one_mul]
        rw [hmul] at b1 b2
        refine ⟨fun e he => ?_, fun f hf1 hf2 hf3 => ?_⟩
        · rcases List.mem_append.1 he with he | he
          · obtain ⟨Y, e1, e2, e3, e4⟩ := a1 e he
            have ej : fI Y j = fI X j := e2 j (.inl (by omega))
            have es : DD db cs (fX Y) (j + 1) = DD db cs (fX Y) j + fI X j * (ln cs j + db) := by rw [← ej]; rfl
            refine ⟨Y, e1, fun i hi => e2 i (by omega), fun i h1' h2' => ?_, by omega, by omega⟩
            rcases Nat.eq_or_lt_of_le h1' with rfl | h'
            · omega
            · exact e3 i h' h2'
          · obtain ⟨Y, e1, e2, e3, e4, e5⟩ := b1 e he
            exact ⟨Y, e1, fun i hi => (e2 i hi).trans (hag i hi), e3, by omega, by omega⟩
        · rcases Int.lt_or_eq_of_le hf2 with hlt | heq
          · obtain ⟨e, he, Y, e1, e2, e3⟩ := b2 f hf1 (by omega) (by omega)
            exact ⟨e, List.mem_append.2 (.inr he), Y, e1, fun i hi => (e2 i hi).trans (hag i hi), e3⟩
          · have es : DD db cs f (j + 1) = DD db cs f j + fI X j * (ln cs j + db) := by rw [heq]; rfl
            obtain ⟨e, he, Y, e1, e2, e3⟩ := a2 f (fun i h1' h2' => hf1 i (by omega) h2') (by omega)
            refine ⟨e, List.mem_append.2 (.inl he), Y, e1, fun i hi => e2 i (by omega), fun i h1' h2' => ?_⟩
            rcases Nat.eq_or_lt_of_le h1' with rfl | h'
            · rw [e2 j (by omega)]; exact heq
            · exact e3 i h' h2'
      · rw [b3 i hi, fI_set (by omega), if_neg (by omega)]
        exact a3 i hi
    exact ⟨fun h => (by cases h), fun _ hjN hx => (core hjN).1 hx, fun h => (core (h rfl)).2⟩
theorem PT_ex2 (hF : RFine da db cs) (hms : ∀ j, j < cs.length → 0 ≤ fI ms j ∧ fI ms j ≤ 12) : ∀ (d j : Nat), cs.length - j = d → j ≤ cs.length → ∀ (room : Int) (X : List AV), X.length = 8 → ∃ l X', PT db cs ms false j room X l X'
  | 0, j, hd, hj, room, X, hX => by
    obtain rfl : j = cs.length := by omega
    exact ⟨_, _, .leaf⟩
  | d + 1, j, hd, hj, room, X, hX => by
    have hN := hF.l
    have hjN : j < cs.length := by omega
    have hc := hms j hjN
    have inner : ∀ (t : Nat) (room : Int) (X : List AV), X.length = 8 → 0 ≤ fI X j → fI ms j + 1 - fI X j ≤ (t : Int) → ∃ l X', PT db cs ms true j room X l X' := by
      intro t
      induction t with
      | zero =>
        intro room X hX hx ht
        refine ⟨[], X, .stop ?_⟩
        rw [decide_eq_false (by omega)]
        rfl
      | succ t ih =>
        intro room X hX hx ht
        cases hcond : (decide (fI X j ≤ fI ms j) && decide (room ≥ 0)) with
        | false => exact ⟨[], X, .stop hcond⟩
        | true =>
          rw [Bool.and_eq_true, decide_eq_true_eq, decide_eq_true_eq] at hcond
          obtain ⟨l1, X1, p1⟩ := PT_ex2 hF hms d (j + 1) (by omega) (by omega) room X hX
          obtain ⟨k1, k2⟩ := PT_keep p1 hX (by omega) (fun h => by cases h)
          have hxj : fI X1 j = fI X j := k2 j (by omega)
          have hle := hcond.1
          have hwk : IntKind.i64.wrap (fI X1 j + 1) = fI X j + 1 := by rw [hxj]; exact wrap64 (by omega) (by omega)
          have hx3 : fI (setCs X1 j [.i .i64 (IntKind.i64.wrap (fI X1 j + 1))]) j = fI X j + 1 := by rw [fI_set (by omega), if_pos rfl, hwk]
          obtain ⟨l2, X2, p2⟩ := ih (IntKind.i64.wrap (room - wid db cs j)) (setCs X1 j [.i .i64 (IntKind.i64.wrap (fI X1 j + 1))]) (by rw [set_len]; exact k1) (by rw [hx3]; omega) (by rw [hx3]; omega)
          exact ⟨l1 ++ l2, X2, .step hcond.1 hcond.2 p1 p2⟩
    obtain ⟨l, X', p⟩ := inner 14 room (setCs X j [.i .i64 0]) (by rw [set_len]; exact hX) (by rw [fI_set (by omega), if_pos rfl]; exact Int.le_refl _) (by rw [fI_set (by omega), if_pos rfl]; omega)
    exact ⟨l, _, .node hjN (by omega) p⟩
end
end Go.Proofs.Ytkdiaipaajgcbaa

set_option maxRecDepth 100000
set_option linter.unusedVariables false
namespace Go.Proofs.Ytkdiaipaajgcbaa
open Go Go.Ev
section
variable {da db : Int} {cs : List (List AV)}
inductive Cov (da db : Int) (cs : List (List AV)) : Nat → (Nat → Int) → Prop
  | nil {q : Nat → Int} : (∀ i, i < cs.length → q i = 0) → Cov da db cs 0 q
  | cons {k : Nat} {q : Nat → Int} (p : Nat → Int) : (∀ i, i < cs.length → 0 ≤ p i ∧ p i ≤ q i) → DD db cs p cs.length ≤ da + db → Cov da db cs k (fun i => q i - p i) → Cov da db cs (k + 1) q
theorem Cov.congr {k : Nat} {q r : Nat → Int} (h : Cov da db cs k q) : (∀ i, i < cs.length → q i = r i) → Cov da db cs k r := by
  induction h generalizing r with
  | nil h => exact fun e => .nil fun i hi => by rw [← e i hi]; exact h i hi
  | cons p h1 h2 h3 ih => exact fun e => .cons p (fun i hi => by rw [← e i hi]; exact h1 i hi) h2 (ih fun i hi => by show _ - p i = _ - p i; rw [e i hi])
theorem Cov.nn {k : Nat} {q : Nat → Int} (h : Cov da db cs k q) : ∀ i, i < cs.length → 0 ≤ q i := by
  induction h with
  | nil h => exact fun i hi => by rw [h i hi]; exact Int.le_refl _
  | cons p h1 h2 h3 ih => exact fun i hi => by have := h1 i hi; omega
theorem Cov.exch {k : Nat} {q : Nat → Int} (h : Cov da db cs k q) : ∀ i, i < cs.length → 0 < q i → ∃ k' p, k = k' + 1 ∧ (∀ i, i < cs.length → 0 ≤ p i ∧ p i ≤ q i) ∧ DD db cs p cs.length ≤ da + db ∧ 0 < p i ∧ Cov da db cs k' (fun i => q i - p i) := by
  induction h with
  | nil h => exact fun i hi h' => by rw [h i hi] at h'; omega
  | @cons k q p h1 h2 h3 ih =>
    intro i hi hq
    rcases Int.lt_or_le 0 (p i) with h | h
    · exact ⟨k, p, rfl, h1, h2, h, h3⟩
    · obtain ⟨k', p', rfl, g1, g2, g3, g4⟩ := ih i hi (by show 0 < q i - p i; omega)
      have g1 : ∀ j, j < cs.length → 0 ≤ p' j ∧ p' j ≤ q j - p j := g1
      refine ⟨k' + 1, p', rfl, fun j hj => ?_, g2, g3, .cons p (fun j hj => ?_) h2 (g4.congr fun j hj => ?_)⟩
      · have := h1 j hj; have := g1 j hj; omega
      · have := h1 j hj; have := g1 j hj; show 0 ≤ p j ∧ p j ≤ q j - p' j; omega
      · show q j - p j - p' j = q j - p' j - p j; omega
theorem DD_le {f g : Nat → Int} : ∀ {n : Nat}, (∀ i, i < n → f i ≤ g i ∧ 0 ≤ ln cs i + db) → DD db cs f n ≤ DD db cs g n
  | 0, _ => Int.le_refl _
  | n + 1, h => by
    have h1 := DD_le (n := n) (fun i hi => h i (by omega))
    obtain ⟨a, b⟩ := h n (by omega)
    have := Int.mul_le_mul_of_nonneg_right a b
    show DD db cs f n + f n * _ ≤ DD db cs g n + g n * _
    omega
theorem DD_zero {f : Nat → Int} : ∀ {n : Nat}, (∀ i, i < n → f i = 0) → DD db cs f n = 0
  | 0, _ => rfl
  | n + 1, h => by
    show DD db cs f n + f n * _ = 0
    rw [DD_zero (n := n) (fun i hi => h i (by omega)), h n (by omega), Int.zero_mul]; rfl
theorem DD_add {f g : Nat → Int} : ∀ {n : Nat}, DD db cs (fun i => f i + g i) n = DD db cs f n + DD db cs g n
  | 0 => rfl
  | n + 1 => by
    show DD db cs _ n + (f n + g n) * _ = DD db cs f n + f n * _ + (DD db cs g n + g n * _)
    rw [DD_add (n := n), Int.add_mul]
    omega
def e1 (c : Nat) : Nat → Int := fun i => if i = c then 1 else 0
theorem DD_e1 {c : Nat} : ∀ {n : Nat}, DD db cs (e1 c) n = if c < n then ln cs c + db else 0
  | 0 => rfl
  | n + 1 => by
    show DD db cs (e1 c) n + (if n = c then 1 else 0) * _ = _
    rw [DD_e1 (n := n)]
    by_cases h : n = c
    · subst h
      rw [if_neg (by omega), if_pos rfl, if_pos (by omega)]; omega
    · rw [if_neg h, Int.zero_mul, Int.add_zero]
      by_cases h2 : c < n
      · rw [if_pos h2, if_pos (by omega)]
      · rw [if_neg h2, if_neg (by omega)]
theorem sz_pos (hF : RFine da db cs) : ∀ i, i < cs.length → 0 < ln cs i + db := fun i hi => by
  have := hF.c i hi
  have := hF.b
  unfold okCut at *
  omega
theorem Cov.more (hF : RFine da db cs) {k : Nat} {q : Nat → Int} (h : Cov da db cs k q) : Cov da db cs (k + 1) q := by
  refine .cons (fun _ => 0) (fun i hi => ⟨Int.le_refl _, h.nn i hi⟩) ?_ (h.congr fun i hi => by omega)
  rw [DD_zero fun _ _ => rfl]
  have := hF.a
  have := hF.b
  omega
theorem Cov.up (hF : RFine da db cs) {k k' : Nat} {q : Nat → Int} (h : Cov da db cs k q) : k ≤ k' → Cov da db cs k' q := by
  intro hk
  obtain ⟨d, rfl⟩ := Nat.exists_eq_add_of_le hk
  clear hk
  induction d with
  | zero => exact h
  | succ d ih => exact ih.more hF
theorem Cov.sub (hF : RFine da db cs) {k : Nat} {q : Nat → Int} (h : Cov da db cs k q) : ∀ {r : Nat → Int}, (∀ i, i < cs.length → 0 ≤ r i ∧ r i ≤ q i) → Cov da db cs k r := by
  induction h with
  | nil h => exact fun e => .nil fun i hi => by have := e i hi; have := h i hi; omega
  | @cons k q p h1 h2 h3 ih =>
    intro r e
    refine .cons (fun i => if p i ≤ r i then p i else r i) (fun i hi => ?_) (Int.le_trans (DD_le fun i hi => ⟨?_, Int.le_of_lt (sz_pos hF i hi)⟩) h2) (ih fun i hi => ?_)
    · have := e i hi; have := h1 i hi
      split <;> omega
    · have := e i hi; have := h1 i hi
      split <;> omega
    · have := e i hi; have := h1 i hi
      show 0 ≤ r i - (if p i ≤ r i then p i else r i) ∧ r i - (if p i ≤ r i then p i else r i) ≤ q i - p i
      split <;> omega
def TT (q : Nat → Int) : Nat → Int
  | 0 => 0
  | n + 1 => TT q n + q n
theorem TT_congr {q r : Nat → Int} : ∀ {n : Nat}, (∀ i, i < n → q i = r i) → TT q n = TT r n
  | 0, _ => rfl
  | n + 1, h => by
    show TT q n + q n = TT r n + r n
    rw [TT_congr (n := n) (fun i hi => h i (by omega)), h n (by omega)]
theorem TT_sub {q r : Nat → Int} : ∀ {n : Nat}, TT (fun i => q i - r i) n = TT q n - TT r n
  | 0 => rfl
  | n + 1 => by
    show TT _ n + (q n - r n) = TT q n + q n - (TT r n + r n)
    rw [TT_sub (n := n)]
    omega
theorem TT_nn {q : Nat → Int} : ∀ {n : Nat}, (∀ i, i < n → 0 ≤ q i) → 0 ≤ TT q n ∧ ∀ i, i < n → q i ≤ TT q n
  | 0, _ => ⟨Int.le_refl _, fun i hi => by omega⟩
  | n + 1, h => by
    obtain ⟨a, b⟩ := TT_nn (n := n) (fun i hi => h i (by omega))
    have hn := h n (by omega)
    refine ⟨by show 0 ≤ TT q n + q n; omega, fun i hi => ?_⟩
    show q i ≤ TT q n + q n
    rcases Nat.lt_succ_iff_lt_or_eq.1 hi with h' | rfl
    · have := b i h'; omega
    · omega
theorem TT_e1 {c : Nat} : ∀ {n : Nat}, TT (e1 c) n = if c < n then 1 else 0
  | 0 => rfl
  | n + 1 => by
    show TT (e1 c) n + (if n = c then 1 else 0) = _
    rw [TT_e1 (n := n)]
    by_cases h : n = c
    · subst h
      rw [if_neg (by omega), if_pos rfl, if_pos (by omega)]; rfl
    · rw [if_neg h, Int.add_zero]
      by_cases h2 : c < n
      · rw [if_pos h2, if_pos (by omega)]
      · rw [if_neg h2, if_neg (by omega)]
theorem TT_first {q : Nat → Int} : ∀ {n : Nat}, 0 < TT q n → ∃ i, i < n ∧ 0 < q i
  | 0, h => by simp [TT] at h
  | n + 1, h => by
    have h : 0 < TT q n + q n := h
    rcases Int.lt_or_le 0 (q n) with h' | h'
    · exact ⟨n, by omega, h'⟩
    · obtain ⟨i, h1, h2⟩ := TT_first (n := n) (q := q) (by omega)
      exact ⟨i, by omega, h2⟩
theorem one_fits (hF : RFine da db cs) {i : Nat} (hi : i < cs.length) : DD db cs (e1 i) cs.length ≤ da + db := by
  rw [DD_e1, if_pos hi]
  have := hF.f i hi
  omega
theorem Cov.single (hF : RFine da db cs) : ∀ (n : Nat) (q : Nat → Int), (∀ i, i < cs.length → 0 ≤ q i) → TT q cs.length = (n : Int) → Cov da db cs n q
  | 0, q, h, ht => .nil fun i hi => by
    have := (TT_nn h).2 i hi
    have := h i hi
    omega
  | n + 1, q, h, ht => by
    obtain ⟨i, hi, hq⟩ := TT_first (q := q) (n := cs.length) (by omega)
    refine .cons (e1 i) (fun j hj => ?_) (one_fits hF hi) (Cov.single hF n _ (fun j hj => ?_) ?_)
    · have := h j hj
      unfold e1
      split
      · rename_i e; subst e; omega
      · omega
    · have := h j hj
      show 0 ≤ q j - e1 i j
      unfold e1
      split
      · rename_i e; subst e; omega
      · omega
    · rw [TT_sub, TT_e1, if_pos hi]
      omega
theorem least_of {P : Nat → Prop} {n : Nat} (h : P n) : ∃ k, P k ∧ ∀ j, P j → k ≤ j := by
  have key : ∀ d n, n ≤ d → P n → ∃ k, P k ∧ ∀ j, P j → k ≤ j := by
    intro d
    induction d with
    | zero => intro n hn h; exact ⟨n, h, fun j _ => by omega⟩
    | succ d ih =>
      intro n hn h
      by_cases hs : ∃ j, j < n ∧ P j
      · obtain ⟨j, hj, hp⟩ := hs
        exact ih j (by omega) hp
      · exact ⟨n, h, fun j hj => by
          rcases Nat.lt_or_ge j n with h' | h'
          · exact absurd ⟨j, h', hj⟩ hs
          · exact h'⟩
  exact key n n (Nat.le_refl _) h
open Classical in
noncomputable def mq (da db : Int) (cs : List (List AV)) (q : Nat → Int) : Nat := if h : ∃ k, Cov da db cs k q ∧ ∀ j, Cov da db cs j q → k ≤ j then h.choose else 0
theorem mq_ok (hF : RFine da db cs) {q : Nat → Int} (h : ∀ i, i < cs.length → 0 ≤ q i) : Cov da db cs (mq da db cs q) q ∧ (∀ j, Cov da db cs j q → mq da db cs q ≤ j) ∧ (mq da db cs q : Int) ≤ TT q cs.length := by
  have hn := (TT_nn h).1
  have hs := Cov.single hF (TT q cs.length).toNat q h (by omega)
  have hex := least_of (P := fun k => Cov da db cs k q) hs
  have e : mq da db cs q = hex.choose := by unfold mq; rw [dif_pos hex]
  rw [e]
  refine ⟨hex.choose_spec.1, hex.choose_spec.2, ?_⟩
  have := hex.choose_spec.2 _ hs
  omega
theorem mq_congr (hF : RFine da db cs) {q r : Nat → Int} (h : ∀ i, i < cs.length → 0 ≤ q i) (e : ∀ i, i < cs.length → q i = r i) : mq da db cs q = mq da db cs r := by
  obtain ⟨a1, a2, _⟩ := mq_ok hF h
  obtain ⟨b1, b2, _⟩ := mq_ok hF (q := r) (fun i hi => by rw [← e i hi]; exact h i hi)
  have := a2 _ (b1.congr fun i hi => (e i hi).symm)
  have := b2 _ (a1.congr e)
  omega
theorem mq_zero (hF : RFine da db cs) {q : Nat → Int} (h : ∀ i, i < cs.length → q i = 0) : mq da db cs q = 0 := by
  have := (mq_ok hF (q := q) (fun i hi => by rw [h i hi]; exact Int.le_refl _)).2.1 0 (.nil h)
  omega
theorem mq_le (hF : RFine da db cs) {q p : Nat → Int} (h : ∀ i, i < cs.length → 0 ≤ p i ∧ p i ≤ q i) (hp : DD db cs p cs.length ≤ da + db) : mq da db cs q ≤ mq da db cs (fun i => q i - p i) + 1 := by
  obtain ⟨a1, a2, _⟩ := mq_ok hF (q := q) (fun i hi => by have := h i hi; omega)
  obtain ⟨b1, b2, _⟩ := mq_ok hF (q := fun i => q i - p i) (fun i hi => by have := h i hi; omega)
  exact a2 _ (.cons p h hp b1)
theorem mq_ex (hF : RFine da db cs) {q : Nat → Int} (h : ∀ i, i < cs.length → 0 ≤ q i) {i : Nat} (hi : i < cs.length) (hq : 0 < q i) : ∃ p, (∀ i, i < cs.length → 0 ≤ p i ∧ p i ≤ q i) ∧ DD db cs p cs.length ≤ da + db ∧ 0 < p i ∧ mq da db cs q = mq da db cs (fun i => q i - p i) + 1 := by
  obtain ⟨a1, a2, _⟩ := mq_ok hF h
  obtain ⟨k', p, e, g1, g2, g3, g4⟩ := a1.exch i hi hq
  refine ⟨p, g1, g2, g3, ?_⟩
  have h1 := mq_le hF g1 g2
  obtain ⟨b1, b2, _⟩ := mq_ok hF (q := fun i => q i - p i) (fun i hi => by have := g1 i hi; omega)
  have := b2 _ g4
  omega
end
end Go.Proofs.Ytkdiaipaajgcbaa

set_option maxRecDepth 100000
set_option linter.unusedVariables false
namespace Go.Proofs.Ytkdiaipaajgcbaa
open Go Go.Ev
def row8 (f : Nat → Int) : List AV := (List.range 8).map fun h => .i .i64 (f h)
theorem row8_get {f : Nat → Int} {h : Nat} (hh : h < 8) : fI (row8 f) h = f h := by
  show toI ((row8 f).getD h .u) = f h
  simp [row8, List.getD_eq_getElem?_getD, hh, toI]
theorem row8_set {f : Nat → Int} {h : Nat} {v : Int} (hh : h < 8) : (row8 f).set h (.i .i64 v) = row8 (upd f h v) := by
  apply List.ext_getElem
  · simp [row8]
  · intro i h1 h2
    have hi : i < 8 := by simpa [row8] using h1
    simp only [row8, List.getElem_set, List.getElem_map, List.getElem_range, upd]
    by_cases e : h = i
    · subst e; simp
    · simp [e, Ne.symm e]
theorem cts104 {A : Nat} (h : A < 8) : ctsAt (cts Try.prog 78) (0 + ((A : Nat) : Int).toNat * 1) (cts Try.prog 3) = true := by
  rcases A with _ | _ | _ | _ | _ | _ | _ | _ | A
  all_goals first | (exfalso; omega) | kernel_rfl
theorem cts8 {A : Nat} (h : A < 8) : ctsAt [CT.int IntKind.i64, CT.int IntKind.i64, CT.int IntKind.i64, CT.int IntKind.i64, CT.int IntKind.i64, CT.int IntKind.i64, CT.int IntKind.i64, CT.int IntKind.i64] (0 + ((A : Nat) : Int).toNat * 1) (cts Try.prog 3) = true := by
  rcases A with _ | _ | _ | _ | _ | _ | _ | _ | A
  all_goals first | (exfalso; omega) | kernel_rfl
def mw (cs : List (List AV)) (i : Nat) : Int := if i < cs.length then mn cs i else 0
def mwTo (cs : List (List AV)) (k i : Nat) : Int := if i < k then mn cs i else 0
theorem wanted_run {cs : List (List AV)} (hl : cs.length ≤ 8) : ∃ a, r77a cs (cs.length : Int) 0 0 0 0 0 0 0 0 0 (row8 fun _ => 0) = some (.x0 a (row8 (mw cs))) := by
  have run : ∃ y, r77a cs (cs.length : Int) 0 0 0 0 0 0 0 0 0 (row8 (mwTo cs 0)) = some y ∧ ∃ a, y = .x0 a (row8 (mw cs)) := by
    unfold r77a
    refine run_for (S := Unit) cs.length (fun k _ => (⟨(k : Int), row8 (mwTo cs k)⟩ : S77a)) (fun _ _ => True) (fun _ _ (y : T77a) => ∃ a, y = .x0 a (row8 (mw cs))) (fun k _ hk _ => ?_) (fun _ _ => ?_) 0 () (Nat.zero_le _) trivial
    · left
      refine ⟨(), ?_, trivial, fun y hy => hy⟩
      show stp77a cs (cs.length : Int) 0 0 0 0 0 0 0 0 (k : Int) (row8 (mwTo cs k)) = _
      unfold stp77a
      have h8 : k < 8 := by omega
      have c := cts104 h8
      have e0 : fI (cs.getD k []) 1 = mn cs k := rfl
      have e1 : Nat.blt 0 [row8 (mwTo cs k)].length = true := rfl
      have e2 : [row8 (mwTo cs k)].getD 0 [] = row8 (mwTo cs k) := rfl
      rw [lt_true hk, inb_true hk, inb_true h8, c, e1, e2, Int.toNat_natCast, e0, wrap_succ (by omega), Nat.zero_add, Nat.mul_one]
      have e3 : setCs (row8 (mwTo cs k)) k [AV.i IntKind.i64 (mn cs k)] = row8 (mwTo cs (k + 1)) := by
        show (row8 (mwTo cs k)).set k (.i .i64 (mn cs k)) = _
        rw [row8_set h8]
        congr 1
        funext i
        unfold upd mwTo
        by_cases e : i = k
        · subst e
          rw [if_pos rfl, if_pos (by omega)]
        · rw [if_neg e]
          by_cases h' : i < k
          · rw [if_pos h', if_pos (by omega)]
          · rw [if_neg h', if_neg (by omega)]
      rw [e3]
      rfl
    · refine ⟨.x0 (cs.length : Int) (row8 (mw cs)), ?_, _, rfl⟩
      show stp77a cs (cs.length : Int) 0 0 0 0 0 0 0 0 (cs.length : Int) (row8 (mwTo cs cs.length)) = _
      unfold stp77a
      rw [lt_false]; rfl
  obtain ⟨y, h1, a, h2⟩ := run
  refine ⟨a, ?_⟩
  have e : row8 (mwTo cs 0) = row8 fun _ => 0 := by
    congr 1
  rw [← e, h1, h2]
theorem wanted_val {da db : Int} {cs : List (List AV)} (hl : cs.length ≤ 8) : g77 da db cs = true ∧ w77_0 da db cs = mw cs 0 ∧ w77_1 da db cs = mw cs 1 ∧ w77_2 da db cs = mw cs 2 ∧ w77_3 da db cs = mw cs 3 ∧ w77_4 da db cs = mw cs 4 ∧ w77_5 da db cs = mw cs 5 ∧ w77_6 da db cs = mw cs 6 ∧ w77_7 da db cs = mw cs 7 := by
  obtain ⟨a, ha⟩ := wanted_run hl
  have ez : [AV.i IntKind.i64 0, AV.i IntKind.i64 0, AV.i IntKind.i64 0, AV.i IntKind.i64 0, AV.i IntKind.i64 0, AV.i IntKind.i64 0, AV.i IntKind.i64 0, AV.i IntKind.i64 0] = row8 fun _ => 0 := rfl
  unfold g77 w77_0 w77_1 w77_2 w77_3 w77_4 w77_5 w77_6 w77_7 t77 i77a_0 v77a_0_m2
  rw [ez, ha]
  exact ⟨rfl, rfl, rfl, rfl, rfl, rfl, rfl, rfl, rfl⟩
theorem q_get (q : Nat → Int) {i : Nat} (h : i < 8) : toI ([AV.i IntKind.i64 (q 0), AV.i IntKind.i64 (q 1), AV.i IntKind.i64 (q 2), AV.i IntKind.i64 (q 3), AV.i IntKind.i64 (q 4), AV.i IntKind.i64 (q 5), AV.i IntKind.i64 (q 6), AV.i IntKind.i64 (q 7)].getD (0 + ((i : Nat) : Int).toNat * 1) AV.u) = q i := by
  rcases i with _ | _ | _ | _ | _ | _ | _ | _ | i
  all_goals first | (exfalso; omega) | rfl
theorem enc8_inj {X Y : List AV} (h : enc8 X = enc8 Y) : ∀ i, i < 8 → fI X i = fI Y i := by
  simp only [enc8, ag8, List.cons.injEq, AV.agg.injEq, AV.i.injEq, true_and, and_true] at h
  intro i hi
  rcases i with _ | _ | _ | _ | _ | _ | _ | _ | i
  all_goals first | (exfalso; omega) | (obtain ⟨a0, a1, a2, a3, a4, a5, a6, a7⟩ := h; assumption)
end Go.Proofs.Ytkdiaipaajgcbaa

set_option maxRecDepth 100000
set_option maxHeartbeats 1000000
set_option linter.unusedVariables false
namespace Go.Proofs.Ytkdiaipaajgcbaa
open Go Go.Ev

noncomputable def c74 : Code := match Try.f20.body with | some c => c | _ => .skip
theorem lok74 : LOK Try.prog S0 (ro 20) (fun _ _ => none) 0 false c74 [] :=
  lok_lo (fun _ _ _ _ _ _ _ h _ => by cases h) c74 [] false (locate_nil _) (by kernel_rfl)
noncomputable def t74 (x : Int) : Tr ((Bool)) :=
  .lf (decide (x > 0))
noncomputable def g74 (x : Int) : Bool := (t74 x).g
noncomputable def w74_0 (x : Int) : Bool := (t74 x).val
theorem eq74 (x : Int) : evF Try.prog S0 (ro 20) (fun _ _ => none) Try.f20 [.i .i64 x] = (t74 x).opt (fun (x : (Bool)) => (.b x : AV)) := by kernel_rfl
theorem con74 (x : Int) (h : g74 x = true) : Con Try.prog 20 [.i .i64 x] [] (.b (w74_0 x)) [] :=
  con_of S0_ok mixed Try.func20 (c := c74) rfl (names 20 _ Try.func20) lok74 ((eq74 x).trans (Tr.sound _ _ h))
noncomputable def e74 (args : List AV) (rows : List Blk) : Option (Bool × AV × List Blk) := match args, rows with
  | [.i .i64 x], [] => some (g74 x, .b (w74_0 x), [])
  | _, _ => none
theorem e74_ok (args : List AV) (rows : List Blk) (pre : Bool) (v : AV) (rows' : List Blk) (h : e74 args rows = some (pre, v, rows')) (hp : pre = true) : Con Try.prog 20 args rows v rows' := by
  unfold e74 at h
  split at h
  · cases h; exact con74 _ hp
  · cases h
-- SPEC 74
end Go.Proofs.Ytkdiaipaajgcbaa

set_option maxRecDepth 100000
set_option linter.unusedVariables false
namespace Go.Proofs.Ytkdiaipaajgcbaa
open Go Go.Ev
noncomputable def SP3 : Ev.Spec := insS 20 e74 S0
theorem SP3_ok : SpecOK Try.prog SP3 := insS_ok e74_ok S0_ok
end Go.Proofs.Ytkdiaipaajgcbaa

set_option maxRecDepth 100000
set_option maxHeartbeats 1000000
set_option linter.unusedVariables false
namespace Go.Proofs.Ytkdiaipaajgcbaa
open Go Go.Ev

noncomputable def c73q : Code := match Try.f19.body with | some c => c | _ => .skip
noncomputable def lp73qa : Code := loopAt c73q [true, false, true, false]
noncomputable def s73qa (t4 t7 t8 q0 q1 q2 q3 q4 q5 q6 q7 : Int) : St :=
  { t := [(0, .sa 0 0 0 8), (1, .fn 20 []), (4, .i .i64 t4), (7, .i .i64 t7), (8, .i .i64 t8)], m := [(0, .row 78 [[.i .i64 q0, .i .i64 q1, .i .i64 q2, .i .i64 q3, .i .i64 q4, .i .i64 q5, .i .i64 q6, .i .i64 q7]])], nx := 1, nt := 19 }
structure S73qa where
  t8 : Int
inductive T73qa where
  | x0 (t4' : Int) (t8 : Int)
  | x1 (t8 : Int)
noncomputable def stp73qa (t4 t7 q0 q1 q2 q3 q4 q5 q6 q7 t8 : Int) : Lp S73qa T73qa :=
  cond (decide (t8 < t7)) (cond (inb t8 8) (cond (ctsAt (cts Try.prog 78) (0 + t8.toNat * 1) (cts Try.prog 3) && true) (cond (w74_0 (toI (([[AV.i IntKind.i64 q0, AV.i IntKind.i64 q1, AV.i IntKind.i64 q2, AV.i IntKind.i64 q3, AV.i IntKind.i64 q4, AV.i IntKind.i64 q5, AV.i IntKind.i64 q6, AV.i IntKind.i64 q7]].getD 0 []).getD (0 + t8.toNat * 1) AV.u))) (.out (.x0 t8 t8)) (.go ⟨IntKind.i64.wrap (t8 + 1)⟩)) (.bad)) (.bad)) (.out (.x1 t8))
noncomputable def o73qa_0 (t4 t7 q0 q1 q2 q3 q4 q5 q6 q7 t4' t8 : Int) : St :=
  { t := [(0, .sa 0 0 0 8), (1, .fn 20 []), (4, .i .i64 t4'), (7, .i .i64 t7), (8, .i .i64 t8)], m := [(0, .row 78 [[.i .i64 q0, .i .i64 q1, .i .i64 q2, .i .i64 q3, .i .i64 q4, .i .i64 q5, .i .i64 q6, .i .i64 q7]])], nx := 1, nt := 19 }
noncomputable def o73qa_1 (t4 t7 q0 q1 q2 q3 q4 q5 q6 q7 t8 : Int) : St :=
  { t := [(0, .sa 0 0 0 8), (1, .fn 20 []), (4, .i .i64 t4), (7, .i .i64 t7), (8, .i .i64 t8)], m := [(0, .row 78 [[.i .i64 q0, .i .i64 q1, .i .i64 q2, .i .i64 q3, .i .i64 q4, .i .i64 q5, .i .i64 q6, .i .i64 q7]])], nx := 1, nt := 19 }
noncomputable def ou73qa (t4 t7 q0 q1 q2 q3 q4 q5 q6 q7 : Int) : T73qa → Ex × St
  | .x0 t4' t8 => (.ret, o73qa_0 t4 t7 q0 q1 q2 q3 q4 q5 q6 q7 t4' t8)
  | .x1 t8 => (.ext 0, o73qa_1 t4 t7 q0 q1 q2 q3 q4 q5 q6 q7 t8)
noncomputable def r73qa (t4 t7 q0 q1 q2 q3 q4 q5 q6 q7 t8 : Int) : Option T73qa := run (fun x => stp73qa t4 t7 q0 q1 q2 q3 q4 q5 q6 q7 x.t8) (⟨t8⟩ : S73qa)
noncomputable def i73qa_0 (t4 t7 q0 q1 q2 q3 q4 q5 q6 q7 t8 : Int) : Bool := match r73qa t4 t7 q0 q1 q2 q3 q4 q5 q6 q7 t8 with
  | some (.x0 _ _) => true
  | _ => false
noncomputable def v73qa_0_t4' (t4 t7 q0 q1 q2 q3 q4 q5 q6 q7 t8 : Int) : Int := match r73qa t4 t7 q0 q1 q2 q3 q4 q5 q6 q7 t8 with
  | some (.x0 t4' _) => t4'
  | _ => default
noncomputable def v73qa_0_t8 (t4 t7 q0 q1 q2 q3 q4 q5 q6 q7 t8 : Int) : Int := match r73qa t4 t7 q0 q1 q2 q3 q4 q5 q6 q7 t8 with
  | some (.x0 _ t8) => t8
  | _ => default
noncomputable def i73qa_1 (t4 t7 q0 q1 q2 q3 q4 q5 q6 q7 t8 : Int) : Bool := match r73qa t4 t7 q0 q1 q2 q3 q4 q5 q6 q7 t8 with
  | some (.x1 _) => true
  | _ => false
noncomputable def v73qa_1_t8 (t4 t7 q0 q1 q2 q3 q4 q5 q6 q7 t8 : Int) : Int := match r73qa t4 t7 q0 q1 q2 q3 q4 q5 q6 q7 t8 with
  | some (.x1 t8) => t8
  | _ => default
noncomputable def l73qa (st : St) : Option (List (Bool × Ex × St)) := match normW Try.prog [(0, none), (1, none), (4, none), (7, none), (8, none)] 1 st with
  | some ([.sa 0 0 0 8, .fn 20 [], .i .i64 t4, .i .i64 t7, .i .i64 t8], [(0, .row 78 [[.i .i64 q0, .i .i64 q1, .i .i64 q2, .i .i64 q3, .i .i64 q4, .i .i64 q5, .i .i64 q6, .i .i64 q7]])], 1, 19) => some [(i73qa_0 t4 t7 q0 q1 q2 q3 q4 q5 q6 q7 t8, .ret, o73qa_0 t4 t7 q0 q1 q2 q3 q4 q5 q6 q7 (v73qa_0_t4' t4 t7 q0 q1 q2 q3 q4 q5 q6 q7 t8) (v73qa_0_t8 t4 t7 q0 q1 q2 q3 q4 q5 q6 q7 t8)), (i73qa_1 t4 t7 q0 q1 q2 q3 q4 q5 q6 q7 t8, .ext 0, o73qa_1 t4 t7 q0 q1 q2 q3 q4 q5 q6 q7 (v73qa_1_t8 t4 t7 q0 q1 q2 q3 q4 q5 q6 q7 t8))]
  | _ => none
noncomputable def L73q : LSpec := fun p st => match p with
  | [false, true, false, true] => l73qa st
  | _ => none
theorem is73qa_0 (t4 t7 q0 q1 q2 q3 q4 q5 q6 q7 t8 : Int) (h : i73qa_0 t4 t7 q0 q1 q2 q3 q4 q5 q6 q7 t8 = true) : r73qa t4 t7 q0 q1 q2 q3 q4 q5 q6 q7 t8 = some (.x0 (v73qa_0_t4' t4 t7 q0 q1 q2 q3 q4 q5 q6 q7 t8) (v73qa_0_t8 t4 t7 q0 q1 q2 q3 q4 q5 q6 q7 t8)) := by
  unfold i73qa_0 at h
  unfold v73qa_0_t4' v73qa_0_t8
  generalize r73qa t4 t7 q0 q1 q2 q3 q4 q5 q6 q7 t8 = r at h ⊢
  rcases r with _ | y
  · cases h
  · cases y <;> first | rfl | cases h
theorem is73qa_1 (t4 t7 q0 q1 q2 q3 q4 q5 q6 q7 t8 : Int) (h : i73qa_1 t4 t7 q0 q1 q2 q3 q4 q5 q6 q7 t8 = true) : r73qa t4 t7 q0 q1 q2 q3 q4 q5 q6 q7 t8 = some (.x1 (v73qa_1_t8 t4 t7 q0 q1 q2 q3 q4 q5 q6 q7 t8)) := by
  unfold i73qa_1 at h
  unfold v73qa_1_t8
  generalize r73qa t4 t7 q0 q1 q2 q3 q4 q5 q6 q7 t8 = r at h ⊢
  rcases r with _ | y
  · cases h
  · cases y <;> first | rfl | cases h
theorem round73qa (t4 t7 t8 q0 q1 q2 q3 q4 q5 q6 q7 : Int) : round Try.prog SP3 (ro 19) L73q lp73qa [false, true, false, true] [(0, none), (1, none), (4, none), (7, none), (8, none)] 1 (s73qa t4 t7 t8 q0 q1 q2 q3 q4 q5 q6 q7) =
    cond (decide (t8 < t7)) (cond (inb t8 8) (cond (ctsAt (cts Try.prog 78) (0 + t8.toNat * 1) (cts Try.prog 3) && true) (cond (w74_0 (toI (([[AV.i IntKind.i64 q0, AV.i IntKind.i64 q1, AV.i IntKind.i64 q2, AV.i IntKind.i64 q3, AV.i IntKind.i64 q4, AV.i IntKind.i64 q5, AV.i IntKind.i64 q6, AV.i IntKind.i64 q7]].getD 0 []).getD (0 + t8.toNat * 1) AV.u))) (some (.ret, o73qa_0 t4 t7 q0 q1 q2 q3 q4 q5 q6 q7 t8 t8)) (some (.nrm, s73qa t4 t7 (IntKind.i64.wrap (t8 + 1)) q0 q1 q2 q3 q4 q5 q6 q7))) (none)) (none)) (some (.ext 0, o73qa_1 t4 t7 q0 q1 q2 q3 q4 q5 q6 q7 t8)) := by kernel_rfl
theorem rnd73qa (t4 t7 q0 q1 q2 q3 q4 q5 q6 q7 : Int) (x : S73qa) : round Try.prog SP3 (ro 19) L73q lp73qa [false, true, false, true] [(0, none), (1, none), (4, none), (7, none), (8, none)] 1 ((fun x => s73qa t4 t7 x.t8 q0 q1 q2 q3 q4 q5 q6 q7) x) = toR (fun x => s73qa t4 t7 x.t8 q0 q1 q2 q3 q4 q5 q6 q7) (ou73qa t4 t7 q0 q1 q2 q3 q4 q5 q6 q7) (stp73qa t4 t7 q0 q1 q2 q3 q4 q5 q6 q7 x.t8) := by
  refine (round73qa _ _ _ _ _ _ _ _ _ _ _ ).trans ?_
  unfold stp73qa
  simp only [toR_cond]
  rfl
theorem lok73qa {st : St} {outs : List (Bool × Ex × St)} {e : Ex} {s : St} (hl : l73qa st = some outs) (hch : Chosen outs e s) :
    ∃ keep nb, 1 ≤ nb ∧ LB Try.prog SP3 (ro 19) L73q lp73qa [false, true, false, true] keep nb st e s := by
  unfold l73qa at hl
  split at hl
  · rename_i t4 t7 t8 q0 q1 q2 q3 q4 q5 q6 q7 hno
    cases hl
    have hno := normW_norm hno
    refine ⟨_, _, ?_, .enter hno ?_⟩
    · decide
    have main := fun y h => LB_run (x := (⟨t8⟩ : S73qa)) (y := y) (nb := 1) (fun y => by cases y <;> simp [ou73qa]) (rnd73qa t4 t7 q0 q1 q2 q3 q4 q5 q6 q7) h
    obtain ⟨x, hx, hg, rfl, rfl⟩ := chosen_any hch
    simp only [List.mem_cons, List.not_mem_nil, or_false] at hx
    rcases hx with rfl | rfl
    · exact main _ (is73qa_0 t4 t7 q0 q1 q2 q3 q4 q5 q6 q7 t8 hg)
    · exact main _ (is73qa_1 t4 t7 q0 q1 q2 q3 q4 q5 q6 q7 t8 hg)
  · cases hl
theorem L73q_ok (q : Pl) (c : Code) (hq : locate c73q q.reverse = some (.loop c)) (st : St) (outs : List (Bool × Ex × St)) (e : Ex) (s : St) (hl : L73q q st = some outs) (hch : Chosen outs e s) :
    ∃ keep nb, 1 ≤ nb ∧ LB Try.prog SP3 (ro 19) L73q c q keep nb st e s := by
  unfold L73q at hl
  split at hl
  · have : locate c73q ([false, true, false, true] : Pl).reverse = some (.loop lp73qa) := by kernel_rfl
    rw [this] at hq
    cases hq
    exact lok73qa hl hch
  · cases hl
theorem lok73q : LOK Try.prog SP3 (ro 19) L73q 1 false c73q [] :=
  lok_lo L73q_ok c73q [] false (locate_nil _) (by kernel_rfl)
noncomputable def t73q (q0 q1 q2 q3 q4 q5 q6 q7 : Int) : Tr ((Int) × (Int) × (Int) × (Int) × (Int) × (Int) × (Int) × (Int) × (Int)) :=
  .cn (i73qa_0 0 (↑8 : Int) q0 q1 q2 q3 q4 q5 q6 q7 0) (.lf (v73qa_0_t4' 0 (↑8 : Int) q0 q1 q2 q3 q4 q5 q6 q7 0, q0, q1, q2, q3, q4, q5, q6, q7)) (.cn (i73qa_1 0 (↑8 : Int) q0 q1 q2 q3 q4 q5 q6 q7 0) (.lf (-1, q0, q1, q2, q3, q4, q5, q6, q7)) (.nn))
noncomputable def g73q (q0 q1 q2 q3 q4 q5 q6 q7 : Int) : Bool := (t73q q0 q1 q2 q3 q4 q5 q6 q7).g
noncomputable def w73q_0 (q0 q1 q2 q3 q4 q5 q6 q7 : Int) : Int := (t73q q0 q1 q2 q3 q4 q5 q6 q7).val.1
noncomputable def w73q_1 (q0 q1 q2 q3 q4 q5 q6 q7 : Int) : Int := (t73q q0 q1 q2 q3 q4 q5 q6 q7).val.2.1
noncomputable def w73q_2 (q0 q1 q2 q3 q4 q5 q6 q7 : Int) : Int := (t73q q0 q1 q2 q3 q4 q5 q6 q7).val.2.2.1
noncomputable def w73q_3 (q0 q1 q2 q3 q4 q5 q6 q7 : Int) : Int := (t73q q0 q1 q2 q3 q4 q5 q6 q7).val.2.2.2.1
noncomputable def w73q_4 (q0 q1 q2 q3 q4 q5 q6 q7 : Int) : Int := (t73q q0 q1 q2 q3 q4 q5 q6 q7).val.2.2.2.2.1
noncomputable def w73q_5 (q0 q1 q2 q3 q4 q5 q6 q7 : Int) : Int := (t73q q0 q1 q2 q3 q4 q5 q6 q7).val.2.2.2.2.2.1
noncomputable def w73q_6 (q0 q1 q2 q3 q4 q5 q6 q7 : Int) : Int := (t73q q0 q1 q2 q3 q4 q5 q6 q7).val.2.2.2.2.2.2.1
noncomputable def w73q_7 (q0 q1 q2 q3 q4 q5 q6 q7 : Int) : Int := (t73q q0 q1 q2 q3 q4 q5 q6 q7).val.2.2.2.2.2.2.2.1
noncomputable def w73q_8 (q0 q1 q2 q3 q4 q5 q6 q7 : Int) : Int := (t73q q0 q1 q2 q3 q4 q5 q6 q7).val.2.2.2.2.2.2.2.2
theorem eq73q (q0 q1 q2 q3 q4 q5 q6 q7 : Int) : evM Try.prog SP3 (ro 19) L73q Try.f19 [.sa 0 0 0 8, .fn 20 []] [.row 78 [[.i .i64 q0, .i .i64 q1, .i .i64 q2, .i .i64 q3, .i .i64 q4, .i .i64 q5, .i .i64 q6, .i .i64 q7]]] = (t73q q0 q1 q2 q3 q4 q5 q6 q7).opt (fun (x : (Int) × (Int) × (Int) × (Int) × (Int) × (Int) × (Int) × (Int) × (Int)) => ((.i .i64 x.1, [.row 78 [[.i .i64 x.2.1, .i .i64 x.2.2.1, .i .i64 x.2.2.2.1, .i .i64 x.2.2.2.2.1, .i .i64 x.2.2.2.2.2.1, .i .i64 x.2.2.2.2.2.2.1, .i .i64 x.2.2.2.2.2.2.2.1, .i .i64 x.2.2.2.2.2.2.2.2]]]) : AV × List Blk)) := by kernel_rfl
theorem con73q (q0 q1 q2 q3 q4 q5 q6 q7 : Int) (h : g73q q0 q1 q2 q3 q4 q5 q6 q7 = true) : Con Try.prog 19 [.sa 0 0 0 8, .fn 20 []] [.row 78 [[.i .i64 q0, .i .i64 q1, .i .i64 q2, .i .i64 q3, .i .i64 q4, .i .i64 q5, .i .i64 q6, .i .i64 q7]]] (.i .i64 (w73q_0 q0 q1 q2 q3 q4 q5 q6 q7)) [.row 78 [[.i .i64 (w73q_1 q0 q1 q2 q3 q4 q5 q6 q7), .i .i64 (w73q_2 q0 q1 q2 q3 q4 q5 q6 q7), .i .i64 (w73q_3 q0 q1 q2 q3 q4 q5 q6 q7), .i .i64 (w73q_4 q0 q1 q2 q3 q4 q5 q6 q7), .i .i64 (w73q_5 q0 q1 q2 q3 q4 q5 q6 q7), .i .i64 (w73q_6 q0 q1 q2 q3 q4 q5 q6 q7), .i .i64 (w73q_7 q0 q1 q2 q3 q4 q5 q6 q7), .i .i64 (w73q_8 q0 q1 q2 q3 q4 q5 q6 q7)]]] :=
  con_ofM SP3_ok mixed Try.func19 (c := c73q) rfl (names 19 _ Try.func19) lok73q ((eq73q q0 q1 q2 q3 q4 q5 q6 q7).trans (Tr.sound _ _ h))
noncomputable def e73q (args : List AV) (rows : List Blk) : Option (Bool × AV × List Blk) := match args, rows with
  | [.sa 0 0 0 8, .fn 20 []], [.row 78 [[.i .i64 q0, .i .i64 q1, .i .i64 q2, .i .i64 q3, .i .i64 q4, .i .i64 q5, .i .i64 q6, .i .i64 q7]]] => some (g73q q0 q1 q2 q3 q4 q5 q6 q7, .i .i64 (w73q_0 q0 q1 q2 q3 q4 q5 q6 q7), [.row 78 [[.i .i64 (w73q_1 q0 q1 q2 q3 q4 q5 q6 q7), .i .i64 (w73q_2 q0 q1 q2 q3 q4 q5 q6 q7), .i .i64 (w73q_3 q0 q1 q2 q3 q4 q5 q6 q7), .i .i64 (w73q_4 q0 q1 q2 q3 q4 q5 q6 q7), .i .i64 (w73q_5 q0 q1 q2 q3 q4 q5 q6 q7), .i .i64 (w73q_6 q0 q1 q2 q3 q4 q5 q6 q7), .i .i64 (w73q_7 q0 q1 q2 q3 q4 q5 q6 q7), .i .i64 (w73q_8 q0 q1 q2 q3 q4 q5 q6 q7)]]])
  | _, _ => none
theorem e73q_ok (args : List AV) (rows : List Blk) (pre : Bool) (v : AV) (rows' : List Blk) (h : e73q args rows = some (pre, v, rows')) (hp : pre = true) : Con Try.prog 19 args rows v rows' := by
  unfold e73q at h
  split at h
  · cases h; exact con73q _ _ _ _ _ _ _ _ hp
  · cases h
-- SPEC 73
end Go.Proofs.Ytkdiaipaajgcbaa

set_option maxRecDepth 100000
set_option linter.unusedVariables false
namespace Go.Proofs.Ytkdiaipaajgcbaa
open Go Go.Ev
abbrev PS := List (List AV)
abbrev Mp := List (AV × AV)
abbrev FT := Int → Int → Int → PS → Int → Int → Int → PS → Int → Int → Mp → Int × Mp
abbrev GT := Int → Int → Int → PS → Int → Int → Int → PS → Int → Int → Mp → Bool
def rpRi (ra rb rc : Int) (ps : PS) : AV := .rp [.int .i64, .int .i64, .int .i64, .sl 101] [.i .i64 ra, .i .i64 rb, .i .i64 rc, .rs 101 ps] 0
def fn68 (ra rb rc : Int) (ps : PS) : AV := .fn 68 [.rp [.int .i64, .int .i64, .int .i64, .sl 101] [.i .i64 ra, .i .i64 rb, .i .i64 rc, .rs 101 ps] 0, .p 0 0 0, .p 1 0 0]
def rowsE (ra rb rc : Int) (ps : PS) (m : Mp) : List Blk := [.row 94 [[.mp 2]], .row 96 [[fn68 ra rb rc ps]], .mp 98 3 m]
class LF where
  F : FT
  G : GT
  ok : ∀ ra rb rc ps ra' rb' rc' ps' w p m, G ra rb rc ps ra' rb' rc' ps' w p m = true → Con Try.prog 68 [.agg [.i .i64 w, .i .i64 p], rpRi ra rb rc ps, .p 0 0 0, .p 1 0 0] (rowsE ra' rb' rc' ps' m) (.i .i64 (F ra rb rc ps ra' rb' rc' ps' w p m).1) (rowsE ra' rb' rc' ps' (F ra rb rc ps ra' rb' rc' ps' w p m).2)
class LG where
  F : FT
  G : GT
  ok : ∀ ra rb rc ps ra' rb' rc' ps' w p m, G ra rb rc ps ra' rb' rc' ps' w p m = true → Con Try.prog 69 [.p 0 0 0, .agg [.i .i64 w, .i .i64 p], fn68 ra rb rc ps] (rowsE ra' rb' rc' ps' m) (.i .i64 (F ra rb rc ps ra' rb' rc' ps' w p m).1) (rowsE ra' rb' rc' ps' (F ra rb rc ps ra' rb' rc' ps' w p m).2)
end Go.Proofs.Ytkdiaipaajgcbaa

set_option maxRecDepth 100000
set_option linter.unusedVariables false
namespace Go.Proofs.Ytkdiaipaajgcbaa
open Go Go.Ev
abbrev FP := Int → Int → PS → Int → Int → PS → Int → Int → Int → Int → Int → Int → Int → Int → Mp → (Nat → Int) × Mp
abbrev GP := Int → Int → PS → Int → Int → PS → Int → Int → Int → Int → Int → Int → Int → Int → Mp → Bool
class LP where
  F : FP
  G : GP
  ok : ∀ da db cs da' db' cs' q0 q1 q2 q3 q4 q5 q6 q7 m, G da db cs da' db' cs' q0 q1 q2 q3 q4 q5 q6 q7 m = true → Con Try.prog 18 [.agg [.i .i64 q0, .i .i64 q1, .i .i64 q2, .i .i64 q3, .i .i64 q4, .i .i64 q5, .i .i64 q6, .i .i64 q7], .rp [.int .i64, .int .i64, .sl 44] [.i .i64 da, .i .i64 db, .rs 44 cs] 0, .p 0 0 0, .p 1 0 0] [.row 75 [[.mp 2]], .row 76 [[.fn 18 [.rp [.int .i64, .int .i64, .sl 44] [.i .i64 da', .i .i64 db', .rs 44 cs'] 0, .p 0 0 0, .p 1 0 0]]], .mp 78 80 m] (.agg [.i .i64 ((F da db cs da' db' cs' q0 q1 q2 q3 q4 q5 q6 q7 m).1 0), .i .i64 ((F da db cs da' db' cs' q0 q1 q2 q3 q4 q5 q6 q7 m).1 1), .i .i64 ((F da db cs da' db' cs' q0 q1 q2 q3 q4 q5 q6 q7 m).1 2), .i .i64 ((F da db cs da' db' cs' q0 q1 q2 q3 q4 q5 q6 q7 m).1 3), .i .i64 ((F da db cs da' db' cs' q0 q1 q2 q3 q4 q5 q6 q7 m).1 4), .i .i64 ((F da db cs da' db' cs' q0 q1 q2 q3 q4 q5 q6 q7 m).1 5), .i .i64 ((F da db cs da' db' cs' q0 q1 q2 q3 q4 q5 q6 q7 m).1 6), .i .i64 ((F da db cs da' db' cs' q0 q1 q2 q3 q4 q5 q6 q7 m).1 7), .i .i64 ((F da db cs da' db' cs' q0 q1 q2 q3 q4 q5 q6 q7 m).1 8)]) [.row 75 [[.mp 2]], .row 76 [[.fn 18 [.rp [.int .i64, .int .i64, .sl 44] [.i .i64 da', .i .i64 db', .rs 44 cs'] 0, .p 0 0 0, .p 1 0 0]]], .mp 78 80 (F da db cs da' db' cs' q0 q1 q2 q3 q4 q5 q6 q7 m).2]
class LQ where
  F : FP
  G : GP
  ok : ∀ da db cs da' db' cs' q0 q1 q2 q3 q4 q5 q6 q7 m, G da db cs da' db' cs' q0 q1 q2 q3 q4 q5 q6 q7 m = true → Con Try.prog 22 [.p 0 0 0, .agg [.i .i64 q0, .i .i64 q1, .i .i64 q2, .i .i64 q3, .i .i64 q4, .i .i64 q5, .i .i64 q6, .i .i64 q7], .fn 18 [.rp [.int .i64, .int .i64, .sl 44] [.i .i64 da, .i .i64 db, .rs 44 cs] 0, .p 0 0 0, .p 1 0 0]] [.row 75 [[.mp 2]], .row 76 [[.fn 18 [.rp [.int .i64, .int .i64, .sl 44] [.i .i64 da', .i .i64 db', .rs 44 cs'] 0, .p 0 0 0, .p 1 0 0]]], .mp 78 80 m] (.agg [.i .i64 ((F da db cs da' db' cs' q0 q1 q2 q3 q4 q5 q6 q7 m).1 0), .i .i64 ((F da db cs da' db' cs' q0 q1 q2 q3 q4 q5 q6 q7 m).1 1), .i .i64 ((F da db cs da' db' cs' q0 q1 q2 q3 q4 q5 q6 q7 m).1 2), .i .i64 ((F da db cs da' db' cs' q0 q1 q2 q3 q4 q5 q6 q7 m).1 3), .i .i64 ((F da db cs da' db' cs' q0 q1 q2 q3 q4 q5 q6 q7 m).1 4), .i .i64 ((F da db cs da' db' cs' q0 q1 q2 q3 q4 q5 q6 q7 m).1 5), .i .i64 ((F da db cs da' db' cs' q0 q1 q2 q3 q4 q5 q6 q7 m).1 6), .i .i64 ((F da db cs da' db' cs' q0 q1 q2 q3 q4 q5 q6 q7 m).1 7), .i .i64 ((F da db cs da' db' cs' q0 q1 q2 q3 q4 q5 q6 q7 m).1 8)]) [.row 75 [[.mp 2]], .row 76 [[.fn 18 [.rp [.int .i64, .int .i64, .sl 44] [.i .i64 da', .i .i64 db', .rs 44 cs'] 0, .p 0 0 0, .p 1 0 0]]], .mp 78 80 (F da db cs da' db' cs' q0 q1 q2 q3 q4 q5 q6 q7 m).2]
noncomputable def eLP [LP] (args : List AV) (rows : List Blk) : Option (Bool × AV × List Blk) := match args, rows with
  | [.agg [.i .i64 q0, .i .i64 q1, .i .i64 q2, .i .i64 q3, .i .i64 q4, .i .i64 q5, .i .i64 q6, .i .i64 q7], .rp [.int .i64, .int .i64, .sl 44] [.i .i64 da, .i .i64 db, .rs 44 cs] 0, .p 0 0 0, .p 1 0 0], [.row 75 [[.mp 2]], .row 76 [[.fn 18 [.rp [.int .i64, .int .i64, .sl 44] [.i .i64 da', .i .i64 db', .rs 44 cs'] 0, .p 0 0 0, .p 1 0 0]]], .mp 78 80 m] => some (LP.G da db cs da' db' cs' q0 q1 q2 q3 q4 q5 q6 q7 m, .agg [.i .i64 ((LP.F da db cs da' db' cs' q0 q1 q2 q3 q4 q5 q6 q7 m).1 0), .i .i64 ((LP.F da db cs da' db' cs' q0 q1 q2 q3 q4 q5 q6 q7 m).1 1), .i .i64 ((LP.F da db cs da' db' cs' q0 q1 q2 q3 q4 q5 q6 q7 m).1 2), .i .i64 ((LP.F da db cs da' db' cs' q0 q1 q2 q3 q4 q5 q6 q7 m).1 3), .i .i64 ((LP.F da db cs da' db' cs' q0 q1 q2 q3 q4 q5 q6 q7 m).1 4), .i .i64 ((LP.F da db cs da' db' cs' q0 q1 q2 q3 q4 q5 q6 q7 m).1 5), .i .i64 ((LP.F da db cs da' db' cs' q0 q1 q2 q3 q4 q5 q6 q7 m).1 6), .i .i64 ((LP.F da db cs da' db' cs' q0 q1 q2 q3 q4 q5 q6 q7 m).1 7), .i .i64 ((LP.F da db cs da' db' cs' q0 q1 q2 q3 q4 q5 q6 q7 m).1 8)], [.row 75 [[.mp 2]], .row 76 [[.fn 18 [.rp [.int .i64, .int .i64, .sl 44] [.i .i64 da', .i .i64 db', .rs 44 cs'] 0, .p 0 0 0, .p 1 0 0]]], .mp 78 80 (LP.F da db cs da' db' cs' q0 q1 q2 q3 q4 q5 q6 q7 m).2])
  | _, _ => none
theorem eLP_ok [LP] (args : List AV) (rows : List Blk) (pre : Bool) (v : AV) (rows' : List Blk) (h : eLP args rows = some (pre, v, rows')) (hp : pre = true) : Con Try.prog 18 args rows v rows' := by
  unfold eLP at h
  split at h
  · cases h; exact LP.ok _ _ _ _ _ _ _ _ _ _ _ _ _ _ _  hp
  · cases h
noncomputable def eLQ [LQ] (args : List AV) (rows : List Blk) : Option (Bool × AV × List Blk) := match args, rows with
  | [.p 0 0 0, .agg [.i .i64 q0, .i .i64 q1, .i .i64 q2, .i .i64 q3, .i .i64 q4, .i .i64 q5, .i .i64 q6, .i .i64 q7], .fn 18 [.rp [.int .i64, .int .i64, .sl 44] [.i .i64 da, .i .i64 db, .rs 44 cs] 0, .p 0 0 0, .p 1 0 0]], [.row 75 [[.mp 2]], .row 76 [[.fn 18 [.rp [.int .i64, .int .i64, .sl 44] [.i .i64 da', .i .i64 db', .rs 44 cs'] 0, .p 0 0 0, .p 1 0 0]]], .mp 78 80 m] => some (LQ.G da db cs da' db' cs' q0 q1 q2 q3 q4 q5 q6 q7 m, .agg [.i .i64 ((LQ.F da db cs da' db' cs' q0 q1 q2 q3 q4 q5 q6 q7 m).1 0), .i .i64 ((LQ.F da db cs da' db' cs' q0 q1 q2 q3 q4 q5 q6 q7 m).1 1), .i .i64 ((LQ.F da db cs da' db' cs' q0 q1 q2 q3 q4 q5 q6 q7 m).1 2), .i .i64 ((LQ.F da db cs da' db' cs' q0 q1 q2 q3 q4 q5 q6 q7 m).1 3), .i .i64 ((LQ.F da db cs da' db' cs' q0 q1 q2 q3 q4 q5 q6 q7 m).1 4), .i .i64 ((LQ.F da db cs da' db' cs' q0 q1 q2 q3 q4 q5 q6 q7 m).1 5), .i .i64 ((LQ.F da db cs da' db' cs' q0 q1 q2 q3 q4 q5 q6 q7 m).1 6), .i .i64 ((LQ.F da db cs da' db' cs' q0 q1 q2 q3 q4 q5 q6 q7 m).1 7), .i .i64 ((LQ.F da db cs da' db' cs' q0 q1 q2 q3 q4 q5 q6 q7 m).1 8)], [.row 75 [[.mp 2]], .row 76 [[.fn 18 [.rp [.int .i64, .int .i64, .sl 44] [.i .i64 da', .i .i64 db', .rs 44 cs'] 0, .p 0 0 0, .p 1 0 0]]], .mp 78 80 (LQ.F da db cs da' db' cs' q0 q1 q2 q3 q4 q5 q6 q7 m).2])
  | _, _ => none
theorem eLQ_ok [LQ] (args : List AV) (rows : List Blk) (pre : Bool) (v : AV) (rows' : List Blk) (h : eLQ args rows = some (pre, v, rows')) (hp : pre = true) : Con Try.prog 22 args rows v rows' := by
  unfold eLQ at h
  split at h
  · cases h; exact LQ.ok _ _ _ _ _ _ _ _ _ _ _ _ _ _ _  hp
  · cases h
noncomputable def SLP [LP] : Ev.Spec := insS 18 eLP S0
theorem SLP_ok [LP] : SpecOK Try.prog SLP := insS_ok eLP_ok S0_ok
end Go.Proofs.Ytkdiaipaajgcbaa

set_option maxRecDepth 100000
set_option linter.unusedVariables false
namespace Go.Proofs.Ytkdiaipaajgcbaa
open Go Go.Ev
noncomputable def SP2 [LQ] : Ev.Spec := insS 22 eLQ (insS 21 e75 (insS 19 e73q S0))
theorem SP2_ok [LQ] : SpecOK Try.prog SP2 := insS_ok eLQ_ok (insS_ok e75_ok (insS_ok e73q_ok S0_ok))
def ro72 (t : Nat) : Bool := cond (Nat.beq t 4) false (ro 18 t)
end Go.Proofs.Ytkdiaipaajgcbaa

set_option maxRecDepth 100000
set_option maxHeartbeats 0
set_option linter.unusedVariables false
namespace Go.Proofs.Ytkdiaipaajgcbaa
open Go Go.Ev

noncomputable def c72 : Code := match Try.f18.body with | some c => c | _ => .skip
noncomputable def as72a : Code := rangeA c72 [true, true, true, true, false, true, false]
noncomputable def bd72a : Code := rangeB c72 [true, true, true, true, false, true, false]
noncomputable def s72a (t21_0 t21_1 : Int) (t21_2 : List (List AV)) (t21_3 t21_4 t21_5 t21_6 t21_7 t21_8 t21_9 t21_10 m1_0 m1_1 : Int) (m1_2 : List (List AV)) (m : List (AV × AV)) (m3_0 m3_1 m3_2 m3_3 m3_4 m3_5 m3_6 m3_7 m4_0 m4_1 m4_2 m4_3 m4_4 m4_5 m4_6 m4_7 m4_8 m7 m12_0 m12_1 m12_2 m12_3 m12_4 m12_5 m12_6 m12_7 m12_8 : Int) : St :=
  { t := [(2, .p 0 0 0), (3, .p 1 0 0), (4, .p 3 0 0), (5, .p 4 0 0), (6, .p 7 0 0), (7, .p 12 0 0), (21, .fn 39 [.rp [.int .i64, .int .i64, .sl 44] [.i .i64 t21_0, .i .i64 t21_1, .rs 44 t21_2] 0, .rp [.int .i64, .int .i64, .int .i64, .int .i64, .int .i64, .int .i64, .int .i64, .int .i64] [.i .i64 t21_3, .i .i64 t21_4, .i .i64 t21_5, .i .i64 t21_6, .i .i64 t21_7, .i .i64 t21_8, .i .i64 t21_9, .i .i64 t21_10] 0])], m := [(0, .row 75 [[.mp 2]]), (1, .row 76 [[.fn 18 [.rp [.int .i64, .int .i64, .sl 44] [.i .i64 m1_0, .i .i64 m1_1, .rs 44 m1_2] 0, .p 0 0 0, .p 1 0 0]]]), (2, .mp 78 80 m), (3, .row 78 [[.i .i64 m3_0, .i .i64 m3_1, .i .i64 m3_2, .i .i64 m3_3, .i .i64 m3_4, .i .i64 m3_5, .i .i64 m3_6, .i .i64 m3_7]]), (4, .row 80 [[.i .i64 m4_0, .i .i64 m4_1, .i .i64 m4_2, .i .i64 m4_3, .i .i64 m4_4, .i .i64 m4_5, .i .i64 m4_6, .i .i64 m4_7, .i .i64 m4_8]]), (5, .dead), (6, .dead), (7, .row 3 [[.i .i64 m7]]), (8, .dead), (9, .dead), (10, .dead), (11, .dead), (12, .row 80 [[.i .i64 m12_0, .i .i64 m12_1, .i .i64 m12_2, .i .i64 m12_3, .i .i64 m12_4, .i .i64 m12_5, .i .i64 m12_6, .i .i64 m12_7, .i .i64 m12_8]]), (13, .dead), (14, .dead), (15, .dead), (16, .dead)], nx := 17, nt := 53 }
noncomputable def lp72aa : Code := loopAt c72 [true, true, true, true, false, true, false, true, false, true, true, false, true, false]
noncomputable def s72aa (t28_0 t28_1 t28_2 t28_3 t28_4 t28_5 t28_6 t28_7 t29 m1_0 m1_1 : Int) (m1_2 : List (List AV)) (m : List (AV × AV)) (m3_0 m3_1 m3_2 m3_3 m3_4 m3_5 m3_6 m3_7 m4_0 m4_1 m4_2 m4_3 m4_4 m4_5 m4_6 m4_7 m4_8 m7 m12_0 m12_1 m12_2 m12_3 m12_4 m12_5 m12_6 m12_7 m12_8 m17_0 m17_1 m17_2 m17_3 m17_4 m17_5 m17_6 m17_7 : Int) (m24 : List AV) : St :=
  { t := [(2, .p 0 0 0), (3, .p 1 0 0), (5, .p 4 0 0), (7, .p 12 0 0), (8, .p 17 0 0), (9, .p 24 0 0), (28, .agg [.i .i64 t28_0, .i .i64 t28_1, .i .i64 t28_2, .i .i64 t28_3, .i .i64 t28_4, .i .i64 t28_5, .i .i64 t28_6, .i .i64 t28_7]), (29, .i .i64 t29)], m := [(0, .row 75 [[.mp 2]]), (1, .row 76 [[.fn 18 [.rp [.int .i64, .int .i64, .sl 44] [.i .i64 m1_0, .i .i64 m1_1, .rs 44 m1_2] 0, .p 0 0 0, .p 1 0 0]]]), (2, .mp 78 80 m), (3, .row 78 [[.i .i64 m3_0, .i .i64 m3_1, .i .i64 m3_2, .i .i64 m3_3, .i .i64 m3_4, .i .i64 m3_5, .i .i64 m3_6, .i .i64 m3_7]]), (4, .row 80 [[.i .i64 m4_0, .i .i64 m4_1, .i .i64 m4_2, .i .i64 m4_3, .i .i64 m4_4, .i .i64 m4_5, .i .i64 m4_6, .i .i64 m4_7, .i .i64 m4_8]]), (5, .dead), (6, .dead), (7, .row 3 [[.i .i64 m7]]), (8, .dead), (9, .dead), (10, .dead), (11, .dead), (12, .row 80 [[.i .i64 m12_0, .i .i64 m12_1, .i .i64 m12_2, .i .i64 m12_3, .i .i64 m12_4, .i .i64 m12_5, .i .i64 m12_6, .i .i64 m12_7, .i .i64 m12_8]]), (13, .dead), (14, .dead), (15, .dead), (16, .dead), (17, .row 78 [[.i .i64 m17_0, .i .i64 m17_1, .i .i64 m17_2, .i .i64 m17_3, .i .i64 m17_4, .i .i64 m17_5, .i .i64 m17_6, .i .i64 m17_7]]), (18, .dead), (19, .dead), (20, .dead), (21, .dead), (22, .dead), (23, .dead), (24, .row 78 [m24]), (25, .dead), (26, .dead), (27, .dead)], nx := 28, nt := 53 }
structure S72aa where
  t29 : Int
  m24 : List AV
inductive T72aa where
  | x0 (t29 : Int) (m24 : List AV)
noncomputable def stp72aa (t28_0 t28_1 t28_2 t28_3 t28_4 t28_5 t28_6 t28_7 m1_0 m1_1 : Int) (m1_2 : List (List AV)) (m : List (AV × AV)) (m3_0 m3_1 m3_2 m3_3 m3_4 m3_5 m3_6 m3_7 m4_0 m4_1 m4_2 m4_3 m4_4 m4_5 m4_6 m4_7 m4_8 m7 m12_0 m12_1 m12_2 m12_3 m12_4 m12_5 m12_6 m12_7 m12_8 m17_0 m17_1 m17_2 m17_3 m17_4 m17_5 m17_6 m17_7 t29 : Int) (m24 : List AV) : Lp S72aa T72aa :=
  cond (decide (t29 < 8)) (cond (intsOf IntKind.i64 [AV.i IntKind.i64 t28_0, AV.i IntKind.i64 t28_1, AV.i IntKind.i64 t28_2, AV.i IntKind.i64 t28_3, AV.i IntKind.i64 t28_4, AV.i IntKind.i64 t28_5, AV.i IntKind.i64 t28_6, AV.i IntKind.i64 t28_7] && (inb t29 8 && inb t29 [AV.i IntKind.i64 t28_0, AV.i IntKind.i64 t28_1, AV.i IntKind.i64 t28_2, AV.i IntKind.i64 t28_3, AV.i IntKind.i64 t28_4, AV.i IntKind.i64 t28_5, AV.i IntKind.i64 t28_6, AV.i IntKind.i64 t28_7].length)) (cond (inb t29 8) (cond (ctsAt (cts Try.prog 78) (0 + t29.toNat * 1) (cts Try.prog 3) && true) (cond (inb t29 8) (cond (ctsAt (cts Try.prog 78) (0 + t29.toNat * 1) (cts Try.prog 3) && true) (.go ⟨IntKind.i64.wrap (t29 + 1), setCs ([m24].getD 0 []) (0 + t29.toNat * 1) [AV.i IntKind.i64 (IntKind.i64.wrap (toI (([m24].getD 0 []).getD (0 + t29.toNat * 1) AV.u) - toI ([AV.i IntKind.i64 t28_0, AV.i IntKind.i64 t28_1, AV.i IntKind.i64 t28_2, AV.i IntKind.i64 t28_3, AV.i IntKind.i64 t28_4, AV.i IntKind.i64 t28_5, AV.i IntKind.i64 t28_6, AV.i IntKind.i64 t28_7].getD t29.toNat AV.u)))]⟩) (.bad)) (.bad)) (.bad)) (.bad)) (.bad)) (.out (.x0 t29 m24))
noncomputable def o72aa_0 (t28_0 t28_1 t28_2 t28_3 t28_4 t28_5 t28_6 t28_7 m1_0 m1_1 : Int) (m1_2 : List (List AV)) (m : List (AV × AV)) (m3_0 m3_1 m3_2 m3_3 m3_4 m3_5 m3_6 m3_7 m4_0 m4_1 m4_2 m4_3 m4_4 m4_5 m4_6 m4_7 m4_8 m7 m12_0 m12_1 m12_2 m12_3 m12_4 m12_5 m12_6 m12_7 m12_8 m17_0 m17_1 m17_2 m17_3 m17_4 m17_5 m17_6 m17_7 t29 : Int) (m24 : List AV) : St :=
  { t := [(2, .p 0 0 0), (3, .p 1 0 0), (5, .p 4 0 0), (7, .p 12 0 0), (8, .p 17 0 0), (9, .p 24 0 0), (28, .agg [.i .i64 t28_0, .i .i64 t28_1, .i .i64 t28_2, .i .i64 t28_3, .i .i64 t28_4, .i .i64 t28_5, .i .i64 t28_6, .i .i64 t28_7]), (29, .i .i64 t29)], m := [(0, .row 75 [[.mp 2]]), (1, .row 76 [[.fn 18 [.rp [.int .i64, .int .i64, .sl 44] [.i .i64 m1_0, .i .i64 m1_1, .rs 44 m1_2] 0, .p 0 0 0, .p 1 0 0]]]), (2, .mp 78 80 m), (3, .row 78 [[.i .i64 m3_0, .i .i64 m3_1, .i .i64 m3_2, .i .i64 m3_3, .i .i64 m3_4, .i .i64 m3_5, .i .i64 m3_6, .i .i64 m3_7]]), (4, .row 80 [[.i .i64 m4_0, .i .i64 m4_1, .i .i64 m4_2, .i .i64 m4_3, .i .i64 m4_4, .i .i64 m4_5, .i .i64 m4_6, .i .i64 m4_7, .i .i64 m4_8]]), (5, .dead), (6, .dead), (7, .row 3 [[.i .i64 m7]]), (8, .dead), (9, .dead), (10, .dead), (11, .dead), (12, .row 80 [[.i .i64 m12_0, .i .i64 m12_1, .i .i64 m12_2, .i .i64 m12_3, .i .i64 m12_4, .i .i64 m12_5, .i .i64 m12_6, .i .i64 m12_7, .i .i64 m12_8]]), (13, .dead), (14, .dead), (15, .dead), (16, .dead), (17, .row 78 [[.i .i64 m17_0, .i .i64 m17_1, .i .i64 m17_2, .i .i64 m17_3, .i .i64 m17_4, .i .i64 m17_5, .i .i64 m17_6, .i .i64 m17_7]]), (18, .dead), (19, .dead), (20, .dead), (21, .dead), (22, .dead), (23, .dead), (24, .row 78 [m24]), (25, .dead), (26, .dead), (27, .dead)], nx := 28, nt := 53 }
noncomputable def ou72aa (t28_0 t28_1 t28_2 t28_3 t28_4 t28_5 t28_6 t28_7 m1_0 m1_1 : Int) (m1_2 : List (List AV)) (m : List (AV × AV)) (m3_0 m3_1 m3_2 m3_3 m3_4 m3_5 m3_6 m3_7 m4_0 m4_1 m4_2 m4_3 m4_4 m4_5 m4_6 m4_7 m4_8 m7 m12_0 m12_1 m12_2 m12_3 m12_4 m12_5 m12_6 m12_7 m12_8 m17_0 m17_1 m17_2 m17_3 m17_4 m17_5 m17_6 m17_7 : Int) : T72aa → Ex × St
  | .x0 t29 m24 => (.ext 2, o72aa_0 t28_0 t28_1 t28_2 t28_3 t28_4 t28_5 t28_6 t28_7 m1_0 m1_1 m1_2 m m3_0 m3_1 m3_2 m3_3 m3_4 m3_5 m3_6 m3_7 m4_0 m4_1 m4_2 m4_3 m4_4 m4_5 m4_6 m4_7 m4_8 m7 m12_0 m12_1 m12_2 m12_3 m12_4 m12_5 m12_6 m12_7 m12_8 m17_0 m17_1 m17_2 m17_3 m17_4 m17_5 m17_6 m17_7 t29 m24)
noncomputable def r72aa (t28_0 t28_1 t28_2 t28_3 t28_4 t28_5 t28_6 t28_7 m1_0 m1_1 : Int) (m1_2 : List (List AV)) (m : List (AV × AV)) (m3_0 m3_1 m3_2 m3_3 m3_4 m3_5 m3_6 m3_7 m4_0 m4_1 m4_2 m4_3 m4_4 m4_5 m4_6 m4_7 m4_8 m7 m12_0 m12_1 m12_2 m12_3 m12_4 m12_5 m12_6 m12_7 m12_8 m17_0 m17_1 m17_2 m17_3 m17_4 m17_5 m17_6 m17_7 t29 : Int) (m24 : List AV) : Option T72aa := run (fun x => stp72aa t28_0 t28_1 t28_2 t28_3 t28_4 t28_5 t28_6 t28_7 m1_0 m1_1 m1_2 m m3_0 m3_1 m3_2 m3_3 m3_4 m3_5 m3_6 m3_7 m4_0 m4_1 m4_2 m4_3 m4_4 m4_5 m4_6 m4_7 m4_8 m7 m12_0 m12_1 m12_2 m12_3 m12_4 m12_5 m12_6 m12_7 m12_8 m17_0 m17_1 m17_2 m17_3 m17_4 m17_5 m17_6 m17_7 x.t29 x.m24) (⟨t29, m24⟩ : S72aa)
noncomputable def i72aa_0 (t28_0 t28_1 t28_2 t28_3 t28_4 t28_5 t28_6 t28_7 m1_0 m1_1 : Int) (m1_2 : List (List AV)) (m : List (AV × AV)) (m3_0 m3_1 m3_2 m3_3 m3_4 m3_5 m3_6 m3_7 m4_0 m4_1 m4_2 m4_3 m4_4 m4_5 m4_6 m4_7 m4_8 m7 m12_0 m12_1 m12_2 m12_3 m12_4 m12_5 m12_6 m12_7 m12_8 m17_0 m17_1 m17_2 m17_3 m17_4 m17_5 m17_6 m17_7 t29 : Int) (m24 : List AV) : Bool := match r72aa t28_0 t28_1 t28_2 t28_3 t28_4 t28_5 t28_6 t28_7 m1_0 m1_1 m1_2 m m3_0 m3_1 m3_2 m3_3 m3_4 m3_5 m3_6 m3_7 m4_0 m4_1 m4_2 m4_3 m4_4 m4_5 m4_6 m4_7 m4_8 m7 m12_0 m12_1 m12_2 m12_3 m12_4 m12_5 m12_6 m12_7 m12_8 m17_0 m17_1 m17_2 m17_3 m17_4 m17_5 m17_6 m17_7 t29 m24 with
  | some (.x0 _ _) => true
  | _ => false
noncomputable def v72aa_0_t29 (t28_0 t28_1 t28_2 t28_3 t28_4 t28_5 t28_6 t28_7 m1_0 m1_1 : Int) (m1_2 : List (List AV)) (m : List (AV × AV)) (m3_0 m3_1 m3_2 m3_3 m3_4 m3_5 m3_6 m3_7 m4_0 m4_1 m4_2 m4_3 m4_4 m4_5 m4_6 m4_7 m4_8 m7 m12_0 m12_1 m12_2 m12_3 m12_4 m12_5 m12_6 m12_7 m12_8 m17_0 m17_1 m17_2 m17_3 m17_4 m17_5 m17_6 m17_7 t29 : Int) (m24 : List AV) : Int := match r72aa t28_0 t28_1 t28_2 t28_3 t28_4 t28_5 t28_6 t28_7 m1_0 m1_1 m1_2 m m3_0 m3_1 m3_2 m3_3 m3_4 m3_5 m3_6 m3_7 m4_0 m4_1 m4_2 m4_3 m4_4 m4_5 m4_6 m4_7 m4_8 m7 m12_0 m12_1 m12_2 m12_3 m12_4 m12_5 m12_6 m12_7 m12_8 m17_0 m17_1 m17_2 m17_3 m17_4 m17_5 m17_6 m17_7 t29 m24 with
  | some (.x0 t29 _) => t29
  | _ => default
noncomputable def v72aa_0_m24 (t28_0 t28_1 t28_2 t28_3 t28_4 t28_5 t28_6 t28_7 m1_0 m1_1 : Int) (m1_2 : List (List AV)) (m : List (AV × AV)) (m3_0 m3_1 m3_2 m3_3 m3_4 m3_5 m3_6 m3_7 m4_0 m4_1 m4_2 m4_3 m4_4 m4_5 m4_6 m4_7 m4_8 m7 m12_0 m12_1 m12_2 m12_3 m12_4 m12_5 m12_6 m12_7 m12_8 m17_0 m17_1 m17_2 m17_3 m17_4 m17_5 m17_6 m17_7 t29 : Int) (m24 : List AV) : List AV := match r72aa t28_0 t28_1 t28_2 t28_3 t28_4 t28_5 t28_6 t28_7 m1_0 m1_1 m1_2 m m3_0 m3_1 m3_2 m3_3 m3_4 m3_5 m3_6 m3_7 m4_0 m4_1 m4_2 m4_3 m4_4 m4_5 m4_6 m4_7 m4_8 m7 m12_0 m12_1 m12_2 m12_3 m12_4 m12_5 m12_6 m12_7 m12_8 m17_0 m17_1 m17_2 m17_3 m17_4 m17_5 m17_6 m17_7 t29 m24 with
  | some (.x0 _ m24) => m24
  | _ => default
theorem is72aa_0 (t28_0 t28_1 t28_2 t28_3 t28_4 t28_5 t28_6 t28_7 m1_0 m1_1 : Int) (m1_2 : List (List AV)) (m : List (AV × AV)) (m3_0 m3_1 m3_2 m3_3 m3_4 m3_5 m3_6 m3_7 m4_0 m4_1 m4_2 m4_3 m4_4 m4_5 m4_6 m4_7 m4_8 m7 m12_0 m12_1 m12_2 m12_3 m12_4 m12_5 m12_6 m12_7 m12_8 m17_0 m17_1 m17_2 m17_3 m17_4 m17_5 m17_6 m17_7 t29 : Int) (m24 : List AV) (h : i72aa_0 t28_0 t28_1 t28_2 t28_3 t28_4 t28_5 t28_6 t28_7 m1_0 m1_1 m1_2 m m3_0 m3_1 m3_2 m3_3 m3_4 m3_5 m3_6 m3_7 m4_0 m4_1 m4_2 m4_3 m4_4 m4_5 m4_6 m4_7 m4_8 m7 m12_0 m12_1 m12_2 m12_3 m12_4 m12_5 m12_6 m12_7 m12_8 m17_0 m17_1 m17_2 m17_3 m17_4 m17_5 m17_6 m17_7 t29 m24 = true) : r72aa t28_0 t28_1 t28_2 t28_3 t28_4 t28_5 t28_6 t28_7 m1_0 m1_1 m1_2 m m3_0 m3_1 m3_2 m3_3 m3_4 m3_5 m3_6 m3_7 m4_0 m4_1 m4_2 m4_3 m4_4 m4_5 m4_6 m4_7 m4_8 m7 m12_0 m12_1 m12_2 m12_3 m12_4 m12_5 m12_6 m12_7 m12_8 m17_0 m17_1 m17_2 m17_3 m17_4 m17_5 m17_6 m17_7 t29 m24 = some (.x0 (v72aa_0_t29 t28_0 t28_1 t28_2 t28_3 t28_4 t28_5 t28_6 t28_7 m1_0 m1_1 m1_2 m m3_0 m3_1 m3_2 m3_3 m3_4 m3_5 m3_6 m3_7 m4_0 m4_1 m4_2 m4_3 m4_4 m4_5 m4_6 m4_7 m4_8 m7 m12_0 m12_1 m12_2 m12_3 m12_4 m12_5 m12_6 m12_7 m12_8 m17_0 m17_1 m17_2 m17_3 m17_4 m17_5 m17_6 m17_7 t29 m24) (v72aa_0_m24 t28_0 t28_1 t28_2 t28_3 t28_4 t28_5 t28_6 t28_7 m1_0 m1_1 m1_2 m m3_0 m3_1 m3_2 m3_3 m3_4 m3_5 m3_6 m3_7 m4_0 m4_1 m4_2 m4_3 m4_4 m4_5 m4_6 m4_7 m4_8 m7 m12_0 m12_1 m12_2 m12_3 m12_4 m12_5 m12_6 m12_7 m12_8 m17_0 m17_1 m17_2 m17_3 m17_4 m17_5 m17_6 m17_7 t29 m24)) := by
  unfold i72aa_0 at h
  unfold v72aa_0_t29 v72aa_0_m24
  generalize r72aa t28_0 t28_1 t28_2 t28_3 t28_4 t28_5 t28_6 t28_7 m1_0 m1_1 m1_2 m m3_0 m3_1 m3_2 m3_3 m3_4 m3_5 m3_6 m3_7 m4_0 m4_1 m4_2 m4_3 m4_4 m4_5 m4_6 m4_7 m4_8 m7 m12_0 m12_1 m12_2 m12_3 m12_4 m12_5 m12_6 m12_7 m12_8 m17_0 m17_1 m17_2 m17_3 m17_4 m17_5 m17_6 m17_7 t29 m24 = r at h ⊢
  rcases r with _ | y
  · cases h
  · cases y <;> first | rfl | cases h
variable [LQ]
noncomputable def l72aa (st : St) : Option (List (Bool × Ex × St)) := match normV Try.prog [(2, none), (3, none), (5, none), (7, none), (8, none), (9, none), (28, none), (29, none)] 28 st with
  | some ([.p 0 0 0, .p 1 0 0, .p 4 0 0, .p 12 0 0, .p 17 0 0, .p 24 0 0, .agg [.i .i64 t28_0, .i .i64 t28_1, .i .i64 t28_2, .i .i64 t28_3, .i .i64 t28_4, .i .i64 t28_5, .i .i64 t28_6, .i .i64 t28_7], .i .i64 t29], (0, .row 75 [[.mp 2]]) :: (1, .row 76 [[.fn 18 [.rp [.int .i64, .int .i64, .sl 44] [.i .i64 m1_0, .i .i64 m1_1, .rs 44 m1_2] 0, .p 0 0 0, .p 1 0 0]]]) :: (2, .mp 78 80 m) :: (3, .row 78 [[.i .i64 m3_0, .i .i64 m3_1, .i .i64 m3_2, .i .i64 m3_3, .i .i64 m3_4, .i .i64 m3_5, .i .i64 m3_6, .i .i64 m3_7]]) :: (4, .row 80 [[.i .i64 m4_0, .i .i64 m4_1, .i .i64 m4_2, .i .i64 m4_3, .i .i64 m4_4, .i .i64 m4_5, .i .i64 m4_6, .i .i64 m4_7, .i .i64 m4_8]]) :: (5, .dead) :: (6, .dead) :: (7, .row 3 [[.i .i64 m7]]) :: (8, .dead) :: (9, .dead) :: (10, .dead) :: (11, .dead) :: (12, .row 80 [[.i .i64 m12_0, .i .i64 m12_1, .i .i64 m12_2, .i .i64 m12_3, .i .i64 m12_4, .i .i64 m12_5, .i .i64 m12_6, .i .i64 m12_7, .i .i64 m12_8]]) :: (13, .dead) :: (14, .dead) :: (15, .dead) :: (16, .dead) :: (17, .row 78 [[.i .i64 m17_0, .i .i64 m17_1, .i .i64 m17_2, .i .i64 m17_3, .i .i64 m17_4, .i .i64 m17_5, .i .i64 m17_6, .i .i64 m17_7]]) :: (18, .dead) :: (19, .dead) :: (20, .dead) :: (21, .dead) :: (22, .dead) :: (23, .dead) :: (24, .row 78 [m24]) :: (25, .dead) :: (26, .dead) :: (27, .dead) :: [], 28, 53) => some [(i72aa_0 t28_0 t28_1 t28_2 t28_3 t28_4 t28_5 t28_6 t28_7 m1_0 m1_1 m1_2 m m3_0 m3_1 m3_2 m3_3 m3_4 m3_5 m3_6 m3_7 m4_0 m4_1 m4_2 m4_3 m4_4 m4_5 m4_6 m4_7 m4_8 m7 m12_0 m12_1 m12_2 m12_3 m12_4 m12_5 m12_6 m12_7 m12_8 m17_0 m17_1 m17_2 m17_3 m17_4 m17_5 m17_6 m17_7 t29 m24, .ext 2, o72aa_0 t28_0 t28_1 t28_2 t28_3 t28_4 t28_5 t28_6 t28_7 m1_0 m1_1 m1_2 m m3_0 m3_1 m3_2 m3_3 m3_4 m3_5 m3_6 m3_7 m4_0 m4_1 m4_2 m4_3 m4_4 m4_5 m4_6 m4_7 m4_8 m7 m12_0 m12_1 m12_2 m12_3 m12_4 m12_5 m12_6 m12_7 m12_8 m17_0 m17_1 m17_2 m17_3 m17_4 m17_5 m17_6 m17_7 (v72aa_0_t29 t28_0 t28_1 t28_2 t28_3 t28_4 t28_5 t28_6 t28_7 m1_0 m1_1 m1_2 m m3_0 m3_1 m3_2 m3_3 m3_4 m3_5 m3_6 m3_7 m4_0 m4_1 m4_2 m4_3 m4_4 m4_5 m4_6 m4_7 m4_8 m7 m12_0 m12_1 m12_2 m12_3 m12_4 m12_5 m12_6 m12_7 m12_8 m17_0 m17_1 m17_2 m17_3 m17_4 m17_5 m17_6 m17_7 t29 m24) (v72aa_0_m24 t28_0 t28_1 t28_2 t28_3 t28_4 t28_5 t28_6 t28_7 m1_0 m1_1 m1_2 m m3_0 m3_1 m3_2 m3_3 m3_4 m3_5 m3_6 m3_7 m4_0 m4_1 m4_2 m4_3 m4_4 m4_5 m4_6 m4_7 m4_8 m7 m12_0 m12_1 m12_2 m12_3 m12_4 m12_5 m12_6 m12_7 m12_8 m17_0 m17_1 m17_2 m17_3 m17_4 m17_5 m17_6 m17_7 t29 m24))]
  | _ => none
structure S72a where
  m : List (AV × AV)
  m12_0 : Int
  m12_1 : Int
  m12_2 : Int
  m12_3 : Int
  m12_4 : Int
  m12_5 : Int
  m12_6 : Int
  m12_7 : Int
  m12_8 : Int
inductive T72a where
noncomputable def R72 (m1_0 m1_1 : Int) (m1_2 : List (List AV)) (m : List (AV × AV)) (m3_0 m3_1 m3_2 m3_3 m3_4 m3_5 m3_6 m3_7 m4_0 m4_1 m4_2 m4_3 m4_4 m4_5 m4_6 m4_7 m4_8 m7 m12_0 m12_1 m12_2 m12_3 m12_4 m12_5 m12_6 m12_7 m12_8 : Int) (it : List AV) (k : Nat) : Int := fI ([v72aa_0_m24 (fI it 0) (fI it 1) (fI it 2) (fI it 3) (fI it 4) (fI it 5) (fI it 6) (fI it 7) m1_0 m1_1 m1_2 m m3_0 m3_1 m3_2 m3_3 m3_4 m3_5 m3_6 m3_7 m4_0 m4_1 m4_2 m4_3 m4_4 m4_5 m4_6 m4_7 m4_8 m7 m12_0 m12_1 m12_2 m12_3 m12_4 m12_5 m12_6 m12_7 m12_8 (fI it 0) (fI it 1) (fI it 2) (fI it 3) (fI it 4) (fI it 5) (fI it 6) (fI it 7) 0 (setCs ([[AV.i IntKind.i64 0, AV.i IntKind.i64 0, AV.i IntKind.i64 0, AV.i IntKind.i64 0, AV.i IntKind.i64 0, AV.i IntKind.i64 0, AV.i IntKind.i64 0, AV.i IntKind.i64 0]].getD 0 []) 0 [AV.i IntKind.i64 m3_0, AV.i IntKind.i64 m3_1, AV.i IntKind.i64 m3_2, AV.i IntKind.i64 m3_3, AV.i IntKind.i64 m3_4, AV.i IntKind.i64 m3_5, AV.i IntKind.i64 m3_6, AV.i IntKind.i64 m3_7])].getD 0 []) k
noncomputable def F72 (m1_0 m1_1 : Int) (m1_2 : List (List AV)) (m : List (AV × AV)) (m3_0 m3_1 m3_2 m3_3 m3_4 m3_5 m3_6 m3_7 m4_0 m4_1 m4_2 m4_3 m4_4 m4_5 m4_6 m4_7 m4_8 m7 m12_0 m12_1 m12_2 m12_3 m12_4 m12_5 m12_6 m12_7 m12_8 : Int) (it : List AV) : (Nat → Int) × Mp := LQ.F m1_0 m1_1 m1_2 m1_0 m1_1 m1_2 (R72 m1_0 m1_1 m1_2 m m3_0 m3_1 m3_2 m3_3 m3_4 m3_5 m3_6 m3_7 m4_0 m4_1 m4_2 m4_3 m4_4 m4_5 m4_6 m4_7 m4_8 m7 m12_0 m12_1 m12_2 m12_3 m12_4 m12_5 m12_6 m12_7 m12_8 it 0) (R72 m1_0 m1_1 m1_2 m m3_0 m3_1 m3_2 m3_3 m3_4 m3_5 m3_6 m3_7 m4_0 m4_1 m4_2 m4_3 m4_4 m4_5 m4_6 m4_7 m4_8 m7 m12_0 m12_1 m12_2 m12_3 m12_4 m12_5 m12_6 m12_7 m12_8 it 1) (R72 m1_0 m1_1 m1_2 m m3_0 m3_1 m3_2 m3_3 m3_4 m3_5 m3_6 m3_7 m4_0 m4_1 m4_2 m4_3 m4_4 m4_5 m4_6 m4_7 m4_8 m7 m12_0 m12_1 m12_2 m12_3 m12_4 m12_5 m12_6 m12_7 m12_8 it 2) (R72 m1_0 m1_1 m1_2 m m3_0 m3_1 m3_2 m3_3 m3_4 m3_5 m3_6 m3_7 m4_0 m4_1 m4_2 m4_3 m4_4 m4_5 m4_6 m4_7 m4_8 m7 m12_0 m12_1 m12_2 m12_3 m12_4 m12_5 m12_6 m12_7 m12_8 it 3) (R72 m1_0 m1_1 m1_2 m m3_0 m3_1 m3_2 m3_3 m3_4 m3_5 m3_6 m3_7 m4_0 m4_1 m4_2 m4_3 m4_4 m4_5 m4_6 m4_7 m4_8 m7 m12_0 m12_1 m12_2 m12_3 m12_4 m12_5 m12_6 m12_7 m12_8 it 4) (R72 m1_0 m1_1 m1_2 m m3_0 m3_1 m3_2 m3_3 m3_4 m3_5 m3_6 m3_7 m4_0 m4_1 m4_2 m4_3 m4_4 m4_5 m4_6 m4_7 m4_8 m7 m12_0 m12_1 m12_2 m12_3 m12_4 m12_5 m12_6 m12_7 m12_8 it 5) (R72 m1_0 m1_1 m1_2 m m3_0 m3_1 m3_2 m3_3 m3_4 m3_5 m3_6 m3_7 m4_0 m4_1 m4_2 m4_3 m4_4 m4_5 m4_6 m4_7 m4_8 m7 m12_0 m12_1 m12_2 m12_3 m12_4 m12_5 m12_6 m12_7 m12_8 it 6) (R72 m1_0 m1_1 m1_2 m m3_0 m3_1 m3_2 m3_3 m3_4 m3_5 m3_6 m3_7 m4_0 m4_1 m4_2 m4_3 m4_4 m4_5 m4_6 m4_7 m4_8 m7 m12_0 m12_1 m12_2 m12_3 m12_4 m12_5 m12_6 m12_7 m12_8 it 7) m
noncomputable def G72 (m1_0 m1_1 : Int) (m1_2 : List (List AV)) (m : List (AV × AV)) (m3_0 m3_1 m3_2 m3_3 m3_4 m3_5 m3_6 m3_7 m4_0 m4_1 m4_2 m4_3 m4_4 m4_5 m4_6 m4_7 m4_8 m7 m12_0 m12_1 m12_2 m12_3 m12_4 m12_5 m12_6 m12_7 m12_8 : Int) (it : List AV) : Bool := LQ.G m1_0 m1_1 m1_2 m1_0 m1_1 m1_2 (R72 m1_0 m1_1 m1_2 m m3_0 m3_1 m3_2 m3_3 m3_4 m3_5 m3_6 m3_7 m4_0 m4_1 m4_2 m4_3 m4_4 m4_5 m4_6 m4_7 m4_8 m7 m12_0 m12_1 m12_2 m12_3 m12_4 m12_5 m12_6 m12_7 m12_8 it 0) (R72 m1_0 m1_1 m1_2 m m3_0 m3_1 m3_2 m3_3 m3_4 m3_5 m3_6 m3_7 m4_0 m4_1 m4_2 m4_3 m4_4 m4_5 m4_6 m4_7 m4_8 m7 m12_0 m12_1 m12_2 m12_3 m12_4 m12_5 m12_6 m12_7 m12_8 it 1) (R72 m1_0 m1_1 m1_2 m m3_0 m3_1 m3_2 m3_3 m3_4 m3_5 m3_6 m3_7 m4_0 m4_1 m4_2 m4_3 m4_4 m4_5 m4_6 m4_7 m4_8 m7 m12_0 m12_1 m12_2 m12_3 m12_4 m12_5 m12_6 m12_7 m12_8 it 2) (R72 m1_0 m1_1 m1_2 m m3_0 m3_1 m3_2 m3_3 m3_4 m3_5 m3_6 m3_7 m4_0 m4_1 m4_2 m4_3 m4_4 m4_5 m4_6 m4_7 m4_8 m7 m12_0 m12_1 m12_2 m12_3 m12_4 m12_5 m12_6 m12_7 m12_8 it 3) (R72 m1_0 m1_1 m1_2 m m3_0 m3_1 m3_2 m3_3 m3_4 m3_5 m3_6 m3_7 m4_0 m4_1 m4_2 m4_3 m4_4 m4_5 m4_6 m4_7 m4_8 m7 m12_0 m12_1 m12_2 m12_3 m12_4 m12_5 m12_6 m12_7 m12_8 it 4) (R72 m1_0 m1_1 m1_2 m m3_0 m3_1 m3_2 m3_3 m3_4 m3_5 m3_6 m3_7 m4_0 m4_1 m4_2 m4_3 m4_4 m4_5 m4_6 m4_7 m4_8 m7 m12_0 m12_1 m12_2 m12_3 m12_4 m12_5 m12_6 m12_7 m12_8 it 5) (R72 m1_0 m1_1 m1_2 m m3_0 m3_1 m3_2 m3_3 m3_4 m3_5 m3_6 m3_7 m4_0 m4_1 m4_2 m4_3 m4_4 m4_5 m4_6 m4_7 m4_8 m7 m12_0 m12_1 m12_2 m12_3 m12_4 m12_5 m12_6 m12_7 m12_8 it 6) (R72 m1_0 m1_1 m1_2 m m3_0 m3_1 m3_2 m3_3 m3_4 m3_5 m3_6 m3_7 m4_0 m4_1 m4_2 m4_3 m4_4 m4_5 m4_6 m4_7 m4_8 m7 m12_0 m12_1 m12_2 m12_3 m12_4 m12_5 m12_6 m12_7 m12_8 it 7) m
noncomputable def stp72a (t21_0 t21_1 : Int) (t21_2 : List (List AV)) (t21_3 t21_4 t21_5 t21_6 t21_7 t21_8 t21_9 t21_10 m1_0 m1_1 : Int) (m1_2 : List (List AV)) (m3_0 m3_1 m3_2 m3_3 m3_4 m3_5 m3_6 m3_7 m4_0 m4_1 m4_2 m4_3 m4_4 m4_5 m4_6 m4_7 m4_8 m7 : Int) (m : List (AV × AV)) (m12_0 m12_1 m12_2 m12_3 m12_4 m12_5 m12_6 m12_7 m12_8 : Int) (it : List AV) : Lp S72a T72a :=
  cond (inb m7 8) (cond (ctsAt (cts Try.prog 78) (0 + m7.toNat * 1) (cts Try.prog 3) && true) (cond (toI ((([[AV.i IntKind.i64 0, AV.i IntKind.i64 0, AV.i IntKind.i64 0, AV.i IntKind.i64 0, AV.i IntKind.i64 0, AV.i IntKind.i64 0, AV.i IntKind.i64 0, AV.i IntKind.i64 0]].set 0 (setCs ([[AV.i IntKind.i64 0, AV.i IntKind.i64 0, AV.i IntKind.i64 0, AV.i IntKind.i64 0, AV.i IntKind.i64 0, AV.i IntKind.i64 0, AV.i IntKind.i64 0, AV.i IntKind.i64 0]].getD 0 []) 0 [AV.i IntKind.i64 (fI it 0), AV.i IntKind.i64 (fI it 1), AV.i IntKind.i64 (fI it 2), AV.i IntKind.i64 (fI it 3), AV.i IntKind.i64 (fI it 4), AV.i IntKind.i64 (fI it 5), AV.i IntKind.i64 (fI it 6), AV.i IntKind.i64 (fI it 7)])).getD 0 []).getD (0 + m7.toNat * 1) AV.u) == 0) (.go ⟨m, m12_0, m12_1, m12_2, m12_3, m12_4, m12_5, m12_6, m12_7, m12_8⟩) (cond (i72aa_0 (fI it 0) (fI it 1) (fI it 2) (fI it 3) (fI it 4) (fI it 5) (fI it 6) (fI it 7) m1_0 m1_1 m1_2 m m3_0 m3_1 m3_2 m3_3 m3_4 m3_5 m3_6 m3_7 m4_0 m4_1 m4_2 m4_3 m4_4 m4_5 m4_6 m4_7 m4_8 m7 m12_0 m12_1 m12_2 m12_3 m12_4 m12_5 m12_6 m12_7 m12_8 (fI it 0) (fI it 1) (fI it 2) (fI it 3) (fI it 4) (fI it 5) (fI it 6) (fI it 7) 0 (setCs ([[AV.i IntKind.i64 0, AV.i IntKind.i64 0, AV.i IntKind.i64 0, AV.i IntKind.i64 0, AV.i IntKind.i64 0, AV.i IntKind.i64 0, AV.i IntKind.i64 0, AV.i IntKind.i64 0]].getD 0 []) 0 [AV.i IntKind.i64 m3_0, AV.i IntKind.i64 m3_1, AV.i IntKind.i64 m3_2, AV.i IntKind.i64 m3_3, AV.i IntKind.i64 m3_4, AV.i IntKind.i64 m3_5, AV.i IntKind.i64 m3_6, AV.i IntKind.i64 m3_7])) (cond (G72 m1_0 m1_1 m1_2 m m3_0 m3_1 m3_2 m3_3 m3_4 m3_5 m3_6 m3_7 m4_0 m4_1 m4_2 m4_3 m4_4 m4_5 m4_6 m4_7 m4_8 m7 m12_0 m12_1 m12_2 m12_3 m12_4 m12_5 m12_6 m12_7 m12_8 it && true) (cond (decide (IntKind.i64.wrap (1 + (F72 m1_0 m1_1 m1_2 m m3_0 m3_1 m3_2 m3_3 m3_4 m3_5 m3_6 m3_7 m4_0 m4_1 m4_2 m4_3 m4_4 m4_5 m4_6 m4_7 m4_8 m7 m12_0 m12_1 m12_2 m12_3 m12_4 m12_5 m12_6 m12_7 m12_8 it).fst 8) < m12_8)) (.go ⟨(F72 m1_0 m1_1 m1_2 m m3_0 m3_1 m3_2 m3_3 m3_4 m3_5 m3_6 m3_7 m4_0 m4_1 m4_2 m4_3 m4_4 m4_5 m4_6 m4_7 m4_8 m7 m12_0 m12_1 m12_2 m12_3 m12_4 m12_5 m12_6 m12_7 m12_8 it).snd, fI it 0, fI it 1, fI it 2, fI it 3, fI it 4, fI it 5, fI it 6, fI it 7, IntKind.i64.wrap (1 + (F72 m1_0 m1_1 m1_2 m m3_0 m3_1 m3_2 m3_3 m3_4 m3_5 m3_6 m3_7 m4_0 m4_1 m4_2 m4_3 m4_4 m4_5 m4_6 m4_7 m4_8 m7 m12_0 m12_1 m12_2 m12_3 m12_4 m12_5 m12_6 m12_7 m12_8 it).fst 8)⟩) (.go ⟨(F72 m1_0 m1_1 m1_2 m m3_0 m3_1 m3_2 m3_3 m3_4 m3_5 m3_6 m3_7 m4_0 m4_1 m4_2 m4_3 m4_4 m4_5 m4_6 m4_7 m4_8 m7 m12_0 m12_1 m12_2 m12_3 m12_4 m12_5 m12_6 m12_7 m12_8 it).snd, m12_0, m12_1, m12_2, m12_3, m12_4, m12_5, m12_6, m12_7, m12_8⟩)) (.bad)) (.bad))) (.bad)) (.bad)
noncomputable def ou72a (t21_0 t21_1 : Int) (t21_2 : List (List AV)) (t21_3 t21_4 t21_5 t21_6 t21_7 t21_8 t21_9 t21_10 m1_0 m1_1 : Int) (m1_2 : List (List AV)) (m3_0 m3_1 m3_2 m3_3 m3_4 m3_5 m3_6 m3_7 m4_0 m4_1 m4_2 m4_3 m4_4 m4_5 m4_6 m4_7 m4_8 m7 : Int) : T72a → Ex × St := fun y => nomatch y
noncomputable def r72a (t21_0 t21_1 : Int) (t21_2 : List (List AV)) (t21_3 t21_4 t21_5 t21_6 t21_7 t21_8 t21_9 t21_10 m1_0 m1_1 : Int) (m1_2 : List (List AV)) (m3_0 m3_1 m3_2 m3_3 m3_4 m3_5 m3_6 m3_7 m4_0 m4_1 m4_2 m4_3 m4_4 m4_5 m4_6 m4_7 m4_8 m7 : Int) (m : List (AV × AV)) (m12_0 m12_1 m12_2 m12_3 m12_4 m12_5 m12_6 m12_7 m12_8 da2 db2 : Int) (cs2 : List (List AV)) (k0 k1 k2 k3 k4 k5 k6 k7 : Int) : Option (Sum S72a T72a) := iterR (fun x it => stp72a t21_0 t21_1 t21_2 t21_3 t21_4 t21_5 t21_6 t21_7 t21_8 t21_9 t21_10 m1_0 m1_1 m1_2 m3_0 m3_1 m3_2 m3_3 m3_4 m3_5 m3_6 m3_7 m4_0 m4_1 m4_2 m4_3 m4_4 m4_5 m4_6 m4_7 m4_8 m7 x.m x.m12_0 x.m12_1 x.m12_2 x.m12_3 x.m12_4 x.m12_5 x.m12_6 x.m12_7 x.m12_8 it) (patX da2 db2 cs2 k0 k1 k2 k3 k4 k5 k6 k7) (⟨m, m12_0, m12_1, m12_2, m12_3, m12_4, m12_5, m12_6, m12_7, m12_8⟩ : S72a)
noncomputable def i72a_0 (t21_0 t21_1 : Int) (t21_2 : List (List AV)) (t21_3 t21_4 t21_5 t21_6 t21_7 t21_8 t21_9 t21_10 m1_0 m1_1 : Int) (m1_2 : List (List AV)) (m3_0 m3_1 m3_2 m3_3 m3_4 m3_5 m3_6 m3_7 m4_0 m4_1 m4_2 m4_3 m4_4 m4_5 m4_6 m4_7 m4_8 m7 : Int) (m : List (AV × AV)) (m12_0 m12_1 m12_2 m12_3 m12_4 m12_5 m12_6 m12_7 m12_8 da2 db2 : Int) (cs2 : List (List AV)) (k0 k1 k2 k3 k4 k5 k6 k7 : Int) : Bool := match r72a t21_0 t21_1 t21_2 t21_3 t21_4 t21_5 t21_6 t21_7 t21_8 t21_9 t21_10 m1_0 m1_1 m1_2 m3_0 m3_1 m3_2 m3_3 m3_4 m3_5 m3_6 m3_7 m4_0 m4_1 m4_2 m4_3 m4_4 m4_5 m4_6 m4_7 m4_8 m7 m m12_0 m12_1 m12_2 m12_3 m12_4 m12_5 m12_6 m12_7 m12_8 da2 db2 cs2 k0 k1 k2 k3 k4 k5 k6 k7 with
  | some (.inl ⟨_, _, _, _, _, _, _, _, _, _⟩) => true
  | _ => false
noncomputable def v72a_0_m (t21_0 t21_1 : Int) (t21_2 : List (List AV)) (t21_3 t21_4 t21_5 t21_6 t21_7 t21_8 t21_9 t21_10 m1_0 m1_1 : Int) (m1_2 : List (List AV)) (m3_0 m3_1 m3_2 m3_3 m3_4 m3_5 m3_6 m3_7 m4_0 m4_1 m4_2 m4_3 m4_4 m4_5 m4_6 m4_7 m4_8 m7 : Int) (m : List (AV × AV)) (m12_0 m12_1 m12_2 m12_3 m12_4 m12_5 m12_6 m12_7 m12_8 da2 db2 : Int) (cs2 : List (List AV)) (k0 k1 k2 k3 k4 k5 k6 k7 : Int) : List (AV × AV) := match r72a t21_0 t21_1 t21_2 t21_3 t21_4 t21_5 t21_6 t21_7 t21_8 t21_9 t21_10 m1_0 m1_1 m1_2 m3_0 m3_1 m3_2 m3_3 m3_4 m3_5 m3_6 m3_7 m4_0 m4_1 m4_2 m4_3 m4_4 m4_5 m4_6 m4_7 m4_8 m7 m m12_0 m12_1 m12_2 m12_3 m12_4 m12_5 m12_6 m12_7 m12_8 da2 db2 cs2 k0 k1 k2 k3 k4 k5 k6 k7 with
  | some (.inl ⟨m, _, _, _, _, _, _, _, _, _⟩) => m
  | _ => default
noncomputable def v72a_0_m12_0 (t21_0 t21_1 : Int) (t21_2 : List (List AV)) (t21_3 t21_4 t21_5 t21_6 t21_7 t21_8 t21_9 t21_10 m1_0 m1_1 : Int) (m1_2 : List (List AV)) (m3_0 m3_1 m3_2 m3_3 m3_4 m3_5 m3_6 m3_7 m4_0 m4_1 m4_2 m4_3 m4_4 m4_5 m4_6 m4_7 m4_8 m7 : Int) (m : List (AV × AV)) (m12_0 m12_1 m12_2 m12_3 m12_4 m12_5 m12_6 m12_7 m12_8 da2 db2 : Int) (cs2 : List (List AV)) (k0 k1 k2 k3 k4 k5 k6 k7 : Int) : Int := match r72a t21_0 t21_1 t21_2 t21_3 t21_4 t21_5 t21_6 t21_7 t21_8 t21_9 t21_10 m1_0 m1_1 m1_2 m3_0 m3_1 m3_2 m3_3 m3_4 m3_5 m3_6 m3_7 m4_0 m4_1 m4_2 m4_3 m4_4 m4_5 m4_6 m4_7 m4_8 m7 m m12_0 m12_1 m12_2 m12_3 m12_4 m12_5 m12_6 m12_7 m12_8 da2 db2 cs2 k0 k1 k2 k3 k4 k5 k6 k7 with
  | some (.inl ⟨_, m12_0, _, _, _, _, _, _, _, _⟩) => m12_0
  | _ => default
noncomputable def v72a_0_m12_1 (t21_0 t21_1 : Int) (t21_2 : List (List AV)) (t21_3 t21_4 t21_5 t21_6 t21_7 t21_8 t21_9 t21_10 m1_0 m1_1 : Int) (m1_2 : List (List AV)) (m3_0 m3_1 m3_2 m3_3 m3_4 m3_5 m3_6 m3_7 m4_0 m4_1 m4_2 m4_3 m4_4 m4_5 m4_6 m4_7 m4_8 m7 : Int) (m : List (AV × AV)) (m12_0 m12_1 m12_2 m12_3 m12_4 m12_5 m12_6 m12_7 m12_8 da2 db2 : Int) (cs2 : List (List AV)) (k0 k1 k2 k3 k4 k5 k6 k7 : Int) : Int := match r72a t21_0 t21_1 t21_2 t21_3 t21_4 t21_5 t21_6 t21_7 t21_8 t21_9 t21_10 m1_0 m1_1 m1_2 m3_0 m3_1 m3_2 m3_3 m3_4 m3_5 m3_6 m3_7 m4_0 m4_1 m4_2 m4_3 m4_4 m4_5 m4_6 m4_7 m4_8 m7 m m12_0 m12_1 m12_2 m12_3 m12_4 m12_5 m12_6 m12_7 m12_8 da2 db2 cs2 k0 k1 k2 k3 k4 k5 k6 k7 with
  | some (.inl ⟨_, _, m12_1, _, _, _, _, _, _, _⟩) => m12_1
  | _ => default
noncomputable def v72a_0_m12_2 (t21_0 t21_1 : Int) (t21_2 : List (List AV)) (t21_3 t21_4 t21_5 t21_6 t21_7 t21_8 t21_9 t21_10 m1_0 m1_1 : Int) (m1_2 : List (List AV)) (m3_0 m3_1 m3_2 m3_3 m3_4 m3_5 m3_6 m3_7 m4_0 m4_1 m4_2 m4_3 m4_4 m4_5 m4_6 m4_7 m4_8 m7 : Int) (m : List (AV × AV)) (m12_0 m12_1 m12_2 m12_3 m12_4 m12_5 m12_6 m12_7 m12_8 da2 db2 : Int) (cs2 : List (List AV)) (k0 k1 k2 k3 k4 k5 k6 k7 : Int) : Int := match r72a t21_0 t21_1 t21_2 t21_3 t21_4 t21_5 t21_6 t21_7 t21_8 t21_9 t21_10 m1_0 m1_1 m1_2 m3_0 m3_1 m3_2 m3_3 m3_4 m3_5 m3_6 m3_7 m4_0 m4_1 m4_2 m4_3 m4_4 m4_5 m4_6 m4_7 m4_8 m7 m m12_0 m12_1 m12_2 m12_3 m12_4 m12_5 m12_6 m12_7 m12_8 da2 db2 cs2 k0 k1 k2 k3 k4 k5 k6 k7 with
  | some (.inl ⟨_, _, _, m12_2, _, _, _, _, _, _⟩) => m12_2
  | _ => default
noncomputable def v72a_0_m12_3 (t21_0 t21_1 : Int) (t21_2 : List (List AV)) (t21_3 t21_4 t21_5 t21_6 t21_7 t21_8 t21_9 t21_10 m1_0 m1_1 : Int) (m1_2 : List (List AV)) (m3_0 m3_1 m3_2 m3_3 m3_4 m3_5 m3_6 m3_7 m4_0 m4_1 m4_2 m4_3 m4_4 m4_5 m4_6 m4_7 m4_8 m7 : Int) (m : List (AV × AV)) (m12_0 m12_1 m12_2 m12_3 m12_4 m12_5 m12_6 m12_7 m12_8 da2 db2 : Int) (cs2 : List (List AV)) (k0 k1 k2 k3 k4 k5 k6 k7 : Int) : Int := match r72a t21_0 t21_1 t21_2 t21_3 t21_4 t21_5 t21_6 t21_7 t21_8 t21_9 t21_10 m1_0 m1_1 m1_2 m3_0 m3_1 m3_2 m3_3 m3_4 m3_5 m3_6 m3_7 m4_0 m4_1 m4_2 m4_3 m4_4 m4_5 m4_6 m4_7 m4_8 m7 m m12_0 m12_1 m12_2 m12_3 m12_4 m12_5 m12_6 m12_7 m12_8 da2 db2 cs2 k0 k1 k2 k3 k4 k5 k6 k7 with
  | some (.inl ⟨_, _, _, _, m12_3, _, _, _, _, _⟩) => m12_3
  | _ => default
noncomputable def v72a_0_m12_4 (t21_0 t21_1 : Int) (t21_2 : List (List AV)) (t21_3 t21_4 t21_5 t21_6 t21_7 t21_8 t21_9 t21_10 m1_0 m1_1 : Int) (m1_2 : List (List AV)) (m3_0 m3_1 m3_2 m3_3 m3_4 m3_5 m3_6 m3_7 m4_0 m4_1 m4_2 m4_3 m4_4 m4_5 m4_6 m4_7 m4_8 m7 : Int) (m : List (AV × AV)) (m12_0 m12_1 m12_2 m12_3 m12_4 m12_5 m12_6 m12_7 m12_8 da2 db2 : Int) (cs2 : List (List AV)) (k0 k1 k2 k3 k4 k5 k6 k7 : Int) : Int := match r72a t21_0 t21_1 t21_2 t21_3 t21_4 t21_5 t21_6 t21_7 t21_8 t21_9 t21_10 m1_0 m1_1 m1_2 m3_0 m3_1 m3_2 m3_3 m3_4 m3_5 m3_6 m3_7 m4_0 m4_1 m4_2 m4_3 m4_4 m4_5 m4_6 m4_7 m4_8 m7 m m12_0 m12_1 m12_2 m12_3 m12_4 m12_5 m12_6 m12_7 m12_8 da2 db2 cs2 k0 k1 k2 k3 k4 k5 k6 k7 with
  | some (.inl ⟨_, _, _, _, _, m12_4, _, _, _, _⟩) => m12_4
  | _ => default
noncomputable def v72a_0_m12_5 (t21_0 t21_1 : Int) (t21_2 : List (List AV)) (t21_3 t21_4 t21_5 t21_6 t21_7 t21_8 t21_9 t21_10 m1_0 m1_1 : Int) (m1_2 : List (List AV)) (m3_0 m3_1 m3_2 m3_3 m3_4 m3_5 m3_6 m3_7 m4_0 m4_1 m4_2 m4_3 m4_4 m4_5 m4_6 m4_7 m4_8 m7 : Int) (m : List (AV × AV)) (m12_0 m12_1 m12_2 m12_3 m12_4 m12_5 m12_6 m12_7 m12_8 da2 db2 : Int) (cs2 : List (List AV)) (k0 k1 k2 k3 k4 k5 k6 k7 : Int) : Int := match r72a t21_0 t21_1 t21_2 t21_3 t21_4 t21_5 t21_6 t21_7 t21_8 t21_9 t21_10 m1_0 m1_1 m1_2 m3_0 m3_1 m3_2 m3_3 m3_4 m3_5 m3_6 m3_7 m4_0 m4_1 m4_2 m4_3 m4_4 m4_5 m4_6 m4_7 m4_8 m7 m m12_0 m12_1 m12_2 m12_3 m12_4 m12_5 m12_6 m12_7 m12_8 da2 db2 cs2 k0 k1 k2 k3 k4 k5 k6 k7 with
  | some (.inl ⟨_, _, _, _, _, _, m12_5, _, _, _⟩) => m12_5
  | _ => default
noncomputable def v72a_0_m12_6 (t21_0 t21_1 : Int) (t21_2 : List (List AV)) (t21_3 t21_4 t21_5 t21_6 t21_7 t21_8 t21_9 t21_10 m1_0 m1_1 : Int) (m1_2 : List (List AV)) (m3_0 m3_1 m3_2 m3_3 m3_4 m3_5 m3_6 m3_7 m4_0 m4_1 m4_2 m4_3 m4_4 m4_5 m4_6 m4_7 m4_8 m7 : Int) (m : List (AV × AV)) (m12_0 m12_1 m12_2 m12_3 m12_4 m12_5 m12_6 m12_7 m12_8 da2 db2 : Int) (cs2 : List (List AV)) (k0 k1 k2 k3 k4 k5 k6 k7 : Int) : Int := match r72a t21_0 t21_1 t21_2 t21_3 t21_4 t21_5 t21_6 t21_7 t21_8 t21_9 t21_10 m1_0 m1_1 m1_2 m3_0 m3_1 m3_2 m3_3 m3_4 m3_5 m3_6 m3_7 m4_0 m4_1 m4_2 m4_3 m4_4 m4_5 m4_6 m4_7 m4_8 m7 m m12_0 m12_1 m12_2 m12_3 m12_4 m12_5 m12_6 m12_7 m12_8 da2 db2 cs2 k0 k1 k2 k3 k4 k5 k6 k7 with
  | some (.inl ⟨_, _, _, _, _, _, _, m12_6, _, _⟩) => m12_6
  | _ => default
noncomputable def v72a_0_m12_7 (t21_0 t21_1 : Int) (t21_2 : List (List AV)) (t21_3 t21_4 t21_5 t21_6 t21_7 t21_8 t21_9 t21_10 m1_0 m1_1 : Int) (m1_2 : List (List AV)) (m3_0 m3_1 m3_2 m3_3 m3_4 m3_5 m3_6 m3_7 m4_0 m4_1 m4_2 m4_3 m4_4 m4_5 m4_6 m4_7 m4_8 m7 : Int) (m : List (AV × AV)) (m12_0 m12_1 m12_2 m12_3 m12_4 m12_5 m12_6 m12_7 m12_8 da2 db2 : Int) (cs2 : List (List AV)) (k0 k1 k2 k3 k4 k5 k6 k7 : Int) : Int := match r72a t21_0 t21_1 t21_2 t21_3 t21_4 t21_5 t21_6 t21_7 t21_8 t21_9 t21_10 m1_0 m1_1 m1_2 m3_0 m3_1 m3_2 m3_3 m3_4 m3_5 m3_6 m3_7 m4_0 m4_1 m4_2 m4_3 m4_4 m4_5 m4_6 m4_7 m4_8 m7 m m12_0 m12_1 m12_2 m12_3 m12_4 m12_5 m12_6 m12_7 m12_8 da2 db2 cs2 k0 k1 k2 k3 k4 k5 k6 k7 with
  | some (.inl ⟨_, _, _, _, _, _, _, _, m12_7, _⟩) => m12_7
  | _ => default
noncomputable def v72a_0_m12_8 (t21_0 t21_1 : Int) (t21_2 : List (List AV)) (t21_3 t21_4 t21_5 t21_6 t21_7 t21_8 t21_9 t21_10 m1_0 m1_1 : Int) (m1_2 : List (List AV)) (m3_0 m3_1 m3_2 m3_3 m3_4 m3_5 m3_6 m3_7 m4_0 m4_1 m4_2 m4_3 m4_4 m4_5 m4_6 m4_7 m4_8 m7 : Int) (m : List (AV × AV)) (m12_0 m12_1 m12_2 m12_3 m12_4 m12_5 m12_6 m12_7 m12_8 da2 db2 : Int) (cs2 : List (List AV)) (k0 k1 k2 k3 k4 k5 k6 k7 : Int) : Int := match r72a t21_0 t21_1 t21_2 t21_3 t21_4 t21_5 t21_6 t21_7 t21_8 t21_9 t21_10 m1_0 m1_1 m1_2 m3_0 m3_1 m3_2 m3_3 m3_4 m3_5 m3_6 m3_7 m4_0 m4_1 m4_2 m4_3 m4_4 m4_5 m4_6 m4_7 m4_8 m7 m m12_0 m12_1 m12_2 m12_3 m12_4 m12_5 m12_6 m12_7 m12_8 da2 db2 cs2 k0 k1 k2 k3 k4 k5 k6 k7 with
  | some (.inl ⟨_, _, _, _, _, _, _, _, _, m12_8⟩) => m12_8
  | _ => default
noncomputable def l72a (st : St) : Option (List (Bool × Ex × St)) := match normV Try.prog [(2, none), (3, none), (4, none), (5, none), (6, none), (7, none), (21, none)] 17 st, gt st.t 21 with
  | some ([.p 0 0 0, .p 1 0 0, .p 3 0 0, .p 4 0 0, .p 7 0 0, .p 12 0 0, .fn 39 [.rp [.int .i64, .int .i64, .sl 44] [.i .i64 t21_0, .i .i64 t21_1, .rs 44 t21_2] 0, .rp [.int .i64, .int .i64, .int .i64, .int .i64, .int .i64, .int .i64, .int .i64, .int .i64] [.i .i64 t21_3, .i .i64 t21_4, .i .i64 t21_5, .i .i64 t21_6, .i .i64 t21_7, .i .i64 t21_8, .i .i64 t21_9, .i .i64 t21_10] 0]], [(0, .row 75 [[.mp 2]]), (1, .row 76 [[.fn 18 [.rp [.int .i64, .int .i64, .sl 44] [.i .i64 m1_0, .i .i64 m1_1, .rs 44 m1_2] 0, .p 0 0 0, .p 1 0 0]]]), (2, .mp 78 80 m), (3, .row 78 [[.i .i64 m3_0, .i .i64 m3_1, .i .i64 m3_2, .i .i64 m3_3, .i .i64 m3_4, .i .i64 m3_5, .i .i64 m3_6, .i .i64 m3_7]]), (4, .row 80 [[.i .i64 m4_0, .i .i64 m4_1, .i .i64 m4_2, .i .i64 m4_3, .i .i64 m4_4, .i .i64 m4_5, .i .i64 m4_6, .i .i64 m4_7, .i .i64 m4_8]]), (5, .dead), (6, .dead), (7, .row 3 [[.i .i64 m7]]), (8, .dead), (9, .dead), (10, .dead), (11, .dead), (12, .row 80 [[.i .i64 m12_0, .i .i64 m12_1, .i .i64 m12_2, .i .i64 m12_3, .i .i64 m12_4, .i .i64 m12_5, .i .i64 m12_6, .i .i64 m12_7, .i .i64 m12_8]]), (13, .dead), (14, .dead), (15, .dead), (16, .dead)], 17, 53), .fn 39 [.rp [.int .i64, .int .i64, .sl 44] [.i .i64 da2, .i .i64 db2, .rs 44 cs2] 0, .rp [.int .i64, .int .i64, .int .i64, .int .i64, .int .i64, .int .i64, .int .i64, .int .i64] [.i .i64 k0, .i .i64 k1, .i .i64 k2, .i .i64 k3, .i .i64 k4, .i .i64 k5, .i .i64 k6, .i .i64 k7] 0] => some [(okP da2 db2 cs2 k0 k1 k2 k3 k4 k5 k6 k7 && i72a_0 t21_0 t21_1 t21_2 t21_3 t21_4 t21_5 t21_6 t21_7 t21_8 t21_9 t21_10 m1_0 m1_1 m1_2 m3_0 m3_1 m3_2 m3_3 m3_4 m3_5 m3_6 m3_7 m4_0 m4_1 m4_2 m4_3 m4_4 m4_5 m4_6 m4_7 m4_8 m7 m m12_0 m12_1 m12_2 m12_3 m12_4 m12_5 m12_6 m12_7 m12_8 da2 db2 cs2 k0 k1 k2 k3 k4 k5 k6 k7, .nrm, s72a t21_0 t21_1 t21_2 t21_3 t21_4 t21_5 t21_6 t21_7 t21_8 t21_9 t21_10 m1_0 m1_1 m1_2 (v72a_0_m t21_0 t21_1 t21_2 t21_3 t21_4 t21_5 t21_6 t21_7 t21_8 t21_9 t21_10 m1_0 m1_1 m1_2 m3_0 m3_1 m3_2 m3_3 m3_4 m3_5 m3_6 m3_7 m4_0 m4_1 m4_2 m4_3 m4_4 m4_5 m4_6 m4_7 m4_8 m7 m m12_0 m12_1 m12_2 m12_3 m12_4 m12_5 m12_6 m12_7 m12_8 da2 db2 cs2 k0 k1 k2 k3 k4 k5 k6 k7) m3_0 m3_1 m3_2 m3_3 m3_4 m3_5 m3_6 m3_7 m4_0 m4_1 m4_2 m4_3 m4_4 m4_5 m4_6 m4_7 m4_8 m7 (v72a_0_m12_0 t21_0 t21_1 t21_2 t21_3 t21_4 t21_5 t21_6 t21_7 t21_8 t21_9 t21_10 m1_0 m1_1 m1_2 m3_0 m3_1 m3_2 m3_3 m3_4 m3_5 m3_6 m3_7 m4_0 m4_1 m4_2 m4_3 m4_4 m4_5 m4_6 m4_7 m4_8 m7 m m12_0 m12_1 m12_2 m12_3 m12_4 m12_5 m12_6 m12_7 m12_8 da2 db2 cs2 k0 k1 k2 k3 k4 k5 k6 k7) (v72a_0_m12_1 t21_0 t21_1 t21_2 t21_3 t21_4 t21_5 t21_6 t21_7 t21_8 t21_9 t21_10 m1_0 m1_1 m1_2 m3_0 m3_1 m3_2 m3_3 m3_4 m3_5 m3_6 m3_7 m4_0 m4_1 m4_2 m4_3 m4_4 m4_5 m4_6 m4_7 m4_8 m7 m m12_0 m12_1 m12_2 m12_3 m12_4 m12_5 m12_6 m12_7 m12_8 da2 db2 cs2 k0 k1 k2 k3 k4 k5 k6 k7) (v72a_0_m12_2 t21_0 t21_1 t21_2 t21_3 t21_4 t21_5 t21_6 t21_7 t21_8 t21_9 t21_10 m1_0 m1_1 m1_2 m3_0 m3_1 m3_2 m3_3 m3_4 m3_5 m3_6 m3_7 m4_0 m4_1 m4_2 m4_3 m4_4 m4_5 m4_6 m4_7 m4_8 m7 m m12_0 m12_1 m12_2 m12_3 m12_4 m12_5 m12_6 m12_7 m12_8 da2 db2 cs2 k0 k1 k2 k3 k4 k5 k6 k7) (v72a_0_m12_3 t21_0 t21_1 t21_2 t21_3 t21_4 t21_5 t21_6 t21_7 t21_8 t21_9 t21_10 m1_0 m1_1 m1_2 m3_0 m3_1 m3_2 m3_3 m3_4 m3_5 m3_6 m3_7 m4_0 m4_1 m4_2 m4_3 m4_4 m4_5 m4_6 m4_7 m4_8 m7 m m12_0 m12_1 m12_2 m12_3 m12_4 m12_5 m12_6 m12_7 m12_8 da2 db2 cs2 k0 k1 k2 k3 k4 k5 k6 k7) (v72a_0_m12_4 t21_0 t21_1 t21_2 t21_3 t21_4 t21_5 t21_6 t21_7 t21_8 t21_9 t21_10 m1_0 m1_1 m1_2 m3_0 m3_1 m3_2 m3_3 m3_4 m3_5 m3_6 m3_7 m4_0 m4_1 m4_2 m4_3 m4_4 m4_5 m4_6 m4_7 m4_8 m7 m m12_0 m12_1 m12_2 m12_3 m12_4 m12_5 m12_6 m12_7 m12_8 da2 db2 cs2 k0 k1 k2 k3 k4 k5 k6 k7) (v72a_0_m12_5 t21_0 t21_1 t21_2 t21_3 t21_4 t21_5 t21_6 t21_7 t21_8 t21_9 t21_10 m1_0 m1_1 m1_2 m3_0 m3_1 m3_2 m3_3 m3_4 m3_5 m3_6 m3_7 m4_0 m4_1 m4_2 m4_3 m4_4 m4_5 m4_6 m4_7 m4_8 m7 m m12_0 m12_1 m12_2 m12_3 m12_4 m12_5 m12_6 m12_7 m12_8 da2 db2 cs2 k0 k1 k2 k3 k4 k5 k6 k7) (v72a_0_m12_6 t21_0 t21_1 t21_2 t21_3 t21_4 t21_5 t21_6 t21_7 t21_8 t21_9 t21_10 m1_0 m1_1 m1_2 m3_0 m3_1 m3_2 m3_3 m3_4 m3_5 m3_6 m3_7 m4_0 m4_1 m4_2 m4_3 m4_4 m4_5 m4_6 m4_7 m4_8 m7 m m12_0 m12_1 m12_2 m12_3 m12_4 m12_5 m12_6 m12_7 m12_8 da2 db2 cs2 k0 k1 k2 k3 k4 k5 k6 k7) (v72a_0_m12_7 t21_0 t21_1 t21_2 t21_3 t21_4 t21_5 t21_6 t21_7 t21_8 t21_9 t21_10 m1_0 m1_1 m1_2 m3_0 m3_1 m3_2 m3_3 m3_4 m3_5 m3_6 m3_7 m4_0 m4_1 m4_2 m4_3 m4_4 m4_5 m4_6 m4_7 m4_8 m7 m m12_0 m12_1 m12_2 m12_3 m12_4 m12_5 m12_6 m12_7 m12_8 da2 db2 cs2 k0 k1 k2 k3 k4 k5 k6 k7) (v72a_0_m12_8 t21_0 t21_1 t21_2 t21_3 t21_4 t21_5 t21_6 t21_7 t21_8 t21_9 t21_10 m1_0 m1_1 m1_2 m3_0 m3_1 m3_2 m3_3 m3_4 m3_5 m3_6 m3_7 m4_0 m4_1 m4_2 m4_3 m4_4 m4_5 m4_6 m4_7 m4_8 m7 m m12_0 m12_1 m12_2 m12_3 m12_4 m12_5 m12_6 m12_7 m12_8 da2 db2 cs2 k0 k1 k2 k3 k4 k5 k6 k7))]
  | _, _ => none
noncomputable def L72 : LSpec := fun p st => match p with
  | [false, true, false, true, true, false, true, false, true, false, true, true, true, true] => l72aa st
  | [false, true, false, true, true, true, true] => l72a st
  | _ => none
theorem round72aa (t28_0 t28_1 t28_2 t28_3 t28_4 t28_5 t28_6 t28_7 t29 m1_0 m1_1 : Int) (m1_2 : List (List AV)) (m : List (AV × AV)) (m3_0 m3_1 m3_2 m3_3 m3_4 m3_5 m3_6 m3_7 m4_0 m4_1 m4_2 m4_3 m4_4 m4_5 m4_6 m4_7 m4_8 m7 m12_0 m12_1 m12_2 m12_3 m12_4 m12_5 m12_6 m12_7 m12_8 m17_0 m17_1 m17_2 m17_3 m17_4 m17_5 m17_6 m17_7 : Int) (m24 : List AV) : round Try.prog SP2 ro72 L72 lp72aa [false, true, false, true, true, false, true, false, true, false, true, true, true, true] [(2, none), (3, none), (5, none), (7, none), (8, none), (9, none), (28, none), (29, none)] 28 (s72aa t28_0 t28_1 t28_2 t28_3 t28_4 t28_5 t28_6 t28_7 t29 m1_0 m1_1 m1_2 m m3_0 m3_1 m3_2 m3_3 m3_4 m3_5 m3_6 m3_7 m4_0 m4_1 m4_2 m4_3 m4_4 m4_5 m4_6 m4_7 m4_8 m7 m12_0 m12_1 m12_2 m12_3 m12_4 m12_5 m12_6 m12_7 m12_8 m17_0 m17_1 m17_2 m17_3 m17_4 m17_5 m17_6 m17_7 m24) =
    cond (decide (t29 < 8)) (cond (intsOf IntKind.i64 [AV.i IntKind.i64 t28_0, AV.i IntKind.i64 t28_1, AV.i IntKind.i64 t28_2, AV.i IntKind.i64 t28_3, AV.i IntKind.i64 t28_4, AV.i IntKind.i64 t28_5, AV.i IntKind.i64 t28_6, AV.i IntKind.i64 t28_7] && (inb t29 8 && inb t29 [AV.i IntKind.i64 t28_0, AV.i IntKind.i64 t28_1, AV.i IntKind.i64 t28_2, AV.i IntKind.i64 t28_3, AV.i IntKind.i64 t28_4, AV.i IntKind.i64 t28_5, AV.i IntKind.i64 t28_6, AV.i IntKind.i64 t28_7].length)) (cond (inb t29 8) (cond (ctsAt (cts Try.prog 78) (0 + t29.toNat * 1) (cts Try.prog 3) && true) (cond (inb t29 8) (cond (ctsAt (cts Try.prog 78) (0 + t29.toNat * 1) (cts Try.prog 3) && true) (some (.nrm, s72aa t28_0 t28_1 t28_2 t28_3 t28_4 t28_5 t28_6 t28_7 (IntKind.i64.wrap (t29 + 1)) m1_0 m1_1 m1_2 m m3_0 m3_1 m3_2 m3_3 m3_4 m3_5 m3_6 m3_7 m4_0 m4_1 m4_2 m4_3 m4_4 m4_5 m4_6 m4_7 m4_8 m7 m12_0 m12_1 m12_2 m12_3 m12_4 m12_5 m12_6 m12_7 m12_8 m17_0 m17_1 m17_2 m17_3 m17_4 m17_5 m17_6 m17_7 (setCs ([m24].getD 0 []) (0 + t29.toNat * 1) [AV.i IntKind.i64 (IntKind.i64.wrap (toI (([m24].getD 0 []).getD (0 + t29.toNat * 1) AV.u) - toI ([AV.i IntKind.i64 t28_0, AV.i IntKind.i64 t28_1, AV.i IntKind.i64 t28_2, AV.i IntKind.i64 t28_3, AV.i IntKind.i64 t28_4, AV.i IntKind.i64 t28_5, AV.i IntKind.i64 t28_6, AV.i IntKind.i64 t28_7].getD t29.toNat AV.u)))]))) (none)) (none)) (none)) (none)) (none)) (some (.ext 2, o72aa_0 t28_0 t28_1 t28_2 t28_3 t28_4 t28_5 t28_6 t28_7 m1_0 m1_1 m1_2 m m3_0 m3_1 m3_2 m3_3 m3_4 m3_5 m3_6 m3_7 m4_0 m4_1 m4_2 m4_3 m4_4 m4_5 m4_6 m4_7 m4_8 m7 m12_0 m12_1 m12_2 m12_3 m12_4 m12_5 m12_6 m12_7 m12_8 m17_0 m17_1 m17_2 m17_3 m17_4 m17_5 m17_6 m17_7 t29 m24)) := by kernel_rfl
theorem rnd72aa (t28_0 t28_1 t28_2 t28_3 t28_4 t28_5 t28_6 t28_7 m1_0 m1_1 : Int) (m1_2 : List (List AV)) (m : List (AV × AV)) (m3_0 m3_1 m3_2 m3_3 m3_4 m3_5 m3_6 m3_7 m4_0 m4_1 m4_2 m4_3 m4_4 m4_5 m4_6 m4_7 m4_8 m7 m12_0 m12_1 m12_2 m12_3 m12_4 m12_5 m12_6 m12_7 m12_8 m17_0 m17_1 m17_2 m17_3 m17_4 m17_5 m17_6 m17_7 : Int) (x : S72aa) : round Try.prog SP2 ro72 L72 lp72aa [false, true, false, true, true, false, true, false, true, false, true, true, true, true] [(2, none), (3, none), (5, none), (7, none), (8, none), (9, none), (28, none), (29, none)] 28 ((fun x => s72aa t28_0 t28_1 t28_2 t28_3 t28_4 t28_5 t28_6 t28_7 x.t29 m1_0 m1_1 m1_2 m m3_0 m3_1 m3_2 m3_3 m3_4 m3_5 m3_6 m3_7 m4_0 m4_1 m4_2 m4_3 m4_4 m4_5 m4_6 m4_7 m4_8 m7 m12_0 m12_1 m12_2 m12_3 m12_4 m12_5 m12_6 m12_7 m12_8 m17_0 m17_1 m17_2 m17_3 m17_4 m17_5 m17_6 m17_7 x.m24) x) = toR (fun x => s72aa t28_0 t28_1 t28_2 t28_3 t28_4 t28_5 t28_6 t28_7 x.t29 m1_0 m1_1 m1_2 m m3_0 m3_1 m3_2 m3_3 m3_4 m3_5 m3_6 m3_7 m4_0 m4_1 m4_2 m4_3 m4_4 m4_5 m4_6 m4_7 m4_8 m7 m12_0 m12_1 m12_2 m12_3 m12_4 m12_5 m12_6 m12_7 m12_8 m17_0 m17_1 m17_2 m17_3 m17_4 m17_5 m17_6 m17_7 x.m24) (ou72aa t28_0 t28_1 t28_2 t28_3 t28_4 t28_5 t28_6 t28_7 m1_0 m1_1 m1_2 m m3_0 m3_1 m3_2 m3_3 m3_4 m3_5 m3_6 m3_7 m4_0 m4_1 m4_2 m4_3 m4_4 m4_5 m4_6 m4_7 m4_8 m7 m12_0 m12_1 m12_2 m12_3 m12_4 m12_5 m12_6 m12_7 m12_8 m17_0 m17_1 m17_2 m17_3 m17_4 m17_5 m17_6 m17_7) (stp72aa t28_0 t28_1 t28_2 t28_3 t28_4 t28_5 t28_6 t28_7 m1_0 m1_1 m1_2 m m3_0 m3_1 m3_2 m3_3 m3_4 m3_5 m3_6 m3_7 m4_0 m4_1 m4_2 m4_3 m4_4 m4_5 m4_6 m4_7 m4_8 m7 m12_0 m12_1 m12_2 m12_3 m12_4 m12_5 m12_6 m12_7 m12_8 m17_0 m17_1 m17_2 m17_3 m17_4 m17_5 m17_6 m17_7 x.t29 x.m24) := by
  refine (round72aa _ _ _ _ _ _ _ _ _ _ _ _ _ _ _ _ _ _ _ _ _ _ _ _ _ _ _ _ _ _ _ _ _ _ _ _ _ _ _ _ _ _ _ _ _ _ _ _ _ ).trans ?_
  unfold stp72aa
  simp only [toR_cond]
  rfl
theorem lok72aa {st : St} {outs : List (Bool × Ex × St)} {e : Ex} {s : St} {lo : Nat} (hlo : lo ≤ st.nx) (hl : l72aa st = some outs) (hch : Chosen outs e s) :
    ∃ keep nb, lo ≤ nb ∧ LB Try.prog SP2 ro72 L72 lp72aa [false, true, false, true, true, false, true, false, true, false, true, true, true, true] keep nb st e s := by
  unfold l72aa at hl
  split at hl
  · rename_i t28_0 t28_1 t28_2 t28_3 t28_4 t28_5 t28_6 t28_7 t29 m1_0 m1_1 m1_2 m m3_0 m3_1 m3_2 m3_3 m3_4 m3_5 m3_6 m3_7 m4_0 m4_1 m4_2 m4_3 m4_4 m4_5 m4_6 m4_7 m4_8 m7 m12_0 m12_1 m12_2 m12_3 m12_4 m12_5 m12_6 m12_7 m12_8 m17_0 m17_1 m17_2 m17_3 m17_4 m17_5 m17_6 m17_7 m24 hno
    cases hl
    obtain ⟨hnx, hno⟩ := normV_norm hno
    refine ⟨_, _, ?_, .enter hno ?_⟩
    · exact hnx ▸ hlo
    have main := fun y h => LB_run (x := (⟨t29, m24⟩ : S72aa)) (y := y) (nb := 28) (fun y => by cases y <;> simp [ou72aa]) (rnd72aa t28_0 t28_1 t28_2 t28_3 t28_4 t28_5 t28_6 t28_7 m1_0 m1_1 m1_2 m m3_0 m3_1 m3_2 m3_3 m3_4 m3_5 m3_6 m3_7 m4_0 m4_1 m4_2 m4_3 m4_4 m4_5 m4_6 m4_7 m4_8 m7 m12_0 m12_1 m12_2 m12_3 m12_4 m12_5 m12_6 m12_7 m12_8 m17_0 m17_1 m17_2 m17_3 m17_4 m17_5 m17_6 m17_7) h
    obtain ⟨x, hx, hg, rfl, rfl⟩ := chosen_any hch
    simp only [List.mem_cons, List.not_mem_nil, or_false] at hx
    subst hx
    exact main _ (is72aa_0 t28_0 t28_1 t28_2 t28_3 t28_4 t28_5 t28_6 t28_7 m1_0 m1_1 m1_2 m m3_0 m3_1 m3_2 m3_3 m3_4 m3_5 m3_6 m3_7 m4_0 m4_1 m4_2 m4_3 m4_4 m4_5 m4_6 m4_7 m4_8 m7 m12_0 m12_1 m12_2 m12_3 m12_4 m12_5 m12_6 m12_7 m12_8 m17_0 m17_1 m17_2 m17_3 m17_4 m17_5 m17_6 m17_7 t29 m24 hg)
  · cases hl
theorem is72a_0 (t21_0 t21_1 : Int) (t21_2 : List (List AV)) (t21_3 t21_4 t21_5 t21_6 t21_7 t21_8 t21_9 t21_10 m1_0 m1_1 : Int) (m1_2 : List (List AV)) (m3_0 m3_1 m3_2 m3_3 m3_4 m3_5 m3_6 m3_7 m4_0 m4_1 m4_2 m4_3 m4_4 m4_5 m4_6 m4_7 m4_8 m7 : Int) (m : List (AV × AV)) (m12_0 m12_1 m12_2 m12_3 m12_4 m12_5 m12_6 m12_7 m12_8 da2 db2 : Int) (cs2 : List (List AV)) (k0 k1 k2 k3 k4 k5 k6 k7 : Int) (h : i72a_0 t21_0 t21_1 t21_2 t21_3 t21_4 t21_5 t21_6 t21_7 t21_8 t21_9 t21_10 m1_0 m1_1 m1_2 m3_0 m3_1 m3_2 m3_3 m3_4 m3_5 m3_6 m3_7 m4_0 m4_1 m4_2 m4_3 m4_4 m4_5 m4_6 m4_7 m4_8 m7 m m12_0 m12_1 m12_2 m12_3 m12_4 m12_5 m12_6 m12_7 m12_8 da2 db2 cs2 k0 k1 k2 k3 k4 k5 k6 k7 = true) : r72a t21_0 t21_1 t21_2 t21_3 t21_4 t21_5 t21_6 t21_7 t21_8 t21_9 t21_10 m1_0 m1_1 m1_2 m3_0 m3_1 m3_2 m3_3 m3_4 m3_5 m3_6 m3_7 m4_0 m4_1 m4_2 m4_3 m4_4 m4_5 m4_6 m4_7 m4_8 m7 m m12_0 m12_1 m12_2 m12_3 m12_4 m12_5 m12_6 m12_7 m12_8 da2 db2 cs2 k0 k1 k2 k3 k4 k5 k6 k7 = some (.inl ⟨(v72a_0_m t21_0 t21_1 t21_2 t21_3 t21_4 t21_5 t21_6 t21_7 t21_8 t21_9 t21_10 m1_0 m1_1 m1_2 m3_0 m3_1 m3_2 m3_3 m3_4 m3_5 m3_6 m3_7 m4_0 m4_1 m4_2 m4_3 m4_4 m4_5 m4_6 m4_7 m4_8 m7 m m12_0 m12_1 m12_2 m12_3 m12_4 m12_5 m12_6 m12_7 m12_8 da2 db2 cs2 k0 k1 k2 k3 k4 k5 k6 k7), (v72a_0_m12_0 t21_0 t21_1 t21_2 t21_3 t21_4 t21_5 t21_6 t21_7 t21_8 t21_9 t21_10 m1_0 m1_1 m1_2 m3_0 m3_1 m3_2 m3_3 m3_4 m3_5 m3_6 m3_7 m4_0 m4_1 m4_2 m4_3 m4_4 m4_5 m4_6 m4_7 m4_8 m7 m m12_0 m12_1 m12_2 m12_3 m12_4 m12_5 m12_6 m12_7 m12_8 da2 db2 cs2 k0 k1 k2 k3 k4 k5 k6 k7), (v72a_0_m12_1 t21_0 t21_1 t21_2 t21_3 t21_4 t21_5 t21_6 t21_7 t21_8 t21_9 t21_10 m1_0 m1_1 m1_2 m3_0 m3_1 m3_2 m3_3 m3_4 m3_5 m3_6 m3_7 m4_0 m4_1 m4_2 m4_3 m4_4 m4_5 m4_6 m4_7 m4_8 m7 m m12_0 m12_1 m12_2 m12_3 m12_4 m12_5 m12_6 m12_7 m12_8 da2 db2 cs2 k0 k1 k2 k3 k4 k5 k6 k7), (v72a_0_m12_2 t21_0 t21_1 t21_2 t21_3 t21_4 t21_5 t21_6 t21_7 t21_8 t21_9 t21_10 m1_0 m1_1 m1_2 m3_0 m3_1 m3_2 m3_3 m3_4 m3_5 m3_6 m3_7 m4_0 m4_1 m4_2 m4_3 m4_4 m4_5 m4_6 m4_7 m4_8 m7 m m12_0 m12_1 m12_2 m12_3 m12_4 m12_5 m12_6 m12_7 m12_8 da2 db2 cs2 k0 k1 k2 k3 k4 k5 k6 k7), (v72a_0_m12_3 t21_0 t21_1 t21_2 t21_3 t21_4 t21_5 t21_6 t21_7 t21_8 t21_9 t21_10 m1_0 m1_1 m1_2 m3_0 m3_1 m3_2 m3_3 m3_4 m3_5 m3_6 m3_7 m4_0 m4_1 m4_2 m4_3 m4_4 m4_5 m4_6 m4_7 m4_8 m7 m m12_0 m12_1 m12_2 m12_3 m12_4 m12_5 m12_6 m12_7 m12_8 da2 db2 cs2 k0 k1 k2 k3 k4 k5 k6 k7), (v72a_0_m12_4 t21_0 t21_1 t21_2 t21_3 t21_4 t21_5 t21_6 t21_7 t21_8 t21_9 t21_10 m1_0 m1_1 m1_2 m3_0 m3_1 m3_2 m3_3 m3_4 m3_5 m3_6 m3_7 m4_0 m4_1 m4_2 m4_3 m4_4 m4_5 m4_6 m4_7 m4_8 m7 m m12_0 m12_1 m12_2 m12_3 m12_4 m12_5 m12_6 m12_7 m12_8 da2 db2 cs2 k0 k1 k2 k3 k4 k5 k6 k7), (v72a_0_m12_5 t21_0 t21_1 t21_2 t21_3 t21_4 t21_5 t21_6 t21_7 t21_8 t21_9 t21_10 m1_0 m1_1 m1_2 m3_0 m3_1 m3_2 m3_3 m3_4 m3_5 m3_6 m3_7 m4_0 m4_1 m4_2 m4_3 m4_4 m4_5 m4_6 m4_7 m4_8 m7 m m12_0 m12_1 m12_2 m12_3 m12_4 m12_5 m12_6 m12_7 m12_8 da2 db2 cs2 k0 k1 k2 k3 k4 k5 k6 k7), (v72a_0_m12_6 t21_0 t21_1 t21_2 t21_3 t21_4 t21_5 t21_6 t21_7 t21_8 t21_9 t21_10 m1_0 m1_1 m1_2 m3_0 m3_1 m3_2 m3_3 m3_4 m3_5 m3_6 m3_7 m4_0 m4_1 m4_2 m4_3 m4_4 m4_5 m4_6 m4_7 m4_8 m7 m m12_0 m12_1 m12_2 m12_3 m12_4 m12_5 m12_6 m12_7 m12_8 da2 db2 cs2 k0 k1 k2 k3 k4 k5 k6 k7), (v72a_0_m12_7 t21_0 t21_1 t21_2 t21_3 t21_4 t21_5 t21_6 t21_7 t21_8 t21_9 t21_10 m1_0 m1_1 m1_2 m3_0 m3_1 m3_2 m3_3 m3_4 m3_5 m3_6 m3_7 m4_0 m4_1 m4_2 m4_3 m4_4 m4_5 m4_6 m4_7 m4_8 m7 m m12_0 m12_1 m12_2 m12_3 m12_4 m12_5 m12_6 m12_7 m12_8 da2 db2 cs2 k0 k1 k2 k3 k4 k5 k6 k7), (v72a_0_m12_8 t21_0 t21_1 t21_2 t21_3 t21_4 t21_5 t21_6 t21_7 t21_8 t21_9 t21_10 m1_0 m1_1 m1_2 m3_0 m3_1 m3_2 m3_3 m3_4 m3_5 m3_6 m3_7 m4_0 m4_1 m4_2 m4_3 m4_4 m4_5 m4_6 m4_7 m4_8 m7 m m12_0 m12_1 m12_2 m12_3 m12_4 m12_5 m12_6 m12_7 m12_8 da2 db2 cs2 k0 k1 k2 k3 k4 k5 k6 k7)⟩) := by
  unfold i72a_0 at h
  unfold v72a_0_m v72a_0_m12_0 v72a_0_m12_1 v72a_0_m12_2 v72a_0_m12_3 v72a_0_m12_4 v72a_0_m12_5 v72a_0_m12_6 v72a_0_m12_7 v72a_0_m12_8
  generalize r72a t21_0 t21_1 t21_2 t21_3 t21_4 t21_5 t21_6 t21_7 t21_8 t21_9 t21_10 m1_0 m1_1 m1_2 m3_0 m3_1 m3_2 m3_3 m3_4 m3_5 m3_6 m3_7 m4_0 m4_1 m4_2 m4_3 m4_4 m4_5 m4_6 m4_7 m4_8 m7 m m12_0 m12_1 m12_2 m12_3 m12_4 m12_5 m12_6 m12_7 m12_8 da2 db2 cs2 k0 k1 k2 k3 k4 k5 k6 k7 = r at h ⊢
  rcases r with _ | y
  · cases h
  · rcases y with y | y <;> first | rfl | (cases h; done) | (cases y <;> first | rfl | cases h)
theorem round72a (t21_0 t21_1 : Int) (t21_2 : List (List AV)) (t21_3 t21_4 t21_5 t21_6 t21_7 t21_8 t21_9 t21_10 m1_0 m1_1 : Int) (m1_2 : List (List AV)) (m : List (AV × AV)) (m3_0 m3_1 m3_2 m3_3 m3_4 m3_5 m3_6 m3_7 m4_0 m4_1 m4_2 m4_3 m4_4 m4_5 m4_6 m4_7 m4_8 m7 m12_0 m12_1 m12_2 m12_3 m12_4 m12_5 m12_6 m12_7 m12_8 : Int) (it : List AV) : roundF Try.prog SP2 ro72 L72 [22] as72a bd72a [false, true, false, true, true, true, true] 17 (s72a t21_0 t21_1 t21_2 t21_3 t21_4 t21_5 t21_6 t21_7 t21_8 t21_9 t21_10 m1_0 m1_1 m1_2 m m3_0 m3_1 m3_2 m3_3 m3_4 m3_5 m3_6 m3_7 m4_0 m4_1 m4_2 m4_3 m4_4 m4_5 m4_6 m4_7 m4_8 m7 m12_0 m12_1 m12_2 m12_3 m12_4 m12_5 m12_6 m12_7 m12_8) (enc8 it) =
    cond (inb m7 8) (cond (ctsAt (cts Try.prog 78) (0 + m7.toNat * 1) (cts Try.prog 3) && true) (cond (toI ((([[AV.i IntKind.i64 0, AV.i IntKind.i64 0, AV.i IntKind.i64 0, AV.i IntKind.i64 0, AV.i IntKind.i64 0, AV.i IntKind.i64 0, AV.i IntKind.i64 0, AV.i IntKind.i64 0]].set 0 (setCs ([[AV.i IntKind.i64 0, AV.i IntKind.i64 0, AV.i IntKind.i64 0, AV.i IntKind.i64 0, AV.i IntKind.i64 0, AV.i IntKind.i64 0, AV.i IntKind.i64 0, AV.i IntKind.i64 0]].getD 0 []) 0 [AV.i IntKind.i64 (fI it 0), AV.i IntKind.i64 (fI it 1), AV.i IntKind.i64 (fI it 2), AV.i IntKind.i64 (fI it 3), AV.i IntKind.i64 (fI it 4), AV.i IntKind.i64 (fI it 5), AV.i IntKind.i64 (fI it 6), AV.i IntKind.i64 (fI it 7)])).getD 0 []).getD (0 + m7.toNat * 1) AV.u) == 0) (some (.nrm, s72a t21_0 t21_1 t21_2 t21_3 t21_4 t21_5 t21_6 t21_7 t21_8 t21_9 t21_10 m1_0 m1_1 m1_2 m m3_0 m3_1 m3_2 m3_3 m3_4 m3_5 m3_6 m3_7 m4_0 m4_1 m4_2 m4_3 m4_4 m4_5 m4_6 m4_7 m4_8 m7 m12_0 m12_1 m12_2 m12_3 m12_4 m12_5 m12_6 m12_7 m12_8)) (cond (i72aa_0 (fI it 0) (fI it 1) (fI it 2) (fI it 3) (fI it 4) (fI it 5) (fI it 6) (fI it 7) m1_0 m1_1 m1_2 m m3_0 m3_1 m3_2 m3_3 m3_4 m3_5 m3_6 m3_7 m4_0 m4_1 m4_2 m4_3 m4_4 m4_5 m4_6 m4_7 m4_8 m7 m12_0 m12_1 m12_2 m12_3 m12_4 m12_5 m12_6 m12_7 m12_8 (fI it 0) (fI it 1) (fI it 2) (fI it 3) (fI it 4) (fI it 5) (fI it 6) (fI it 7) 0 (setCs ([[AV.i IntKind.i64 0, AV.i IntKind.i64 0, AV.i IntKind.i64 0, AV.i IntKind.i64 0, AV.i IntKind.i64 0, AV.i IntKind.i64 0, AV.i IntKind.i64 0, AV.i IntKind.i64 0]].getD 0 []) 0 [AV.i IntKind.i64 m3_0, AV.i IntKind.i64 m3_1, AV.i IntKind.i64 m3_2, AV.i IntKind.i64 m3_3, AV.i IntKind.i64 m3_4, AV.i IntKind.i64 m3_5, AV.i IntKind.i64 m3_6, AV.i IntKind.i64 m3_7])) (cond (G72 m1_0 m1_1 m1_2 m m3_0 m3_1 m3_2 m3_3 m3_4 m3_5 m3_6 m3_7 m4_0 m4_1 m4_2 m4_3 m4_4 m4_5 m4_6 m4_7 m4_8 m7 m12_0 m12_1 m12_2 m12_3 m12_4 m12_5 m12_6 m12_7 m12_8 it && true) (cond (decide (IntKind.i64.wrap (1 + (F72 m1_0 m1_1 m1_2 m m3_0 m3_1 m3_2 m3_3 m3_4 m3_5 m3_6 m3_7 m4_0 m4_1 m4_2 m4_3 m4_4 m4_5 m4_6 m4_7 m4_8 m7 m12_0 m12_1 m12_2 m12_3 m12_4 m12_5 m12_6 m12_7 m12_8 it).fst 8) < m12_8)) (some (.nrm, s72a t21_0 t21_1 t21_2 t21_3 t21_4 t21_5 t21_6 t21_7 t21_8 t21_9 t21_10 m1_0 m1_1 m1_2 ((F72 m1_0 m1_1 m1_2 m m3_0 m3_1 m3_2 m3_3 m3_4 m3_5 m3_6 m3_7 m4_0 m4_1 m4_2 m4_3 m4_4 m4_5 m4_6 m4_7 m4_8 m7 m12_0 m12_1 m12_2 m12_3 m12_4 m12_5 m12_6 m12_7 m12_8 it).snd) m3_0 m3_1 m3_2 m3_3 m3_4 m3_5 m3_6 m3_7 m4_0 m4_1 m4_2 m4_3 m4_4 m4_5 m4_6 m4_7 m4_8 m7 (fI it 0) (fI it 1) (fI it 2) (fI it 3) (fI it 4) (fI it 5) (fI it 6) (fI it 7) (IntKind.i64.wrap (1 + (F72 m1_0 m1_1 m1_2 m m3_0 m3_1 m3_2 m3_3 m3_4 m3_5 m3_6 m3_7 m4_0 m4_1 m4_2 m4_3 m4_4 m4_5 m4_6 m4_7 m4_8 m7 m12_0 m12_1 m12_2 m12_3 m12_4 m12_5 m12_6 m12_7 m12_8 it).fst 8)))) (some (.nrm, s72a t21_0 t21_1 t21_2 t21_3 t21_4 t21_5 t21_6 t21_7 t21_8 t21_9 t21_10 m1_0 m1_1 m1_2 ((F72 m1_0 m1_1 m1_2 m m3_0 m3_1 m3_2 m3_3 m3_4 m3_5 m3_6 m3_7 m4_0 m4_1 m4_2 m4_3 m4_4 m4_5 m4_6 m4_7 m4_8 m7 m12_0 m12_1 m12_2 m12_3 m12_4 m12_5 m12_6 m12_7 m12_8 it).snd) m3_0 m3_1 m3_2 m3_3 m3_4 m3_5 m3_6 m3_7 m4_0 m4_1 m4_2 m4_3 m4_4 m4_5 m4_6 m4_7 m4_8 m7 m12_0 m12_1 m12_2 m12_3 m12_4 m12_5 m12_6 m12_7 m12_8))) (none)) (none))) (none)) (none) := by kernel_rfl
theorem rnd72a (t21_0 t21_1 : Int) (t21_2 : List (List AV)) (t21_3 t21_4 t21_5 t21_6 t21_7 t21_8 t21_9 t21_10 m1_0 m1_1 : Int) (m1_2 : List (List AV)) (m3_0 m3_1 m3_2 m3_3 m3_4 m3_5 m3_6 m3_7 m4_0 m4_1 m4_2 m4_3 m4_4 m4_5 m4_6 m4_7 m4_8 m7 : Int) (x : S72a) (it : List AV) : roundF Try.prog SP2 ro72 L72 [22] as72a bd72a [false, true, false, true, true, true, true] 17 ((fun x => s72a t21_0 t21_1 t21_2 t21_3 t21_4 t21_5 t21_6 t21_7 t21_8 t21_9 t21_10 m1_0 m1_1 m1_2 x.m m3_0 m3_1 m3_2 m3_3 m3_4 m3_5 m3_6 m3_7 m4_0 m4_1 m4_2 m4_3 m4_4 m4_5 m4_6 m4_7 m4_8 m7 x.m12_0 x.m12_1 x.m12_2 x.m12_3 x.m12_4 x.m12_5 x.m12_6 x.m12_7 x.m12_8) x) (enc8 it) = toR (fun x => s72a t21_0 t21_1 t21_2 t21_3 t21_4 t21_5 t21_6 t21_7 t21_8 t21_9 t21_10 m1_0 m1_1 m1_2 x.m m3_0 m3_1 m3_2 m3_3 m3_4 m3_5 m3_6 m3_7 m4_0 m4_1 m4_2 m4_3 m4_4 m4_5 m4_6 m4_7 m4_8 m7 x.m12_0 x.m12_1 x.m12_2 x.m12_3 x.m12_4 x.m12_5 x.m12_6 x.m12_7 x.m12_8) (ou72a t21_0 t21_1 t21_2 t21_3 t21_4 t21_5 t21_6 t21_7 t21_8 t21_9 t21_10 m1_0 m1_1 m1_2 m3_0 m3_1 m3_2 m3_3 m3_4 m3_5 m3_6 m3_7 m4_0 m4_1 m4_2 m4_3 m4_4 m4_5 m4_6 m4_7 m4_8 m7) (stp72a t21_0 t21_1 t21_2 t21_3 t21_4 t21_5 t21_6 t21_7 t21_8 t21_9 t21_10 m1_0 m1_1 m1_2 m3_0 m3_1 m3_2 m3_3 m3_4 m3_5 m3_6 m3_7 m4_0 m4_1 m4_2 m4_3 m4_4 m4_5 m4_6 m4_7 m4_8 m7 x.m x.m12_0 x.m12_1 x.m12_2 x.m12_3 x.m12_4 x.m12_5 x.m12_6 x.m12_7 x.m12_8 it) := by
  refine (round72a _ _ _ _ _ _ _ _ _ _ _ _ _ _ _ _ _ _ _ _ _ _ _ _ _ _ _ _ _ _ _ _ _ _ _ _ _ _ _ _ _ _ _ ).trans ?_
  unfold stp72a
  simp only [toR_cond]
  rfl
theorem lok72a {st : St} {outs : List (Bool × Ex × St)} {e : Ex} {s : St} {lo : Nat} (hlo : lo ≤ st.nx) (hl : l72a st = some outs) (hch : Chosen outs e s) :
    ∃ keep nb, lo ≤ nb ∧ RB Try.prog SP2 ro72 L72 (.tmp 21) [22] as72a bd72a [false, true, false, true, true, true, true] keep nb st e s := by
  unfold l72a at hl
  split at hl
  · rename_i t21_0 t21_1 t21_2 t21_3 t21_4 t21_5 t21_6 t21_7 t21_8 t21_9 t21_10 m1_0 m1_1 m1_2 m m3_0 m3_1 m3_2 m3_3 m3_4 m3_5 m3_6 m3_7 m4_0 m4_1 m4_2 m4_3 m4_4 m4_5 m4_6 m4_7 m4_8 m7 m12_0 m12_1 m12_2 m12_3 m12_4 m12_5 m12_6 m12_7 m12_8 da2 db2 cs2 k0 k1 k2 k3 k4 k5 k6 k7 hno hgf
    cases hl
    obtain ⟨hnx, hno⟩ := normV_norm hno
    obtain ⟨x, hx, hg, rfl, rfl⟩ := chosen_any hch
    simp only [List.mem_cons, List.not_mem_nil, or_false] at hx
    subst hx
    have hgg := (Bool.and_eq_true_iff.1 hg).1
    have main := fun y h => rounds_iter (x := (⟨m, m12_0, m12_1, m12_2, m12_3, m12_4, m12_5, m12_6, m12_7, m12_8⟩ : S72a)) (y := y) (nb := 17) (fun y => by cases y <;> simp [ou72a]) (rnd72a t21_0 t21_1 t21_2 t21_3 t21_4 t21_5 t21_6 t21_7 t21_8 t21_9 t21_10 m1_0 m1_1 m1_2 m3_0 m3_1 m3_2 m3_3 m3_4 m3_5 m3_6 m3_7 m4_0 m4_1 m4_2 m4_3 m4_4 m4_5 m4_6 m4_7 m4_8 m7) (xs := patX da2 db2 cs2 k0 k1 k2 k3 k4 k5 k6 k7) h
    refine ⟨_, _, hnx ▸ hlo, _, _, (patX da2 db2 cs2 k0 k1 k2 k3 k4 k5 k6 k7).map enc8, _, hgf, by kernel_rfl, patX_con hgg, fun x hx => enc8_len hx, fun q hq => ?_, hno, rfl, ?_⟩
    · have hn := norm_nt hno
      simp only [List.mem_cons, List.not_mem_nil, or_false] at hq
      subst hq
      rw [← hn]
      exact Nat.le_of_ble_eq_true rfl
    rw [show liveOnly Try.prog { t := (([(2, none), (3, none), (4, none), (5, none), (6, none), (7, none), (21, none)] : List (Nat × Option TypeId)).map Prod.fst).zip [.p 0 0 0, .p 1 0 0, .p 3 0 0, .p 4 0 0, .p 7 0 0, .p 12 0 0, .fn 39 [.rp [.int .i64, .int .i64, .sl 44] [.i .i64 t21_0, .i .i64 t21_1, .rs 44 t21_2] 0, .rp [.int .i64, .int .i64, .int .i64, .int .i64, .int .i64, .int .i64, .int .i64, .int .i64] [.i .i64 t21_3, .i .i64 t21_4, .i .i64 t21_5, .i .i64 t21_6, .i .i64 t21_7, .i .i64 t21_8, .i .i64 t21_9, .i .i64 t21_10] 0]], m := [(0, .row 75 [[.mp 2]]), (1, .row 76 [[.fn 18 [.rp [.int .i64, .int .i64, .sl 44] [.i .i64 m1_0, .i .i64 m1_1, .rs 44 m1_2] 0, .p 0 0 0, .p 1 0 0]]]), (2, .mp 78 80 m), (3, .row 78 [[.i .i64 m3_0, .i .i64 m3_1, .i .i64 m3_2, .i .i64 m3_3, .i .i64 m3_4, .i .i64 m3_5, .i .i64 m3_6, .i .i64 m3_7]]), (4, .row 80 [[.i .i64 m4_0, .i .i64 m4_1, .i .i64 m4_2, .i .i64 m4_3, .i .i64 m4_4, .i .i64 m4_5, .i .i64 m4_6, .i .i64 m4_7, .i .i64 m4_8]]), (5, .dead), (6, .dead), (7, .row 3 [[.i .i64 m7]]), (8, .dead), (9, .dead), (10, .dead), (11, .dead), (12, .row 80 [[.i .i64 m12_0, .i .i64 m12_1, .i .i64 m12_2, .i .i64 m12_3, .i .i64 m12_4, .i .i64 m12_5, .i .i64 m12_6, .i .i64 m12_7, .i .i64 m12_8]]), (13, .dead), (14, .dead), (15, .dead), (16, .dead)], nx := 17, nt := 53 } = s72a t21_0 t21_1 t21_2 t21_3 t21_4 t21_5 t21_6 t21_7 t21_8 t21_9 t21_10 m1_0 m1_1 m1_2 m m3_0 m3_1 m3_2 m3_3 m3_4 m3_5 m3_6 m3_7 m4_0 m4_1 m4_2 m4_3 m4_4 m4_5 m4_6 m4_7 m4_8 m7 m12_0 m12_1 m12_2 m12_3 m12_4 m12_5 m12_6 m12_7 m12_8 from by kernel_rfl]
    exact main _ (is72a_0 t21_0 t21_1 t21_2 t21_3 t21_4 t21_5 t21_6 t21_7 t21_8 t21_9 t21_10 m1_0 m1_1 m1_2 m3_0 m3_1 m3_2 m3_3 m3_4 m3_5 m3_6 m3_7 m4_0 m4_1 m4_2 m4_3 m4_4 m4_5 m4_6 m4_7 m4_8 m7 m m12_0 m12_1 m12_2 m12_3 m12_4 m12_5 m12_6 m12_7 m12_8 da2 db2 cs2 k0 k1 k2 k3 k4 k5 k6 k7 (Bool.and_eq_true_iff.1 hg).2)
  · cases hl
theorem L72_ok (q : Pl) (c : Code) (hq : locate c72 q.reverse = some (.loop c)) (lo : Nat) (st : St) (outs : List (Bool × Ex × St)) (e : Ex) (s : St) (hlo : lo ≤ st.nx) (hl : L72 q st = some outs) (hch : Chosen outs e s) :
    ∃ keep nb, lo ≤ nb ∧ LB Try.prog SP2 ro72 L72 c q keep nb st e s := by
  unfold L72 at hl
  split at hl
  · have : locate c72 ([false, true, false, true, true, false, true, false, true, false, true, true, true, true] : Pl).reverse = some (.loop lp72aa) := by kernel_rfl
    rw [this] at hq
    cases hq
    exact lok72aa hlo hl hch
  · have : locate c72 ([false, true, false, true, true, true, true] : Pl).reverse = some (.rangeFunc (.tmp 21) #[22] as72a bd72a) := by kernel_rfl
    rw [this] at hq
    cases hq
  · cases hl
theorem L72_okR (q : Pl) (g : Operand) (ps : Array Nat) (a b : Code) (hq : locate c72 q.reverse = some (.rangeFunc g ps a b)) (lo : Nat) (st : St) (outs : List (Bool × Ex × St)) (e : Ex) (s : St) (hlo : lo ≤ st.nx) (hl : L72 q st = some outs) (hch : Chosen outs e s) :
    ∃ keep nb, lo ≤ nb ∧ RB Try.prog SP2 ro72 L72 g ps.toList a b q keep nb st e s := by
  unfold L72 at hl
  split at hl
  · have : locate c72 ([false, true, false, true, true, false, true, false, true, false, true, true, true, true] : Pl).reverse = some (.loop lp72aa) := by kernel_rfl
    rw [this] at hq
    cases hq
  · have : locate c72 ([false, true, false, true, true, true, true] : Pl).reverse = some (.rangeFunc (.tmp 21) #[22] as72a bd72a) := by kernel_rfl
    rw [this] at hq
    cases hq
    exact lok72a hlo hl hch
  · cases hl
theorem lok72 : LOK Try.prog SP2 ro72 L72 3 false c72 [] :=
  lok_gen L72_ok L72_okR c72 [] 3 false (locate_nil _) (by kernel_rfl)
noncomputable def t72 (da db : Int) (cs : List (List AV)) (da' db' : Int) (cs' : List (List AV)) (q0 q1 q2 q3 q4 q5 q6 q7 : Int) (m : List (AV × AV)) : Tr ((Int) × (Int) × (Int) × (Int) × (Int) × (Int) × (Int) × (Int) × (Int) × (Int) × (Int) × (List (List AV)) × (List (AV × AV))) :=
  .cn (g73q q0 q1 q2 q3 q4 q5 q6 q7 && true) (.cn (decide (w73q_0 q0 q1 q2 q3 q4 q5 q6 q7 < 0)) (.lf (0, 0, 0, 0, 0, 0, 0, 0, 0, da', db', cs', m)) (.cn (okP da db cs (w73q_1 q0 q1 q2 q3 q4 q5 q6 q7) (w73q_2 q0 q1 q2 q3 q4 q5 q6 q7) (w73q_3 q0 q1 q2 q3 q4 q5 q6 q7) (w73q_4 q0 q1 q2 q3 q4 q5 q6 q7) (w73q_5 q0 q1 q2 q3 q4 q5 q6 q7) (w73q_6 q0 q1 q2 q3 q4 q5 q6 q7) (w73q_7 q0 q1 q2 q3 q4 q5 q6 q7) (w73q_8 q0 q1 q2 q3 q4 q5 q6 q7) && i72a_0 da db cs (w73q_1 q0 q1 q2 q3 q4 q5 q6 q7) (w73q_2 q0 q1 q2 q3 q4 q5 q6 q7) (w73q_3 q0 q1 q2 q3 q4 q5 q6 q7) (w73q_4 q0 q1 q2 q3 q4 q5 q6 q7) (w73q_5 q0 q1 q2 q3 q4 q5 q6 q7) (w73q_6 q0 q1 q2 q3 q4 q5 q6 q7) (w73q_7 q0 q1 q2 q3 q4 q5 q6 q7) (w73q_8 q0 q1 q2 q3 q4 q5 q6 q7) da' db' cs' (w73q_1 q0 q1 q2 q3 q4 q5 q6 q7) (w73q_2 q0 q1 q2 q3 q4 q5 q6 q7) (w73q_3 q0 q1 q2 q3 q4 q5 q6 q7) (w73q_4 q0 q1 q2 q3 q4 q5 q6 q7) (w73q_5 q0 q1 q2 q3 q4 q5 q6 q7) (w73q_6 q0 q1 q2 q3 q4 q5 q6 q7) (w73q_7 q0 q1 q2 q3 q4 q5 q6 q7) (w73q_8 q0 q1 q2 q3 q4 q5 q6 q7) 0 0 0 0 0 0 0 0 0 (w73q_0 q0 q1 q2 q3 q4 q5 q6 q7) m 0 0 0 0 0 0 0 0 13 da db cs (w73q_1 q0 q1 q2 q3 q4 q5 q6 q7) (w73q_2 q0 q1 q2 q3 q4 q5 q6 q7) (w73q_3 q0 q1 q2 q3 q4 q5 q6 q7) (w73q_4 q0 q1 q2 q3 q4 q5 q6 q7) (w73q_5 q0 q1 q2 q3 q4 q5 q6 q7) (w73q_6 q0 q1 q2 q3 q4 q5 q6 q7) (w73q_7 q0 q1 q2 q3 q4 q5 q6 q7) (w73q_8 q0 q1 q2 q3 q4 q5 q6 q7)) (.lf (v72a_0_m12_0 da db cs (w73q_1 q0 q1 q2 q3 q4 q5 q6 q7) (w73q_2 q0 q1 q2 q3 q4 q5 q6 q7) (w73q_3 q0 q1 q2 q3 q4 q5 q6 q7) (w73q_4 q0 q1 q2 q3 q4 q5 q6 q7) (w73q_5 q0 q1 q2 q3 q4 q5 q6 q7) (w73q_6 q0 q1 q2 q3 q4 q5 q6 q7) (w73q_7 q0 q1 q2 q3 q4 q5 q6 q7) (w73q_8 q0 q1 q2 q3 q4 q5 q6 q7) da' db' cs' (w73q_1 q0 q1 q2 q3 q4 q5 q6 q7) (w73q_2 q0 q1 q2 q3 q4 q5 q6 q7) (w73q_3 q0 q1 q2 q3 q4 q5 q6 q7) (w73q_4 q0 q1 q2 q3 q4 q5 q6 q7) (w73q_5 q0 q1 q2 q3 q4 q5 q6 q7) (w73q_6 q0 q1 q2 q3 q4 q5 q6 q7) (w73q_7 q0 q1 q2 q3 q4 q5 q6 q7) (w73q_8 q0 q1 q2 q3 q4 q5 q6 q7) 0 0 0 0 0 0 0 0 0 (w73q_0 q0 q1 q2 q3 q4 q5 q6 q7) m 0 0 0 0 0 0 0 0 13 da db cs (w73q_1 q0 q1 q2 q3 q4 q5 q6 q7) (w73q_2 q0 q1 q2 q3 q4 q5 q6 q7) (w73q_3 q0 q1 q2 q3 q4 q5 q6 q7) (w73q_4 q0 q1 q2 q3 q4 q5 q6 q7) (w73q_5 q0 q1 q2 q3 q4 q5 q6 q7) (w73q_6 q0 q1 q2 q3 q4 q5 q6 q7) (w73q_7 q0 q1 q2 q3 q4 q5 q6 q7) (w73q_8 q0 q1 q2 q3 q4 q5 q6 q7), v72a_0_m12_1 da db cs (w73q_1 q0 q1 q2 q3 q4 q5 q6 q7) (w73q_2 q0 q1 q2 q3 q4 q5 q6 q7) (w73q_3 q0 q1 q2 q3 q4 q5 q6 q7) (w73q_4 q0 q1 q2 q3 q4 q5 q6 q7) (w73q_5 q0 q1 q2 q3 q4 q5 q6 q7) (w73q_6 q0 q1 q2 q3 q4 q5 q6 q7) (w73q_7 q0 q1 q2 q3 q4 q5 q6 q7) (w73q_8 q0 q1 q2 q3 q4 q5 q6 q7) da' db' cs' (w73q_1 q0 q1 q2 q3 q4 q5 q6 q7) (w73q_2 q0 q1 q2 q3 q4 q5 q6 q7) (w73q_3 q0 q1 q2 q3 q4 q5 q6 q7) (w73q_4 q0 q1 q2 q3 q4 q5 q6 q7) (w73q_5 q0 q1 q2 q3 q4 q5 q6 q7) (w73q_6 q0 q1 q2 q3 q4 q5 q6 q7) (w73q_7 q0 q1 q2 q3 q4 q5 q6 q7) (w73q_8 q0 q1 q2 q3 q4 q5 q6 q7) 0 0 0 0 0 0 0 0 0 (w73q_0 q0 q1 q2 q3 q4 q5 q6 q7) m 0 0 0 0 0 0 0 0 13 da db cs (w73q_1 q0 q1 q2 q3 q4 q5 q6 q7) (w73q_2 q0 q1 q2 q3 q4 q5 q6 q7) (w73q_3 q0 q1 q2 q3 q4 q5 q6 q7) (w73q_4 q0 q1 q2 q3 q4 q5 q6 q7) (w73q_5 q0 q1 q2 q3 q4 q5 q6 q7) (w73q_6 q0 q1 q2 q3 q4 q5 q6 q7) (w73q_7 q0 q1 q2 q3 q4 q5 q6 q7) (w73q_8 q0 q1 q2 q3 q4 q5 q6 q7), v72a_0_m12_2 da db cs (w73q_1 q0 q1 q2 q3 q4 q5 q6 q7) (w73q_2 q0 q1 q2 q3 q4 q5 q6 q7) (w73q_3 q0 q1 q2 q3 q4 q5 q6 q7) (w73q_4 q0 q1 q2 q3 q4 q5 q6 q7) (w73q_5 q0 q1 q2 q3 q4 q5 q6 q7) (w73q_6 q0 q1 q2 q3 q4 q5 q6 q7) (w73q_7 q0 q1 q2 q3 q4 q5 q6 q7) (w73q_8 q0 q1 q2 q3 q4 q5 q6 q7) da' db' cs' (w73q_1 q0 q1 q2 q3 q4 q5 q6 q7) (w73q_2 q0 q1 q2 q3 q4 q5 q6 q7) (w73q_3 q0 q1 q2 q3 q4 q5 q6 q7) (w73q_4 q0 q1 q2 q3 q4 q5 q6 q7) (w73q_5 q0 q1 q2 q3 q4 q5 q6 q7) (w73q_6 q0 q1 q2 q3 q4 q5 q6 q7) (w73q_7 q0 q1 q2 q3 q4 q5 q6 q7) (w73q_8 q0 q1 q2 q3 q4 q5 q6 q7) 0 0 0 0 0 0 0 0 0 (w73q_0 q0 q1 q2 q3 q4 q5 q6 q7) m 0 0 0 0 0 0 0 0 13 da db cs (w73q_1 q0 q1 q2 q3 q4 q5 q6 q7) (w73q_2 q0 q1 q2 q3 q4 q5 q6 q7) (w73q_3 q0 q1 q2 q3 q4 q5 q6 q7) (w73q_4 q0 q1 q2 q3 q4 q5 q6 q7) (w73q_5 q0 q1 q2 q3 q4 q5 q6 q7) (w73q_6 q0 q1 q2 q3 q4 q5 q6 q7) (w73q_7 q0 q1 q2 q3 q4 q5 q6 q7) (w73q_8 q0 q1 q2 q3 q4 q5 q6 q7), v72a_0_m12_3 da db cs (w73q_1 q0 q1 q2 q3 q4 q5 q6 q7) (w73q_2 q0 q1 q2 q3 q4 q5 q6 q7) (w73q_3 q0 q1 q2 q3 q4 q5 q6 q7) (w73q_4 q0 q1 q2 q3 q4 q5 q6 q7) (w73q_5 q0 q1 q2 q3 q4 q5 q6 q7) (w73q_6 q0 q1 q2 q3 q4 q5 q6 q7) (w73q_7 q0 q1 q2 q3 q4 q5 q6 q7) (w73q_8 q0 q1 q2 q3 q4 q5 q6 q7) da' db' cs' (w73q_1 q0 q1 q2 q3 q4 q5 q6 q7) (w73q_2 q0 q1 q2 q3 q4 q5 q6 q7) (w73q_3 q0 q1 q2 q3 q4 q5 q6 q7) (w73q_4 q0 q1 q2 q3 q4 q5 q6 q7) (w73q_5 q0 q1 q2 q3 q4 q5 q6 q7) (w73q_6 q0 q1 q2 q3 q4 q5 q6 q7) (w73q_7 q0 q1 q2 q3 q4 q5 q6 q7) (w73q_8 q0 q1 q2 q3 q4 q5 q6 q7) 0 0 0 0 0 0 0 0 0 (w73q_0 q0 q1 q2 q3 q4 q5 q6 q7) m 0 0 0 0 0 0 0 0 13 da db cs (w73q_1 q0 q1 q2 q3 q4 q5 q6 q7) (w73q_2 q0 q1 q2 q3 q4 q5 q6 q7) (w73q_3 q0 q1 q2 q3 q4 q5 q6 q7) (w73q_4 q0 q1 q2 q3 q4 q5 q6 q7) (w73q_5 q0 q1 q2 q3 q4 q5 q6 q7) (w73q_6 q0 q1 q2 q3 q4 q5 q6 q7) (w73q_7 q0 q1 q2 q3 q4 q5 q6 q7) (w73q_8 q0 q1 q2 q3 q4 q5 q6 q7), v72a_0_m12_4 da db cs (w73q_1 q0 q1 q2 q3 q4 q5 q6 q7) (w73q_2 q0 q1 q2 q3 q4 q5 q6 q7) (w73q_3 q0 q1 q2 q3 q4 q5 q6 q7) (w73q_4 q0 q1 q2 q3 q4 q5 q6 q7) (w73q_5 q0 q1 q2 q3 q4 q5 q6 q7) (w73q_6 q0 q1 q2 q3 q4 q5 q6 q7) (w73q_7 q0 q1 q2 q3 q4 q5 q6 q7) (w73q_8 q0 q1 q2 q3 q4 q5 q6 q7) da' db' cs' (w73q_1 q0 q1 q2 q3 q4 q5 q6 q7) (w73q_2 q0 q1 q2 q3 q4 q5 q6 q7) (w73q_3 q0 q1 q2 q3 q4 q5 q6 q7) (w73q_4 q0 q1 q2 q3 q4 q5 q6 q7) (w73q_5 q0 q1 q2 q3 q4 q5 q6 q7) (w73q_6 q0 q1 q2 q3 q4 q5 q6 q7) (w73q_7 q0 q1 q2 q3 q4 q5 q6 q7) (w73q_8 q0 q1 q2 q3 q4 q5 q6 q7) 0 0 0 0 0 0 0 0 0 (w73q_0 q0 q1 q2 q3 q4 q5 q6 q7) m 0 0 0 0 0 0 0 0 13 da db cs (w73q_1 q0 q1 q2 q3 q4 q5 q6 q7) (w73q_2 q0 q1 q2 q3 q4 q5 q6 q7) (w73q_3 q0 q1 q2 q3 q4 q5 q6 q7) (w73q_4 q0 q1 q2 q3 q4 q5 q6 q7) (w73q_5 q0 q1 q2 q3 q4 q5 q6 q7) (w73q_6 q0 q1 q2 q3 q4 q5 q6 q7) (w73q_7 q0 q1 q2 q3 q4 q5 q6 q7) (w73q_8 q0 q1 q2 q3 q4 q5 q6 q7), v72a_0_m12_5 da db cs (w73q_1 q0 q1 q2 q3 q4 q5 q6 q7) (w73q_2 q0 q1 q2 q3 q4 q5 q6 q7) (w73q_3 q0 q1 q2 q3 q4 q5 q6 q7) (w73q_4 q0 q1 q2 q3 q4 q5 q6 q7) (w73q_5 q0 q1 q2 q3 q4 q5 q6 q7) (w73q_6 q0 q1 q2 q3 q4 q5 q6 q7) (w73q_7 q0 q1 q2 q3 q4 q5 q6 q7) (w73q_8 q0 q1 q2 q3 q4 q5 q6 q7) da' db' cs' (w73q_1 q0 q1 q2 q3 q4 q5 q6 q7) (w73q_2 q0 q1 q2 q3 q4 q5 q6 q7) (w73q_3 q0 q1 q2 q3 q4 q5 q6 q7) (w73q_4 q0 q1 q2 q3 q4 q5 q6 q7) (w73q_5 q0 q1 q2 q3 q4 q5 q6 q7) (w73q_6 q0 q1 q2 q3 q4 q5 q6 q7) (w73q_7 q0 q1 q2 q3 q4 q5 q6 q7) (w73q_8 q0 q1 q2 q3 q4 q5 q6 q7) 0 0 0 0 0 0 0 0 0 (w73q_0 q0 q1 q2 q3 q4 q5 q6 q7) m 0 0 0 0 0 0 0 0 13 da db cs (w73q_1 q0 q1 q2 q3 q4 q5 q6 q7) (w73q_2 q0 q1 q2 q3 q4 q5 q6 q7) (w73q_3 q0 q1 q2 q3 q4 q5 q6 q7) (w73q_4 q0 q1 q2 q3 q4 q5 q6 q7) (w73q_5 q0 q1 q2 q3 q4 q5 q6 q7) (w73q_6 q0 q1 q2 q3 q4 q5 q6 q7) (w73q_7 q0 q1 q2 q3 q4 q5 q6 q7) (w73q_8 q0 q1 q2 q3 q4 q5 q6 q7), v72a_0_m12_6 da db cs (w73q_1 q0 q1 q2 q3 q4 q5 q6 q7) (w73q_2 q0 q1 q2 q3 q4 q5 q6 q7) (w73q_3 q0 q1 q2 q3 q4 q5 q6 q7) (w73q_4 q0 q1 q2 q3 q4 q5 q6 q7) (w73q_5 q0 q1 q2 q3 q4 q5 q6 q7) (w73q_6 q0 q1 q2 q3 q4 q5 q6 q7) (w73q_7 q0 q1 q2 q3 q4 q5 q6 q7) (w73q_8 q0 q1 q2 q3 q4 q5 q6 q7) da' db' cs' (w73q_1 q0 q1 q2 q3 q4 q5 q6 q7) (w73q_2 q0 q1 q2 q3 q4 q5 q6 q7) (w73q_3 q0 q1 q2 q3 q4 q5 q6 q7) (w73q_4 q0 q1 q2 q3 q4 q5 q6 q7) (w73q_5 q0 q1 q2 q3 q4 q5 q6 q7) (w73q_6 q0 q1 q2 q3 q4 q5 q6 q7) (w73q_7 q0 q1 q2 q3 q4 q5 q6 q7) (w73q_8 q0 q1 q2 q3 q4 q5 q6 q7) 0 0 0 0 0 0 0 0 0 (w73q_0 q0 q1 q2 q3 q4 q5 q6 q7) m 0 0 0 0 0 0 0 0 13 da db cs (w73q_1 q0 q1 q2 q3 q4 q5 q6 q7) (w73q_2 q0 q1 q2 q3 q4 q5 q6 q7) (w73q_3 q0 q1 q2 q3 q4 q5 q6 q7) (w73q_4 q0 q1 q2 q3 q4 q5 q6 q7) (w73q_5 q0 q1 q2 q3 q4 q5 q6 q7) (w73q_6 q0 q1 q2 q3 q4 q5 q6 q7) (w73q_7 q0 q1 q2 q3 q4 q5 q6 q7) (w73q_8 q0 q1 q2 q3 q4 q5 q6 q7), v72a_0_m12_7 da db cs (w73q_1 q0 q1 q2 q3 q4 q5 q6 q7) (w73q_2 q0 q1 q2 q3 q4 q5 q6 q7) (w73q_3 q0 q1 q2 q3 q4 q5 q6 q7) (w73q_4 q0 q1 q2 q3 q4 q5 q6 q7) (w73q_5 q0 q1 q2 q3 q4 q5 q6 q7) (w73q_6 q0 q1 q2 q3 q4 q5 q6 q7) (w73q_7 q0 q1 q2 q3 q4 q5 q6 q7) (w73q_8 q0 q1 q2 q3 q4 q5 q6 q7) da' db' cs' (w73q_1 q0 q1 q2 q3 q4 q5 q6 q7) (w73q_2 q0 q1 q2 q3 q4 q5 q6 q7) (w73q_3 q0 q1 q2 q3 q4 q5 q6 q7) (w73q_4 q0 q1 q2 q3 q4 q5 q6 q7) (w73q_5 q0 q1 q2 q3 q4 q5 q6 q7) (w73q_6 q0 q1 q2 q3 q4 q5 q6 q7) (w73q_7 q0 q1 q2 q3 q4 q5 q6 q7) (w73q_8 q0 q1 q2 q3 q4 q5 q6 q7) 0 0 0 0 0 0 0 0 0 (w73q_0 q0 q1 q2 q3 q4 q5 q6 q7) m 0 0 0 0 0 0 0 0 13 da db cs (w73q_1 q0 q1 q2 q3 q4 q5 q6 q7) (w73q_2 q0 q1 q2 q3 q4 q5 q6 q7) (w73q_3 q0 q1 q2 q3 q4 q5 q6 q7) (w73q_4 q0 q1 q2 q3 q4 q5 q6 q7) (w73q_5 q0 q1 q2 q3 q4 q5 q6 q7) (w73q_6 q0 q1 q2 q3 q4 q5 q6 q7) (w73q_7 q0 q1 q2 q3 q4 q5 q6 q7) (w73q_8 q0 q1 q2 q3 q4 q5 q6 q7), v72a_0_m12_8 da db cs (w73q_1 q0 q1 q2 q3 q4 q5 q6 q7) (w73q_2 q0 q1 q2 q3 q4 q5 q6 q7) (w73q_3 q0 q1 q2 q3 q4 q5 q6 q7) (w73q_4 q0 q1 q2 q3 q4 q5 q6 q7) (w73q_5 q0 q1 q2 q3 q4 q5 q6 q7) (w73q_6 q0 q1 q2 q3 q4 q5 q6 q7) (w73q_7 q0 q1 q2 q3 q4 q5 q6 q7) (w73q_8 q0 q1 q2 q3 q4 q5 q6 q7) da' db' cs' (w73q_1 q0 q1 q2 q3 q4 q5 q6 q7) (w73q_2 q0 q1 q2 q3 q4 q5 q6 q7) (w73q_3 q0 q1 q2 q3 q4 q5 q6 q7) (w73q_4 q0 q1 q2 q3 q4 q5 q6 q7) (w73q_5 q0 q1 q2 q3 q4 q5 q6 q7) (w73q_6 q0 q1 q2 q3 q4 q5 q6 q7) (w73q_7 q0 q1 q2 q3 q4 q5 q6 q7) (w73q_8 q0 q1 q2 q3 q4 q5 q6 q7) 0 0 0 0 0 0 0 0 0 (w73q_0 q0 q1 q2 q3 q4 q5 q6 q7) m 0 0 0 0 0 0 0 0 13 da db cs (w73q_1 q0 q1 q2 q3 q4 q5 q6 q7) (w73q_2 q0 q1 q2 q3 q4 q5 q6 q7) (w73q_3 q0 q1 q2 q3 q4 q5 q6 q7) (w73q_4 q0 q1 q2 q3 q4 q5 q6 q7) (w73q_5 q0 q1 q2 q3 q4 q5 q6 q7) (w73q_6 q0 q1 q2 q3 q4 q5 q6 q7) (w73q_7 q0 q1 q2 q3 q4 q5 q6 q7) (w73q_8 q0 q1 q2 q3 q4 q5 q6 q7), da', db', cs', v72a_0_m da db cs (w73q_1 q0 q1 q2 q3 q4 q5 q6 q7) (w73q_2 q0 q1 q2 q3 q4 q5 q6 q7) (w73q_3 q0 q1 q2 q3 q4 q5 q6 q7) (w73q_4 q0 q1 q2 q3 q4 q5 q6 q7) (w73q_5 q0 q1 q2 q3 q4 q5 q6 q7) (w73q_6 q0 q1 q2 q3 q4 q5 q6 q7) (w73q_7 q0 q1 q2 q3 q4 q5 q6 q7) (w73q_8 q0 q1 q2 q3 q4 q5 q6 q7) da' db' cs' (w73q_1 q0 q1 q2 q3 q4 q5 q6 q7) (w73q_2 q0 q1 q2 q3 q4 q5 q6 q7) (w73q_3 q0 q1 q2 q3 q4 q5 q6 q7) (w73q_4 q0 q1 q2 q3 q4 q5 q6 q7) (w73q_5 q0 q1 q2 q3 q4 q5 q6 q7) (w73q_6 q0 q1 q2 q3 q4 q5 q6 q7) (w73q_7 q0 q1 q2 q3 q4 q5 q6 q7) (w73q_8 q0 q1 q2 q3 q4 q5 q6 q7) 0 0 0 0 0 0 0 0 0 (w73q_0 q0 q1 q2 q3 q4 q5 q6 q7) m 0 0 0 0 0 0 0 0 13 da db cs (w73q_1 q0 q1 q2 q3 q4 q5 q6 q7) (w73q_2 q0 q1 q2 q3 q4 q5 q6 q7) (w73q_3 q0 q1 q2 q3 q4 q5 q6 q7) (w73q_4 q0 q1 q2 q3 q4 q5 q6 q7) (w73q_5 q0 q1 q2 q3 q4 q5 q6 q7) (w73q_6 q0 q1 q2 q3 q4 q5 q6 q7) (w73q_7 q0 q1 q2 q3 q4 q5 q6 q7) (w73q_8 q0 q1 q2 q3 q4 q5 q6 q7))) (.nn))) (.nn)
noncomputable def g72 (da db : Int) (cs : List (List AV)) (da' db' : Int) (cs' : List (List AV)) (q0 q1 q2 q3 q4 q5 q6 q7 : Int) (m : List (AV × AV)) : Bool := (t72 da db cs da' db' cs' q0 q1 q2 q3 q4 q5 q6 q7 m).g
noncomputable def w72_0 (da db : Int) (cs : List (List AV)) (da' db' : Int) (cs' : List (List AV)) (q0 q1 q2 q3 q4 q5 q6 q7 : Int) (m : List (AV × AV)) : Int := (t72 da db cs da' db' cs' q0 q1 q2 q3 q4 q5 q6 q7 m).val.1
noncomputable def w72_1 (da db : Int) (cs : List (List AV)) (da' db' : Int) (cs' : List (List AV)) (q0 q1 q2 q3 q4 q5 q6 q7 : Int) (m : List (AV × AV)) : Int := (t72 da db cs da' db' cs' q0 q1 q2 q3 q4 q5 q6 q7 m).val.2.1
noncomputable def w72_2 (da db : Int) (cs : List (List AV)) (da' db' : Int) (cs' : List (List AV)) (q0 q1 q2 q3 q4 q5 q6 q7 : Int) (m : List (AV × AV)) : Int := (t72 da db cs da' db' cs' q0 q1 q2 q3 q4 q5 q6 q7 m).val.2.2.1
noncomputable def w72_3 (da db : Int) (cs : List (List AV)) (da' db' : Int) (cs' : List (List AV)) (q0 q1 q2 q3 q4 q5 q6 q7 : Int) (m : List (AV × AV)) : Int := (t72 da db cs da' db' cs' q0 q1 q2 q3 q4 q5 q6 q7 m).val.2.2.2.1
noncomputable def w72_4 (da db : Int) (cs : List (List AV)) (da' db' : Int) (cs' : List (List AV)) (q0 q1 q2 q3 q4 q5 q6 q7 : Int) (m : List (AV × AV)) : Int := (t72 da db cs da' db' cs' q0 q1 q2 q3 q4 q5 q6 q7 m).val.2.2.2.2.1
noncomputable def w72_5 (da db : Int) (cs : List (List AV)) (da' db' : Int) (cs' : List (List AV)) (q0 q1 q2 q3 q4 q5 q6 q7 : Int) (m : List (AV × AV)) : Int := (t72 da db cs da' db' cs' q0 q1 q2 q3 q4 q5 q6 q7 m).val.2.2.2.2.2.1
noncomputable def w72_6 (da db : Int) (cs : List (List AV)) (da' db' : Int) (cs' : List (List AV)) (q0 q1 q2 q3 q4 q5 q6 q7 : Int) (m : List (AV × AV)) : Int := (t72 da db cs da' db' cs' q0 q1 q2 q3 q4 q5 q6 q7 m).val.2.2.2.2.2.2.1
noncomputable def w72_7 (da db : Int) (cs : List (List AV)) (da' db' : Int) (cs' : List (List AV)) (q0 q1 q2 q3 q4 q5 q6 q7 : Int) (m : List (AV × AV)) : Int := (t72 da db cs da' db' cs' q0 q1 q2 q3 q4 q5 q6 q7 m).val.2.2.2.2.2.2.2.1
noncomputable def w72_8 (da db : Int) (cs : List (List AV)) (da' db' : Int) (cs' : List (List AV)) (q0 q1 q2 q3 q4 q5 q6 q7 : Int) (m : List (AV × AV)) : Int := (t72 da db cs da' db' cs' q0 q1 q2 q3 q4 q5 q6 q7 m).val.2.2.2.2.2.2.2.2.1
noncomputable def w72_9 (da db : Int) (cs : List (List AV)) (da' db' : Int) (cs' : List (List AV)) (q0 q1 q2 q3 q4 q5 q6 q7 : Int) (m : List (AV × AV)) : Int := (t72 da db cs da' db' cs' q0 q1 q2 q3 q4 q5 q6 q7 m).val.2.2.2.2.2.2.2.2.2.1
noncomputable def w72_10 (da db : Int) (cs : List (List AV)) (da' db' : Int) (cs' : List (List AV)) (q0 q1 q2 q3 q4 q5 q6 q7 : Int) (m : List (AV × AV)) : Int := (t72 da db cs da' db' cs' q0 q1 q2 q3 q4 q5 q6 q7 m).val.2.2.2.2.2.2.2.2.2.2.1
noncomputable def w72_11 (da db : Int) (cs : List (List AV)) (da' db' : Int) (cs' : List (List AV)) (q0 q1 q2 q3 q4 q5 q6 q7 : Int) (m : List (AV × AV)) : List (List AV) := (t72 da db cs da' db' cs' q0 q1 q2 q3 q4 q5 q6 q7 m).val.2.2.2.2.2.2.2.2.2.2.2.1
noncomputable def w72_12 (da db : Int) (cs : List (List AV)) (da' db' : Int) (cs' : List (List AV)) (q0 q1 q2 q3 q4 q5 q6 q7 : Int) (m : List (AV × AV)) : List (AV × AV) := (t72 da db cs da' db' cs' q0 q1 q2 q3 q4 q5 q6 q7 m).val.2.2.2.2.2.2.2.2.2.2.2.2
theorem eq72 (da db : Int) (cs : List (List AV)) (da' db' : Int) (cs' : List (List AV)) (q0 q1 q2 q3 q4 q5 q6 q7 : Int) (m : List (AV × AV)) : evM Try.prog SP2 ro72 L72 Try.f18 [.agg [.i .i64 q0, .i .i64 q1, .i .i64 q2, .i .i64 q3, .i .i64 q4, .i .i64 q5, .i .i64 q6, .i .i64 q7], .rp [.int .i64, .int .i64, .sl 44] [.i .i64 da, .i .i64 db, .rs 44 cs] 0, .p 0 0 0, .p 1 0 0] [.row 75 [[.mp 2]], .row 76 [[.fn 18 [.rp [.int .i64, .int .i64, .sl 44] [.i .i64 da', .i .i64 db', .rs 44 cs'] 0, .p 0 0 0, .p 1 0 0]]], .mp 78 80 m] = (t72 da db cs da' db' cs' q0 q1 q2 q3 q4 q5 q6 q7 m).opt (fun (x : (Int) × (Int) × (Int) × (Int) × (Int) × (Int) × (Int) × (Int) × (Int) × (Int) × (Int) × (List (List AV)) × (List (AV × AV))) => ((.agg [.i .i64 x.1, .i .i64 x.2.1, .i .i64 x.2.2.1, .i .i64 x.2.2.2.1, .i .i64 x.2.2.2.2.1, .i .i64 x.2.2.2.2.2.1, .i .i64 x.2.2.2.2.2.2.1, .i .i64 x.2.2.2.2.2.2.2.1, .i .i64 x.2.2.2.2.2.2.2.2.1], [.row 75 [[.mp 2]], .row 76 [[.fn 18 [.rp [.int .i64, .int .i64, .sl 44] [.i .i64 x.2.2.2.2.2.2.2.2.2.1, .i .i64 x.2.2.2.2.2.2.2.2.2.2.1, .rs 44 x.2.2.2.2.2.2.2.2.2.2.2.1] 0, .p 0 0 0, .p 1 0 0]]], .mp 78 80 x.2.2.2.2.2.2.2.2.2.2.2.2]) : AV × List Blk)) := by kernel_rfl
theorem con72 (da db : Int) (cs : List (List AV)) (da' db' : Int) (cs' : List (List AV)) (q0 q1 q2 q3 q4 q5 q6 q7 : Int) (m : List (AV × AV)) (h : g72 da db cs da' db' cs' q0 q1 q2 q3 q4 q5 q6 q7 m = true) : Con Try.prog 18 [.agg [.i .i64 q0, .i .i64 q1, .i .i64 q2, .i .i64 q3, .i .i64 q4, .i .i64 q5, .i .i64 q6, .i .i64 q7], .rp [.int .i64, .int .i64, .sl 44] [.i .i64 da, .i .i64 db, .rs 44 cs] 0, .p 0 0 0, .p 1 0 0] [.row 75 [[.mp 2]], .row 76 [[.fn 18 [.rp [.int .i64, .int .i64, .sl 44] [.i .i64 da', .i .i64 db', .rs 44 cs'] 0, .p 0 0 0, .p 1 0 0]]], .mp 78 80 m] (.agg [.i .i64 (w72_0 da db cs da' db' cs' q0 q1 q2 q3 q4 q5 q6 q7 m), .i .i64 (w72_1 da db cs da' db' cs' q0 q1 q2 q3 q4 q5 q6 q7 m), .i .i64 (w72_2 da db cs da' db' cs' q0 q1 q2 q3 q4 q5 q6 q7 m), .i .i64 (w72_3 da db cs da' db' cs' q0 q1 q2 q3 q4 q5 q6 q7 m), .i .i64 (w72_4 da db cs da' db' cs' q0 q1 q2 q3 q4 q5 q6 q7 m), .i .i64 (w72_5 da db cs da' db' cs' q0 q1 q2 q3 q4 q5 q6 q7 m), .i .i64 (w72_6 da db cs da' db' cs' q0 q1 q2 q3 q4 q5 q6 q7 m), .i .i64 (w72_7 da db cs da' db' cs' q0 q1 q2 q3 q4 q5 q6 q7 m), .i .i64 (w72_8 da db cs da' db' cs' q0 q1 q2 q3 q4 q5 q6 q7 m)]) [.row 75 [[.mp 2]], .row 76 [[.fn 18 [.rp [.int .i64, .int .i64, .sl 44] [.i .i64 (w72_9 da db cs da' db' cs' q0 q1 q2 q3 q4 q5 q6 q7 m), .i .i64 (w72_10 da db cs da' db' cs' q0 q1 q2 q3 q4 q5 q6 q7 m), .rs 44 (w72_11 da db cs da' db' cs' q0 q1 q2 q3 q4 q5 q6 q7 m)] 0, .p 0 0 0, .p 1 0 0]]], .mp 78 80 (w72_12 da db cs da' db' cs' q0 q1 q2 q3 q4 q5 q6 q7 m)] :=
  con_ofM SP2_ok mixed Try.func18 (c := c72) rfl (names 18 _ Try.func18) lok72 ((eq72 da db cs da' db' cs' q0 q1 q2 q3 q4 q5 q6 q7 m).trans (Tr.sound _ _ h))
-- SPEC 72
end Go.Proofs.Ytkdiaipaajgcbaa
