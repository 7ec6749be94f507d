/-
  The evaluator, its soundness, and the functions that several laws reach: what they compute, for all arguments; no conditions.
-/
import Derived.Test.YtfbfohkgajeopacPc
import Derived.KernelRfl
import Derived.Test.YtfbfohkgajeopacProg
set_option linter.unusedVariables false
namespace Go.Proofs.Ytfbfohkgajeopac
open Go Go.Ev
def roTab : List (Nat × List Nat) := [(3, [5, 11, 74]), (6, [7, 9, 11]), (8, [22]), (9, [9, 13, 14]), (10, [8, 11, 12]), (13, [0]), (14, [9]), (15, [0]), (16, [5, 7]), (20, [5, 7, 8]), (21, [5]), (23, [2]), (24, [4]), (27, [5]), (28, [5, 7, 8]), (36, [2]), (37, [2]), (38, [6, 7, 12]), (42, [2, 3, 5]), (46, [9]), (58, [5])]
def lookN : List (Nat × List Nat) → Nat → List Nat
  | [], _ => []
  | (k, l) :: r, f => cond (Nat.beq k f) l (lookN r f)
def ro (f : FuncId) (t : Nat) : Bool := !(lookN roTab f).any (Nat.beq t)
theorem mixed : Try.prog.follows .mixedOrders = true := by kernel_rfl
theorem names0 : (Try.prog.funcs.toList.all fun fn => !(fn.name == "runtime.NumGoroutine")) = true := by kernel_rfl
theorem names (f : FuncId) (fn : Func) (h : Try.prog.funcs[f]? = some fn) : (fn.name == "runtime.NumGoroutine") = false := by
  have := List.all_eq_true.1 names0 fn (Array.mem_toList_iff.2 (Array.mem_of_getElem? h))
  simpa using this
def S0 : Ev.Spec := fun _ _ _ => none
theorem S0_ok : SpecOK Try.prog S0 := fun _ _ _ _ _ _ h => by cases h
end Go.Proofs.Ytfbfohkgajeopac

set_option maxRecDepth 100000
set_option maxHeartbeats 0
set_option linter.unusedVariables false
namespace Go.Proofs.Ytfbfohkgajeopac
open Go Go.Ev

noncomputable def c4n : Code := match Try.f4.body with | some c => c | _ => .skip
noncomputable def lp4na : Code := loopAt c4n [true, true, true, false, true, false]
noncomputable def s4na (cs : List (List AV)) (t2 : Bool) (t3 t4 : Int) : St :=
  { t := [(1, .rp [.sl 43] [.rs 43 cs] 0), (2, .b t2), (3, .i .i64 t3), (4, .i .i64 t4)], m := [], nx := 0, nt := 55 }
structure S4na where
  t3 : Int
  t4 : Int
inductive T4na where
  | x0 (t2' : Bool) (t3 : Int) (t4 : Int)
  | x1 (t3 : Int) (t4 : Int)
noncomputable def stp4na (cs : List (List AV)) (t2 : Bool) (t3 t4 : Int) : Lp S4na T4na :=
  cond (decide (t4 < (↑cs.length : Int))) (cond (inb t4 cs.length) (cond (decide ((↑(fE (cs.getD t4.toNat []) 1).length : Int) > 200)) (.out (.x0 true t3 t4)) (cond (inb t4 cs.length) (.go ⟨IntKind.i64.wrap (t3 + (↑(fE (cs.getD t4.toNat []) 1).length : Int)), IntKind.i64.wrap (t4 + 1)⟩) (.bad))) (.bad)) (.out (.x1 t3 t4))
noncomputable def o4na_0 (cs : List (List AV)) (t2 t2' : Bool) (t3 t4 : Int) : St :=
  { t := [(1, .rp [.sl 43] [.rs 43 cs] 0), (2, .b t2'), (3, .i .i64 t3), (4, .i .i64 t4)], m := [], nx := 0, nt := 55 }
noncomputable def o4na_1 (cs : List (List AV)) (t2 : Bool) (t3 t4 : Int) : St :=
  { t := [(1, .rp [.sl 43] [.rs 43 cs] 0), (2, .b t2), (3, .i .i64 t3), (4, .i .i64 t4)], m := [], nx := 0, nt := 55 }
noncomputable def ou4na (cs : List (List AV)) (t2 : Bool) : T4na → Ex × St
  | .x0 t2' t3 t4 => (.ret, o4na_0 cs t2 t2' t3 t4)
  | .x1 t3 t4 => (.ext 0, o4na_1 cs t2 t3 t4)
noncomputable def r4na (cs : List (List AV)) (t2 : Bool) (t3 t4 : Int) : Option T4na := run (fun x => stp4na cs t2 x.t3 x.t4) (⟨t3, t4⟩ : S4na)
noncomputable def i4na_0 (cs : List (List AV)) (t2 : Bool) (t3 t4 : Int) : Bool := match r4na cs t2 t3 t4 with
  | some (.x0 _ _ _) => true
  | _ => false
noncomputable def v4na_0_t2' (cs : List (List AV)) (t2 : Bool) (t3 t4 : Int) : Bool := match r4na cs t2 t3 t4 with
  | some (.x0 t2' _ _) => t2'
  | _ => default
noncomputable def v4na_0_t3 (cs : List (List AV)) (t2 : Bool) (t3 t4 : Int) : Int := match r4na cs t2 t3 t4 with
  | some (.x0 _ t3 _) => t3
  | _ => default
noncomputable def v4na_0_t4 (cs : List (List AV)) (t2 : Bool) (t3 t4 : Int) : Int := match r4na cs t2 t3 t4 with
  | some (.x0 _ _ t4) => t4
  | _ => default
noncomputable def i4na_1 (cs : List (List AV)) (t2 : Bool) (t3 t4 : Int) : Bool := match r4na cs t2 t3 t4 with
  | some (.x1 _ _) => true
  | _ => false
noncomputable def v4na_1_t3 (cs : List (List AV)) (t2 : Bool) (t3 t4 : Int) : Int := match r4na cs t2 t3 t4 with
  | some (.x1 t3 _) => t3
  | _ => default
noncomputable def v4na_1_t4 (cs : List (List AV)) (t2 : Bool) (t3 t4 : Int) : Int := match r4na cs t2 t3 t4 with
  | some (.x1 _ t4) => t4
  | _ => default
noncomputable def q4na (cs : List (List AV)) (t2 : Bool) (t3 t4 : Int) : List (Bool × Ex × St) := [(i4na_0 cs t2 t3 t4, .ret, o4na_0 cs t2 (v4na_0_t2' cs t2 t3 t4) (v4na_0_t3 cs t2 t3 t4) (v4na_0_t4 cs t2 t3 t4)), (i4na_1 cs t2 t3 t4, .ext 0, o4na_1 cs t2 (v4na_1_t3 cs t2 t3 t4) (v4na_1_t4 cs t2 t3 t4))]
noncomputable def l4na (st : St) : Option (List (Bool × Ex × St)) := qget [.rp [.sl 43] [.rs 43] 0, .b, .i .i64, .i .i64] [] 0 55 (normW Try.prog [(1, none), (2, none), (3, none), (4, none)] 0 st) fun ls => q4na (lLL ls 0) (lB ls 1) (lI ls 2) (lI ls 3)
noncomputable def L4n : LSpec := fun p st => match p with
  | [false, true, false, true, true, true] => l4na st
  | _ => none
theorem is4na_0 (cs : List (List AV)) (t2 : Bool) (t3 t4 : Int) (h : i4na_0 cs t2 t3 t4 = true) : r4na cs t2 t3 t4 = some (.x0 (v4na_0_t2' cs t2 t3 t4) (v4na_0_t3 cs t2 t3 t4) (v4na_0_t4 cs t2 t3 t4)) := by
  unfold i4na_0 at h
  unfold v4na_0_t2' v4na_0_t3 v4na_0_t4
  generalize r4na cs t2 t3 t4 = r at h ⊢
  rcases r with _ | y
  · cases h
  · cases y <;> first | rfl | cases h
theorem is4na_1 (cs : List (List AV)) (t2 : Bool) (t3 t4 : Int) (h : i4na_1 cs t2 t3 t4 = true) : r4na cs t2 t3 t4 = some (.x1 (v4na_1_t3 cs t2 t3 t4) (v4na_1_t4 cs t2 t3 t4)) := by
  unfold i4na_1 at h
  unfold v4na_1_t3 v4na_1_t4
  generalize r4na cs t2 t3 t4 = r at h ⊢
  rcases r with _ | y
  · cases h
  · cases y <;> first | rfl | cases h
theorem round4na (cs : List (List AV)) (t2 : Bool) (t3 t4 : Int) : round Try.prog S0 (ro 4) L4n lp4na [false, true, false, true, true, true] [(1, none), (2, none), (3, none), (4, none)] 0 (s4na cs t2 t3 t4) =
    cond (decide (t4 < (↑cs.length : Int))) (cond (inb t4 cs.length) (cond (decide ((↑(fE (cs.getD t4.toNat []) 1).length : Int) > 200)) (some (.ret, o4na_0 cs t2 true t3 t4)) (cond (inb t4 cs.length) (some (.nrm, s4na cs t2 (IntKind.i64.wrap (t3 + (↑(fE (cs.getD t4.toNat []) 1).length : Int))) (IntKind.i64.wrap (t4 + 1)))) (none))) (none)) (some (.ext 0, o4na_1 cs t2 t3 t4)) := by kernel_rfl
theorem rnd4na (cs : List (List AV)) (t2 : Bool) (x : S4na) : round Try.prog S0 (ro 4) L4n lp4na [false, true, false, true, true, true] [(1, none), (2, none), (3, none), (4, none)] 0 ((fun x => s4na cs t2 x.t3 x.t4) x) = toR (fun x => s4na cs t2 x.t3 x.t4) (ou4na cs t2) (stp4na cs t2 x.t3 x.t4) := by
  refine (round4na _ _ _ _ ).trans ?_
  unfold stp4na
  simp only [toR_cond]
  rfl
theorem lokb4na (cs : List (List AV)) (t2 : Bool) (t3 t4 : Int) {e : Ex} {s : St} (hch : Chosen (q4na cs t2 t3 t4) e s) : LB Try.prog S0 (ro 4) L4n lp4na [false, true, false, true, true, true] [(1, none), (2, none), (3, none), (4, none)] 0 (s4na cs t2 t3 t4) e s := by
  unfold q4na at hch
  have main := fun y h => LB_run (x := (⟨t3, t4⟩ : S4na)) (y := y) (nb := 0) (fun y => by cases y <;> simp [ou4na]) (rnd4na cs t2) h
  obtain ⟨x, hx, hg, rfl, rfl⟩ := chosen_any hch
  simp only [List.mem_cons, List.not_mem_nil, or_false] at hx
  rcases hx with rfl | rfl
  · exact main _ (is4na_0 cs t2 t3 t4 hg)
  · exact main _ (is4na_1 cs t2 t3 t4 hg)
theorem lok4na {st : St} {outs : List (Bool × Ex × St)} {e : Ex} {s : St} (hl : l4na st = some outs) (hch : Chosen outs e s) :
    ∃ keep nb, 0 ≤ nb ∧ LB Try.prog S0 (ro 4) L4n lp4na [false, true, false, true, true, true] keep nb st e s := by
  unfold l4na at hl
  obtain ⟨ls, hno, rfl⟩ := qget_some hl
  have hno := normW_norm hno
  refine ⟨_, _, ?_, .enterQ hno (s2 := s4na (lLL ls 0) (lB ls 1) (lI ls 2) (lI ls 3)) (by kernel_rfl) (lokb4na _ _ _ _ hch)⟩
  decide
theorem L4n_ok (q : Pl) (c : Code) (hq : locate c4n q.reverse = some (.loop c)) (st : St) (outs : List (Bool × Ex × St)) (e : Ex) (s : St) (hl : L4n q st = some outs) (hch : Chosen outs e s) :
    ∃ keep nb, 0 ≤ nb ∧ LB Try.prog S0 (ro 4) L4n c q keep nb st e s := by
  unfold L4n at hl
  split at hl
  · have : locate c4n ([false, true, false, true, true, true] : Pl).reverse = some (.loop lp4na) := by kernel_rfl
    rw [this] at hq
    cases hq
    exact lok4na hl hch
  · cases hl
theorem lok4n : LOK Try.prog S0 (ro 4) L4n 0 false c4n [] :=
  lok_lo L4n_ok c4n [] false (locate_nil _) (by kernel_rfl)
noncomputable def t4n (cs : List (List AV)) : Tr ((Bool)) :=
  .cn (decide ((↑cs.length : Int) > 8)) (.cn (decide ((↑cs.length : Int) ≤ 24)) (.lf (true)) (.cn (decide ((↑cs.length : Int) > 40)) (.lf (true)) (.cn (i4na_0 cs false 0 0) (.lf (v4na_0_t2' cs false 0 0)) (.cn (i4na_1 cs false 0 0) (.cn (decide (v4na_1_t3 cs false 0 0 > 12)) (.cn (decide (v4na_1_t3 cs false 0 0 ≤ 96)) (.lf (true)) (.lf (decide (v4na_1_t3 cs false 0 0 > 400)))) (.lf (decide (v4na_1_t3 cs false 0 0 > 400)))) (.nn))))) (.cn (decide ((↑cs.length : Int) > 40)) (.lf (true)) (.cn (i4na_0 cs false 0 0) (.lf (v4na_0_t2' cs false 0 0)) (.cn (i4na_1 cs false 0 0) (.cn (decide (v4na_1_t3 cs false 0 0 > 12)) (.cn (decide (v4na_1_t3 cs false 0 0 ≤ 96)) (.lf (true)) (.lf (decide (v4na_1_t3 cs false 0 0 > 400)))) (.lf (decide (v4na_1_t3 cs false 0 0 > 400)))) (.nn))))
noncomputable def g4n (cs : List (List AV)) : Bool := (t4n cs).g
noncomputable def w4n_0 (cs : List (List AV)) : Bool := (t4n cs).val
theorem eq4n (cs : List (List AV)) : evF Try.prog S0 (ro 4) L4n Try.f4 [.agg [.rs 43 cs]] = (t4n cs).opt (fun (x : (Bool)) => (.b x : AV)) := by kernel_rfl
theorem con4n (cs : List (List AV)) (h : g4n cs = true) : Con Try.prog 4 [.agg [.rs 43 cs]] [] (.b (w4n_0 cs)) [] :=
  con_of S0_ok mixed Try.func4 (c := c4n) rfl (names 4 _ Try.func4) lok4n ((eq4n cs).trans (Tr.sound _ _ h))
noncomputable def e4n (args : List AV) (rows : List Blk) : Option (Bool × AV × List Blk) := match args, rows with
  | [.agg [.rs 43 cs]], [] => some (g4n cs, .b (w4n_0 cs), [])
  | _, _ => none
theorem e4n_ok (args : List AV) (rows : List Blk) (pre : Bool) (v : AV) (rows' : List Blk) (h : e4n args rows = some (pre, v, rows')) (hp : pre = true) : Con Try.prog 4 args rows v rows' := by
  unfold e4n at h
  split at h
  · cases h; exact con4n _ hp
  · cases h
-- SPEC 4
end Go.Proofs.Ytfbfohkgajeopac

set_option maxRecDepth 100000
set_option maxHeartbeats 0
set_option linter.unusedVariables false
namespace Go.Proofs.Ytfbfohkgajeopac
open Go Go.Ev

noncomputable def c29n : Code := match Try.f29.body with | some c => c | _ => .skip
theorem lok29n : LOK Try.prog S0 (ro 29) (fun _ _ => none) 0 false c29n [] :=
  lok_lo (fun _ _ _ _ _ _ _ h _ => by cases h) c29n [] false (locate_nil _) (by kernel_rfl)
noncomputable def t29n (a b c : Int) : Tr ((Bool)) :=
  .cn (decide (b ≤ a)) (.lf (decide (a ≤ c))) (.lf (false))
noncomputable def g29n (a b c : Int) : Bool := (t29n a b c).g
noncomputable def w29n_0 (a b c : Int) : Bool := (t29n a b c).val
theorem eq29n (a b c : Int) : evF Try.prog S0 (ro 29) (fun _ _ => none) Try.f29 [.i .i64 a, .i .i64 b, .i .i64 c] = (t29n a b c).opt (fun (x : (Bool)) => (.b x : AV)) := by kernel_rfl
theorem con29n (a b c : Int) (h : g29n a b c = true) : Con Try.prog 29 [.i .i64 a, .i .i64 b, .i .i64 c] [] (.b (w29n_0 a b c)) [] :=
  con_of S0_ok mixed Try.func29 (c := c29n) rfl (names 29 _ Try.func29) lok29n ((eq29n a b c).trans (Tr.sound _ _ h))
noncomputable def e29n (args : List AV) (rows : List Blk) : Option (Bool × AV × List Blk) := match args, rows with
  | [.i .i64 a, .i .i64 b, .i .i64 c], [] => some (g29n a b c, .b (w29n_0 a b c), [])
  | _, _ => none
theorem e29n_ok (args : List AV) (rows : List Blk) (pre : Bool) (v : AV) (rows' : List Blk) (h : e29n args rows = some (pre, v, rows')) (hp : pre = true) : Con Try.prog 29 args rows v rows' := by
  unfold e29n at h
  split at h
  · cases h; exact con29n _ _ _ hp
  · cases h
-- SPEC 29
end Go.Proofs.Ytfbfohkgajeopac

set_option maxRecDepth 100000
set_option maxHeartbeats 0
set_option linter.unusedVariables false
namespace Go.Proofs.Ytfbfohkgajeopac
open Go Go.Ev

noncomputable def c54n : Code := match Try.f54.body with | some c => c | _ => .skip
theorem lok54n : LOK Try.prog S0 (ro 54) (fun _ _ => none) 0 false c54n [] :=
  lok_lo (fun _ _ _ _ _ _ _ h _ => by cases h) c54n [] false (locate_nil _) (by kernel_rfl)
noncomputable def t54n (a : Int) : Tr ((Bool)) :=
  .lf (a != a)
noncomputable def g54n (a : Int) : Bool := (t54n a).g
noncomputable def w54n_0 (a : Int) : Bool := (t54n a).val
theorem eq54n (a : Int) : evF Try.prog S0 (ro 54) (fun _ _ => none) Try.f54 [.i .i64 a] = (t54n a).opt (fun (x : (Bool)) => (.b x : AV)) := by kernel_rfl
theorem con54n (a : Int) (h : g54n a = true) : Con Try.prog 54 [.i .i64 a] [] (.b (w54n_0 a)) [] :=
  con_of S0_ok mixed Try.func54 (c := c54n) rfl (names 54 _ Try.func54) lok54n ((eq54n a).trans (Tr.sound _ _ h))
noncomputable def e54n (args : List AV) (rows : List Blk) : Option (Bool × AV × List Blk) := match args, rows with
  | [.i .i64 a], [] => some (g54n a, .b (w54n_0 a), [])
  | _, _ => none
theorem e54n_ok (args : List AV) (rows : List Blk) (pre : Bool) (v : AV) (rows' : List Blk) (h : e54n args rows = some (pre, v, rows')) (hp : pre = true) : Con Try.prog 54 args rows v rows' := by
  unfold e54n at h
  split at h
  · cases h; exact con54n _ hp
  · cases h
-- SPEC 54
end Go.Proofs.Ytfbfohkgajeopac

set_option maxRecDepth 100000
set_option maxHeartbeats 0
set_option linter.unusedVariables false
namespace Go.Proofs.Ytfbfohkgajeopac
open Go Go.Ev

def lenT (n : Int) : Int := if n = 0 then 0 else if n = 1 then 1 else if n = 2 then 2 else if n = 3 then 2 else if n = 4 then 3 else if n = 5 then 3 else if n = 6 then 3 else if n = 7 then 3 else if n = 8 then 4 else if n = 9 then 4 else if n = 10 then 4 else if n = 11 then 4 else 4
noncomputable def c53n : Code := match Try.f53.body with | some c => c | _ => .skip
theorem lok53n : LOK Try.prog S0 (ro 53) (fun _ _ => none) 0 false c53n [] :=
  lok_lo (fun _ _ _ _ _ _ _ h _ => by cases h) c53n [] false (locate_nil _) (by kernel_rfl)
theorem con53n_0 : Con Try.prog 53 [.i .u64 0] [] (.i .i64 0) [] :=
  con_of S0_ok mixed Try.func53 (c := c53n) rfl (names 53 _ Try.func53) lok53n (by kernel_rfl : evF Try.prog S0 (ro 53) (fun _ _ => none) Try.f53 [.i .u64 0] = some (.i .i64 0))
theorem con53n_1 : Con Try.prog 53 [.i .u64 1] [] (.i .i64 1) [] :=
  con_of S0_ok mixed Try.func53 (c := c53n) rfl (names 53 _ Try.func53) lok53n (by kernel_rfl : evF Try.prog S0 (ro 53) (fun _ _ => none) Try.f53 [.i .u64 1] = some (.i .i64 1))
theorem con53n_2 : Con Try.prog 53 [.i .u64 2] [] (.i .i64 2) [] :=
  con_of S0_ok mixed Try.func53 (c := c53n) rfl (names 53 _ Try.func53) lok53n (by kernel_rfl : evF Try.prog S0 (ro 53) (fun _ _ => none) Try.f53 [.i .u64 2] = some (.i .i64 2))
theorem con53n_3 : Con Try.prog 53 [.i .u64 3] [] (.i .i64 2) [] :=
  con_of S0_ok mixed Try.func53 (c := c53n) rfl (names 53 _ Try.func53) lok53n (by kernel_rfl : evF Try.prog S0 (ro 53) (fun _ _ => none) Try.f53 [.i .u64 3] = some (.i .i64 2))
theorem con53n_4 : Con Try.prog 53 [.i .u64 4] [] (.i .i64 3) [] :=
  con_of S0_ok mixed Try.func53 (c := c53n) rfl (names 53 _ Try.func53) lok53n (by kernel_rfl : evF Try.prog S0 (ro 53) (fun _ _ => none) Try.f53 [.i .u64 4] = some (.i .i64 3))
theorem con53n_5 : Con Try.prog 53 [.i .u64 5] [] (.i .i64 3) [] :=
  con_of S0_ok mixed Try.func53 (c := c53n) rfl (names 53 _ Try.func53) lok53n (by kernel_rfl : evF Try.prog S0 (ro 53) (fun _ _ => none) Try.f53 [.i .u64 5] = some (.i .i64 3))
theorem con53n_6 : Con Try.prog 53 [.i .u64 6] [] (.i .i64 3) [] :=
  con_of S0_ok mixed Try.func53 (c := c53n) rfl (names 53 _ Try.func53) lok53n (by kernel_rfl : evF Try.prog S0 (ro 53) (fun _ _ => none) Try.f53 [.i .u64 6] = some (.i .i64 3))
theorem con53n_7 : Con Try.prog 53 [.i .u64 7] [] (.i .i64 3) [] :=
  con_of S0_ok mixed Try.func53 (c := c53n) rfl (names 53 _ Try.func53) lok53n (by kernel_rfl : evF Try.prog S0 (ro 53) (fun _ _ => none) Try.f53 [.i .u64 7] = some (.i .i64 3))
theorem con53n_8 : Con Try.prog 53 [.i .u64 8] [] (.i .i64 4) [] :=
  con_of S0_ok mixed Try.func53 (c := c53n) rfl (names 53 _ Try.func53) lok53n (by kernel_rfl : evF Try.prog S0 (ro 53) (fun _ _ => none) Try.f53 [.i .u64 8] = some (.i .i64 4))
theorem con53n_9 : Con Try.prog 53 [.i .u64 9] [] (.i .i64 4) [] :=
  con_of S0_ok mixed Try.func53 (c := c53n) rfl (names 53 _ Try.func53) lok53n (by kernel_rfl : evF Try.prog S0 (ro 53) (fun _ _ => none) Try.f53 [.i .u64 9] = some (.i .i64 4))
theorem con53n_10 : Con Try.prog 53 [.i .u64 10] [] (.i .i64 4) [] :=
  con_of S0_ok mixed Try.func53 (c := c53n) rfl (names 53 _ Try.func53) lok53n (by kernel_rfl : evF Try.prog S0 (ro 53) (fun _ _ => none) Try.f53 [.i .u64 10] = some (.i .i64 4))
theorem con53n_11 : Con Try.prog 53 [.i .u64 11] [] (.i .i64 4) [] :=
  con_of S0_ok mixed Try.func53 (c := c53n) rfl (names 53 _ Try.func53) lok53n (by kernel_rfl : evF Try.prog S0 (ro 53) (fun _ _ => none) Try.f53 [.i .u64 11] = some (.i .i64 4))
theorem con53n_12 : Con Try.prog 53 [.i .u64 12] [] (.i .i64 4) [] :=
  con_of S0_ok mixed Try.func53 (c := c53n) rfl (names 53 _ Try.func53) lok53n (by kernel_rfl : evF Try.prog S0 (ro 53) (fun _ _ => none) Try.f53 [.i .u64 12] = some (.i .i64 4))
theorem con53n (n : Int) (h : (decide (0 ≤ n) && decide (n ≤ 12)) = true) : Con Try.prog 53 [.i .u64 n] [] (.i .i64 (lenT n)) [] := by
  simp only [Bool.and_eq_true, decide_eq_true_eq] at h
  obtain ⟨m, rfl⟩ : ∃ m : Nat, n = m := ⟨n.toNat, by omega⟩
  have hm : m ≤ 12 := by omega
  match m, hm with
  | 0, _ => exact con53n_0
  | 1, _ => exact con53n_1
  | 2, _ => exact con53n_2
  | 3, _ => exact con53n_3
  | 4, _ => exact con53n_4
  | 5, _ => exact con53n_5
  | 6, _ => exact con53n_6
  | 7, _ => exact con53n_7
  | 8, _ => exact con53n_8
  | 9, _ => exact con53n_9
  | 10, _ => exact con53n_10
  | 11, _ => exact con53n_11
  | 12, _ => exact con53n_12
noncomputable def e53n (args : List AV) (rows : List Blk) : Option (Bool × AV × List Blk) := match args, rows with
  | [.i .u64 n], [] => some (decide (0 ≤ n) && decide (n ≤ 12), .i .i64 (lenT n), [])
  | _, _ => none
theorem e53n_ok (args : List AV) (rows : List Blk) (pre : Bool) (v : AV) (rows' : List Blk) (h : e53n args rows = some (pre, v, rows')) (hp : pre = true) : Con Try.prog 53 args rows v rows' := by
  unfold e53n at h
  split at h
  · cases h; exact con53n _ hp
  · cases h
-- SPEC 53
end Go.Proofs.Ytfbfohkgajeopac

set_option maxRecDepth 100000
set_option linter.unusedVariables false
namespace Go.Proofs.Ytfbfohkgajeopac
open Go Go.Ev
noncomputable def SN1 : Ev.Spec := insS 53 e53n (insS 54 e54n (insS 29 e29n (S0)))
theorem SN1_ok : SpecOK Try.prog SN1 := insS_ok e53n_ok (insS_ok e54n_ok (insS_ok e29n_ok (S0_ok)))
end Go.Proofs.Ytfbfohkgajeopac

set_option maxRecDepth 100000
set_option maxHeartbeats 0
set_option linter.unusedVariables false
namespace Go.Proofs.Ytfbfohkgajeopac
open Go Go.Ev

noncomputable def c30n : Code := match Try.f30.body with | some c => c | _ => .skip
theorem lok30n : LOK Try.prog SN1 (ro 30) (fun _ _ => none) 0 false c30n [] :=
  lok_lo (fun _ _ _ _ _ _ _ h _ => by cases h) c30n [] false (locate_nil _) (by kernel_rfl)
noncomputable def t30n (u wd ln le ta th : Int) : Tr ((Bool)) :=
  .cn (g29n u (-400) 400) (.cn (w29n_0 u (-400) 400) (.cn (g29n wd 1 100) (.cn (w29n_0 wd 1 100) (.cn (g29n ln 1 100) (.cn (w29n_0 ln 1 100) (.cn (g29n le (-50) 50) (.cn (w29n_0 le (-50) 50) (.cn (g29n ta 0 100) (.cn (w29n_0 ta 0 100) (.cn (decide (IntKind.i64.wrap (2 * ta) < wd)) (.cn (g29n th 1 1000) (.lf (w29n_0 th 1 1000)) (.nn)) (.lf (false))) (.lf (false))) (.nn)) (.lf (false))) (.nn)) (.lf (false))) (.nn)) (.lf (false))) (.nn)) (.lf (false))) (.nn)
noncomputable def g30n (u wd ln le ta th : Int) : Bool := (t30n u wd ln le ta th).g
noncomputable def w30n_0 (u wd ln le ta th : Int) : Bool := (t30n u wd ln le ta th).val
theorem eq30n (u wd ln le ta th : Int) : evF Try.prog SN1 (ro 30) (fun _ _ => none) Try.f30 [.agg [.i .i64 u, .i .i64 wd, .i .i64 ln, .i .i64 le, .i .i64 ta, .i .i64 th]] = (t30n u wd ln le ta th).opt (fun (x : (Bool)) => (.b x : AV)) := by kernel_rfl
theorem con30n (u wd ln le ta th : Int) (h : g30n u wd ln le ta th = true) : Con Try.prog 30 [.agg [.i .i64 u, .i .i64 wd, .i .i64 ln, .i .i64 le, .i .i64 ta, .i .i64 th]] [] (.b (w30n_0 u wd ln le ta th)) [] :=
  con_of SN1_ok mixed Try.func30 (c := c30n) rfl (names 30 _ Try.func30) lok30n ((eq30n u wd ln le ta th).trans (Tr.sound _ _ h))
noncomputable def e30n (args : List AV) (rows : List Blk) : Option (Bool × AV × List Blk) := match args, rows with
  | [.agg [.i .i64 u, .i .i64 wd, .i .i64 ln, .i .i64 le, .i .i64 ta, .i .i64 th]], [] => some (g30n u wd ln le ta th, .b (w30n_0 u wd ln le ta th), [])
  | _, _ => none
theorem e30n_ok (args : List AV) (rows : List Blk) (pre : Bool) (v : AV) (rows' : List Blk) (h : e30n args rows = some (pre, v, rows')) (hp : pre = true) : Con Try.prog 30 args rows v rows' := by
  unfold e30n at h
  split at h
  · cases h; exact con30n _ _ _ _ _ _ hp
  · cases h
-- SPEC 30
end Go.Proofs.Ytfbfohkgajeopac

set_option maxRecDepth 100000
set_option maxHeartbeats 0
set_option linter.unusedVariables false
namespace Go.Proofs.Ytfbfohkgajeopac
open Go Go.Ev

noncomputable def c34n : Code := match Try.f34.body with | some c => c | _ => .skip
theorem lok34n : LOK Try.prog SN1 (ro 34) (fun _ _ => none) 0 false c34n [] :=
  lok_lo (fun _ _ _ _ _ _ _ h _ => by cases h) c34n [] false (locate_nil _) (by kernel_rfl)
noncomputable def t34n (a b : Int) : Tr ((Int)) :=
  .cn (w54n_0 a) (.cn (w54n_0 b) (.lf (0)) (.lf (-1))) (.cn (w54n_0 b) (.lf (1)) (.cn (decide (a < b)) (.lf (-1)) (.cn (decide (a > b)) (.lf (1)) (.lf (0)))))
noncomputable def g34n (a b : Int) : Bool := (t34n a b).g
noncomputable def w34n_0 (a b : Int) : Int := (t34n a b).val
theorem eq34n (a b : Int) : evF Try.prog SN1 (ro 34) (fun _ _ => none) Try.f34 [.i .i64 a, .i .i64 b] = (t34n a b).opt (fun (x : (Int)) => (.i .i64 x : AV)) := by kernel_rfl
theorem con34n (a b : Int) (h : g34n a b = true) : Con Try.prog 34 [.i .i64 a, .i .i64 b] [] (.i .i64 (w34n_0 a b)) [] :=
  con_of SN1_ok mixed Try.func34 (c := c34n) rfl (names 34 _ Try.func34) lok34n ((eq34n a b).trans (Tr.sound _ _ h))
noncomputable def e34n (args : List AV) (rows : List Blk) : Option (Bool × AV × List Blk) := match args, rows with
  | [.i .i64 a, .i .i64 b], [] => some (g34n a b, .i .i64 (w34n_0 a b), [])
  | _, _ => none
theorem e34n_ok (args : List AV) (rows : List Blk) (pre : Bool) (v : AV) (rows' : List Blk) (h : e34n args rows = some (pre, v, rows')) (hp : pre = true) : Con Try.prog 34 args rows v rows' := by
  unfold e34n at h
  split at h
  · cases h; exact con34n _ _ hp
  · cases h
-- SPEC 34
end Go.Proofs.Ytfbfohkgajeopac

set_option maxRecDepth 100000
set_option maxHeartbeats 0
set_option linter.unusedVariables false
namespace Go.Proofs.Ytfbfohkgajeopac
open Go Go.Ev

noncomputable def c33n : Code := match Try.f33.body with | some c => c | _ => .skip
noncomputable def lp33na : Code := loopAt c33n [true, true, false, true, false]
noncomputable def s33na (t2 t3 : Int) (t6 : List (List AV)) (t7 t8 : Int) : St :=
  { t := [(2, .i .i64 t2), (3, .i .i64 t3), (6, .rs 3 t6), (7, .i .i64 t7), (8, .i .i64 t8)], m := [], nx := 0, nt := 18 }
structure S33na where
  t8 : Int
inductive T33na where
  | x0 (t2' : Int) (t8 : Int)
  | x1 (t8 : Int)
noncomputable def stp33na (t2 t3 : Int) (t6 : List (List AV)) (t7 t8 : Int) : Lp S33na T33na :=
  cond (decide (t8 < t7)) (cond (inb t8 t6.length) (cond (fI (t6.getD t8.toNat []) 0 != t3) (.out (.x0 (fI (t6.getD t8.toNat []) 0) t8)) (.go ⟨IntKind.i64.wrap (t8 + 1)⟩)) (.bad)) (.out (.x1 t8))
noncomputable def o33na_0 (t2 t3 : Int) (t6 : List (List AV)) (t7 t2' t8 : Int) : St :=
  { t := [(2, .i .i64 t2'), (3, .i .i64 t3), (6, .rs 3 t6), (7, .i .i64 t7), (8, .i .i64 t8)], m := [], nx := 0, nt := 18 }
noncomputable def o33na_1 (t2 t3 : Int) (t6 : List (List AV)) (t7 t8 : Int) : St :=
  { t := [(2, .i .i64 t2), (3, .i .i64 t3), (6, .rs 3 t6), (7, .i .i64 t7), (8, .i .i64 t8)], m := [], nx := 0, nt := 18 }
noncomputable def ou33na (t2 t3 : Int) (t6 : List (List AV)) (t7 : Int) : T33na → Ex × St
  | .x0 t2' t8 => (.ret, o33na_0 t2 t3 t6 t7 t2' t8)
  | .x1 t8 => (.ext 0, o33na_1 t2 t3 t6 t7 t8)
noncomputable def r33na (t2 t3 : Int) (t6 : List (List AV)) (t7 t8 : Int) : Option T33na := run (fun x => stp33na t2 t3 t6 t7 x.t8) (⟨t8⟩ : S33na)
noncomputable def i33na_0 (t2 t3 : Int) (t6 : List (List AV)) (t7 t8 : Int) : Bool := match r33na t2 t3 t6 t7 t8 with
  | some (.x0 _ _) => true
  | _ => false
noncomputable def v33na_0_t2' (t2 t3 : Int) (t6 : List (List AV)) (t7 t8 : Int) : Int := match r33na t2 t3 t6 t7 t8 with
  | some (.x0 t2' _) => t2'
  | _ => default
noncomputable def v33na_0_t8 (t2 t3 : Int) (t6 : List (List AV)) (t7 t8 : Int) : Int := match r33na t2 t3 t6 t7 t8 with
  | some (.x0 _ t8) => t8
  | _ => default
noncomputable def i33na_1 (t2 t3 : Int) (t6 : List (List AV)) (t7 t8 : Int) : Bool := match r33na t2 t3 t6 t7 t8 with
  | some (.x1 _) => true
  | _ => false
noncomputable def v33na_1_t8 (t2 t3 : Int) (t6 : List (List AV)) (t7 t8 : Int) : Int := match r33na t2 t3 t6 t7 t8 with
  | some (.x1 t8) => t8
  | _ => default
noncomputable def q33na (t2 t3 : Int) (t6 : List (List AV)) (t7 t8 : Int) : List (Bool × Ex × St) := [(i33na_0 t2 t3 t6 t7 t8, .ret, o33na_0 t2 t3 t6 t7 (v33na_0_t2' t2 t3 t6 t7 t8) (v33na_0_t8 t2 t3 t6 t7 t8)), (i33na_1 t2 t3 t6 t7 t8, .ext 0, o33na_1 t2 t3 t6 t7 (v33na_1_t8 t2 t3 t6 t7 t8))]
noncomputable def l33na (st : St) : Option (List (Bool × Ex × St)) := qget [.i .i64, .i .i64, .rs 3, .i .i64, .i .i64] [] 0 18 (normW Try.prog [(2, none), (3, none), (6, none), (7, none), (8, none)] 0 st) fun ls => q33na (lI ls 0) (lI ls 1) (lLL ls 2) (lI ls 3) (lI ls 4)
noncomputable def L33n : LSpec := fun p st => match p with
  | [false, true, false, true, true] => l33na st
  | _ => none
theorem is33na_0 (t2 t3 : Int) (t6 : List (List AV)) (t7 t8 : Int) (h : i33na_0 t2 t3 t6 t7 t8 = true) : r33na t2 t3 t6 t7 t8 = some (.x0 (v33na_0_t2' t2 t3 t6 t7 t8) (v33na_0_t8 t2 t3 t6 t7 t8)) := by
  unfold i33na_0 at h
  unfold v33na_0_t2' v33na_0_t8
  generalize r33na t2 t3 t6 t7 t8 = r at h ⊢
  rcases r with _ | y
  · cases h
  · cases y <;> first | rfl | cases h
theorem is33na_1 (t2 t3 : Int) (t6 : List (List AV)) (t7 t8 : Int) (h : i33na_1 t2 t3 t6 t7 t8 = true) : r33na t2 t3 t6 t7 t8 = some (.x1 (v33na_1_t8 t2 t3 t6 t7 t8)) := by
  unfold i33na_1 at h
  unfold v33na_1_t8
  generalize r33na t2 t3 t6 t7 t8 = r at h ⊢
  rcases r with _ | y
  · cases h
  · cases y <;> first | rfl | cases h
theorem round33na (t2 t3 : Int) (t6 : List (List AV)) (t7 t8 : Int) : round Try.prog S0 (ro 33) L33n lp33na [false, true, false, true, true] [(2, none), (3, none), (6, none), (7, none), (8, none)] 0 (s33na t2 t3 t6 t7 t8) =
    cond (decide (t8 < t7)) (cond (inb t8 t6.length) (cond (fI (t6.getD t8.toNat []) 0 != t3) (some (.ret, o33na_0 t2 t3 t6 t7 (fI (t6.getD t8.toNat []) 0) t8)) (some (.nrm, s33na t2 t3 t6 t7 (IntKind.i64.wrap (t8 + 1))))) (none)) (some (.ext 0, o33na_1 t2 t3 t6 t7 t8)) := by kernel_rfl
theorem rnd33na (t2 t3 : Int) (t6 : List (List AV)) (t7 : Int) (x : S33na) : round Try.prog S0 (ro 33) L33n lp33na [false, true, false, true, true] [(2, none), (3, none), (6, none), (7, none), (8, none)] 0 ((fun x => s33na t2 t3 t6 t7 x.t8) x) = toR (fun x => s33na t2 t3 t6 t7 x.t8) (ou33na t2 t3 t6 t7) (stp33na t2 t3 t6 t7 x.t8) := by
  refine (round33na _ _ _ _ _ ).trans ?_
  unfold stp33na
  simp only [toR_cond]
  rfl
theorem lokb33na (t2 t3 : Int) (t6 : List (List AV)) (t7 t8 : Int) {e : Ex} {s : St} (hch : Chosen (q33na t2 t3 t6 t7 t8) e s) : LB Try.prog S0 (ro 33) L33n lp33na [false, true, false, true, true] [(2, none), (3, none), (6, none), (7, none), (8, none)] 0 (s33na t2 t3 t6 t7 t8) e s := by
  unfold q33na at hch
  have main := fun y h => LB_run (x := (⟨t8⟩ : S33na)) (y := y) (nb := 0) (fun y => by cases y <;> simp [ou33na]) (rnd33na t2 t3 t6 t7) h
  obtain ⟨x, hx, hg, rfl, rfl⟩ := chosen_any hch
  simp only [List.mem_cons, List.not_mem_nil, or_false] at hx
  rcases hx with rfl | rfl
  · exact main _ (is33na_0 t2 t3 t6 t7 t8 hg)
  · exact main _ (is33na_1 t2 t3 t6 t7 t8 hg)
theorem lok33na {st : St} {outs : List (Bool × Ex × St)} {e : Ex} {s : St} (hl : l33na st = some outs) (hch : Chosen outs e s) :
    ∃ keep nb, 0 ≤ nb ∧ LB Try.prog S0 (ro 33) L33n lp33na [false, true, false, true, true] keep nb st e s := by
  unfold l33na at hl
  obtain ⟨ls, hno, rfl⟩ := qget_some hl
  have hno := normW_norm hno
  refine ⟨_, _, ?_, .enterQ hno (s2 := s33na (lI ls 0) (lI ls 1) (lLL ls 2) (lI ls 3) (lI ls 4)) (by kernel_rfl) (lokb33na _ _ _ _ _ hch)⟩
  decide
theorem L33n_ok (q : Pl) (c : Code) (hq : locate c33n q.reverse = some (.loop c)) (st : St) (outs : List (Bool × Ex × St)) (e : Ex) (s : St) (hl : L33n q st = some outs) (hch : Chosen outs e s) :
    ∃ keep nb, 0 ≤ nb ∧ LB Try.prog S0 (ro 33) L33n c q keep nb st e s := by
  unfold L33n at hl
  split at hl
  · have : locate c33n ([false, true, false, true, true] : Pl).reverse = some (.loop lp33na) := by kernel_rfl
    rw [this] at hq
    cases hq
    exact lok33na hl hch
  · cases hl
theorem lok33n : LOK Try.prog S0 (ro 33) L33n 0 false c33n [] :=
  lok_lo L33n_ok c33n [] false (locate_nil _) (by kernel_rfl)
noncomputable def t33n (a b c d : Int) : Tr ((Int)) :=
  .cn (i33na_0 0 0 [[AV.i IntKind.i64 a], [AV.i IntKind.i64 b], [AV.i IntKind.i64 c], [AV.i IntKind.i64 d]] (↑[[AV.i IntKind.i64 a], [AV.i IntKind.i64 b], [AV.i IntKind.i64 c], [AV.i IntKind.i64 d]].length : Int) 0) (.lf (v33na_0_t2' 0 0 [[AV.i IntKind.i64 a], [AV.i IntKind.i64 b], [AV.i IntKind.i64 c], [AV.i IntKind.i64 d]] (↑[[AV.i IntKind.i64 a], [AV.i IntKind.i64 b], [AV.i IntKind.i64 c], [AV.i IntKind.i64 d]].length : Int) 0)) (.cn (i33na_1 0 0 [[AV.i IntKind.i64 a], [AV.i IntKind.i64 b], [AV.i IntKind.i64 c], [AV.i IntKind.i64 d]] (↑[[AV.i IntKind.i64 a], [AV.i IntKind.i64 b], [AV.i IntKind.i64 c], [AV.i IntKind.i64 d]].length : Int) 0) (.lf (0)) (.nn))
noncomputable def g33n (a b c d : Int) : Bool := (t33n a b c d).g
noncomputable def w33n_0 (a b c d : Int) : Int := (t33n a b c d).val
theorem eq33n (a b c d : Int) : evF Try.prog S0 (ro 33) L33n Try.f33 [.rs 3 [[.i .i64 a], [.i .i64 b], [.i .i64 c], [.i .i64 d]]] = (t33n a b c d).opt (fun (x : (Int)) => (.i .i64 x : AV)) := by kernel_rfl
theorem con33n (a b c d : Int) (h : g33n a b c d = true) : Con Try.prog 33 [.rs 3 [[.i .i64 a], [.i .i64 b], [.i .i64 c], [.i .i64 d]]] [] (.i .i64 (w33n_0 a b c d)) [] :=
  con_of S0_ok mixed Try.func33 (c := c33n) rfl (names 33 _ Try.func33) lok33n ((eq33n a b c d).trans (Tr.sound _ _ h))
noncomputable def e33n (args : List AV) (rows : List Blk) : Option (Bool × AV × List Blk) := match args, rows with
  | [.rs 3 [[.i .i64 a], [.i .i64 b], [.i .i64 c], [.i .i64 d]]], [] => some (g33n a b c d, .i .i64 (w33n_0 a b c d), [])
  | _, _ => none
theorem e33n_ok (args : List AV) (rows : List Blk) (pre : Bool) (v : AV) (rows' : List Blk) (h : e33n args rows = some (pre, v, rows')) (hp : pre = true) : Con Try.prog 33 args rows v rows' := by
  unfold e33n at h
  split at h
  · cases h; exact con33n _ _ _ _ hp
  · cases h
-- SPEC 33
end Go.Proofs.Ytfbfohkgajeopac

set_option maxRecDepth 100000
set_option linter.unusedVariables false
namespace Go.Proofs.Ytfbfohkgajeopac
open Go Go.Ev
noncomputable def SN2 : Ev.Spec := insS 33 e33n (insS 34 e34n (insS 30 e30n (insS 29 e29n (S0))))
theorem SN2_ok : SpecOK Try.prog SN2 := insS_ok e33n_ok (insS_ok e34n_ok (insS_ok e30n_ok (insS_ok e29n_ok (S0_ok))))
end Go.Proofs.Ytfbfohkgajeopac

set_option maxRecDepth 100000
set_option maxHeartbeats 0
set_option linter.unusedVariables false
namespace Go.Proofs.Ytfbfohkgajeopac
open Go Go.Ev

noncomputable def c16n : Code := match Try.f16.body with | some c => c | _ => .skip
noncomputable def lp16na : Code := loopAt c16n [true, true, true, false, true, false]
noncomputable def s16na (cs : List (List AV)) (t2 t3 : Int) (t13 : List (List AV)) (t14 t15 : Int) : St :=
  { t := [(1, .rp [.sl 43] [.rs 43 cs] 0), (2, .i .i64 t2), (3, .i .i64 t3), (13, .rs 43 t13), (14, .i .i64 t14), (15, .i .i64 t15)], m := [], nx := 0, nt := 57 }
noncomputable def lp16naa : Code := loopAt c16n [true, true, true, false, true, false, false, true, true, false, false, true, true, true, true, true, false]
noncomputable def s16naa (cs : List (List AV)) (t2 t3 : Int) (t13 : List (List AV)) (t14 t15 : Int) (t46 : List (List AV)) (t47 t48 : Int) : St :=
  { t := [(1, .rp [.sl 43] [.rs 43 cs] 0), (2, .i .i64 t2), (3, .i .i64 t3), (13, .rs 43 t13), (14, .i .i64 t14), (15, .i .i64 t15), (46, .rs 45 t46), (47, .i .i64 t47), (48, .i .i64 t48)], m := [], nx := 0, nt := 57 }
structure S16naa where
  t48 : Int
inductive T16naa where
  | x0 (t2' : Int) (t48 : Int)
  | x1 (t48 : Int)
noncomputable def stp16naa (cs : List (List AV)) (t2 t3 : Int) (t13 : List (List AV)) (t14 t15 : Int) (t46 : List (List AV)) (t47 t48 : Int) : Lp S16naa T16naa :=
  cond (decide (t48 < t47)) (cond (inb t48 t46.length) (cond (g30n (fI (t46.getD t48.toNat []) 0) (fI (t46.getD t48.toNat []) 1) (fI (t46.getD t48.toNat []) 2) (fI (t46.getD t48.toNat []) 3) (fI (t46.getD t48.toNat []) 4) (fI (t46.getD t48.toNat []) 5)) (cond (!w30n_0 (fI (t46.getD t48.toNat []) 0) (fI (t46.getD t48.toNat []) 1) (fI (t46.getD t48.toNat []) 2) (fI (t46.getD t48.toNat []) 3) (fI (t46.getD t48.toNat []) 4) (fI (t46.getD t48.toNat []) 5)) (.out (.x0 1 t48)) (.go ⟨IntKind.i64.wrap (t48 + 1)⟩)) (.bad)) (.bad)) (.out (.x1 t48))
noncomputable def o16naa_0 (cs : List (List AV)) (t2 t3 : Int) (t13 : List (List AV)) (t14 t15 : Int) (t46 : List (List AV)) (t47 t2' t48 : Int) : St :=
  { t := [(1, .rp [.sl 43] [.rs 43 cs] 0), (2, .i .i64 t2'), (3, .i .i64 t3), (13, .rs 43 t13), (14, .i .i64 t14), (15, .i .i64 t15), (46, .rs 45 t46), (47, .i .i64 t47), (48, .i .i64 t48)], m := [], nx := 0, nt := 57 }
noncomputable def o16naa_1 (cs : List (List AV)) (t2 t3 : Int) (t13 : List (List AV)) (t14 t15 : Int) (t46 : List (List AV)) (t47 t48 : Int) : St :=
  { t := [(1, .rp [.sl 43] [.rs 43 cs] 0), (2, .i .i64 t2), (3, .i .i64 t3), (13, .rs 43 t13), (14, .i .i64 t14), (15, .i .i64 t15), (46, .rs 45 t46), (47, .i .i64 t47), (48, .i .i64 t48)], m := [], nx := 0, nt := 57 }
noncomputable def ou16naa (cs : List (List AV)) (t2 t3 : Int) (t13 : List (List AV)) (t14 t15 : Int) (t46 : List (List AV)) (t47 : Int) : T16naa → Ex × St
  | .x0 t2' t48 => (.ret, o16naa_0 cs t2 t3 t13 t14 t15 t46 t47 t2' t48)
  | .x1 t48 => (.ext 2, o16naa_1 cs t2 t3 t13 t14 t15 t46 t47 t48)
noncomputable def r16naa (cs : List (List AV)) (t2 t3 : Int) (t13 : List (List AV)) (t14 t15 : Int) (t46 : List (List AV)) (t47 t48 : Int) : Option T16naa := run (fun x => stp16naa cs t2 t3 t13 t14 t15 t46 t47 x.t48) (⟨t48⟩ : S16naa)
noncomputable def i16naa_0 (cs : List (List AV)) (t2 t3 : Int) (t13 : List (List AV)) (t14 t15 : Int) (t46 : List (List AV)) (t47 t48 : Int) : Bool := match r16naa cs t2 t3 t13 t14 t15 t46 t47 t48 with
  | some (.x0 _ _) => true
  | _ => false
noncomputable def v16naa_0_t2' (cs : List (List AV)) (t2 t3 : Int) (t13 : List (List AV)) (t14 t15 : Int) (t46 : List (List AV)) (t47 t48 : Int) : Int := match r16naa cs t2 t3 t13 t14 t15 t46 t47 t48 with
  | some (.x0 t2' _) => t2'
  | _ => default
noncomputable def v16naa_0_t48 (cs : List (List AV)) (t2 t3 : Int) (t13 : List (List AV)) (t14 t15 : Int) (t46 : List (List AV)) (t47 t48 : Int) : Int := match r16naa cs t2 t3 t13 t14 t15 t46 t47 t48 with
  | some (.x0 _ t48) => t48
  | _ => default
noncomputable def i16naa_1 (cs : List (List AV)) (t2 t3 : Int) (t13 : List (List AV)) (t14 t15 : Int) (t46 : List (List AV)) (t47 t48 : Int) : Bool := match r16naa cs t2 t3 t13 t14 t15 t46 t47 t48 with
  | some (.x1 _) => true
  | _ => false
noncomputable def v16naa_1_t48 (cs : List (List AV)) (t2 t3 : Int) (t13 : List (List AV)) (t14 t15 : Int) (t46 : List (List AV)) (t47 t48 : Int) : Int := match r16naa cs t2 t3 t13 t14 t15 t46 t47 t48 with
  | some (.x1 t48) => t48
  | _ => default
noncomputable def q16naa (cs : List (List AV)) (t2 t3 : Int) (t13 : List (List AV)) (t14 t15 : Int) (t46 : List (List AV)) (t47 t48 : Int) : List (Bool × Ex × St) := [(i16naa_0 cs t2 t3 t13 t14 t15 t46 t47 t48, .ret, o16naa_0 cs t2 t3 t13 t14 t15 t46 t47 (v16naa_0_t2' cs t2 t3 t13 t14 t15 t46 t47 t48) (v16naa_0_t48 cs t2 t3 t13 t14 t15 t46 t47 t48)), (i16naa_1 cs t2 t3 t13 t14 t15 t46 t47 t48, .ext 2, o16naa_1 cs t2 t3 t13 t14 t15 t46 t47 (v16naa_1_t48 cs t2 t3 t13 t14 t15 t46 t47 t48))]
noncomputable def l16naa (st : St) : Option (List (Bool × Ex × St)) := qget [.rp [.sl 43] [.rs 43] 0, .i .i64, .i .i64, .rs 43, .i .i64, .i .i64, .rs 45, .i .i64, .i .i64] [] 0 57 (normW Try.prog [(1, none), (2, none), (3, none), (13, none), (14, none), (15, none), (46, none), (47, none), (48, none)] 0 st) fun ls => q16naa (lLL ls 0) (lI ls 1) (lI ls 2) (lLL ls 3) (lI ls 4) (lI ls 5) (lLL ls 6) (lI ls 7) (lI ls 8)
structure S16na where
  t3 : Int
  t15 : Int
inductive T16na where
  | x0 (t2' : Int) (t3 : Int) (t15 : Int)
  | x1 (t3 : Int) (t15 : Int)
noncomputable def stp16na (cs : List (List AV)) (t2 : Int) (t13 : List (List AV)) (t14 t3 t15 : Int) : Lp S16na T16na :=
  cond (decide (t15 < t14)) (cond (inb t15 t13.length) (cond (g29n (fI (t13.getD t15.toNat []) 0) (-400) 400) (cond (!w29n_0 (fI (t13.getD t15.toNat []) 0) (-400) 400) (.out (.x0 1 t3 t15)) (cond (decide (t15 > 0)) (cond (inb (IntKind.i64.wrap (t15 - 1)) cs.length) (cond (decide (fI (t13.getD t15.toNat []) 0 ≤ fI (cs.getD (IntKind.i64.wrap (t15 - 1)).toNat []) 0)) (.out (.x0 8 t3 t15)) (cond (decide (IntKind.i64.wrap (t3 + (↑(fE (t13.getD t15.toNat []) 1).length : Int)) > 96)) (.out (.x0 3 (IntKind.i64.wrap (t3 + (↑(fE (t13.getD t15.toNat []) 1).length : Int))) t15)) (cond (i16naa_0 cs t2 (IntKind.i64.wrap (t3 + (↑(fE (t13.getD t15.toNat []) 1).length : Int))) t13 t14 t15 (fE (t13.getD t15.toNat []) 1) (↑(fE (t13.getD t15.toNat []) 1).length : Int) 0) (.out (.x0 (v16naa_0_t2' cs t2 (IntKind.i64.wrap (t3 + (↑(fE (t13.getD t15.toNat []) 1).length : Int))) t13 t14 t15 (fE (t13.getD t15.toNat []) 1) (↑(fE (t13.getD t15.toNat []) 1).length : Int) 0) (IntKind.i64.wrap (t3 + (↑(fE (t13.getD t15.toNat []) 1).length : Int))) t15)) (cond (i16naa_1 cs t2 (IntKind.i64.wrap (t3 + (↑(fE (t13.getD t15.toNat []) 1).length : Int))) t13 t14 t15 (fE (t13.getD t15.toNat []) 1) (↑(fE (t13.getD t15.toNat []) 1).length : Int) 0) (.go ⟨IntKind.i64.wrap (t3 + (↑(fE (t13.getD t15.toNat []) 1).length : Int)), IntKind.i64.wrap (t15 + 1)⟩) (.bad))))) (.bad)) (cond (decide (IntKind.i64.wrap (t3 + (↑(fE (t13.getD t15.toNat []) 1).length : Int)) > 96)) (.out (.x0 3 (IntKind.i64.wrap (t3 + (↑(fE (t13.getD t15.toNat []) 1).length : Int))) t15)) (cond (i16naa_0 cs t2 (IntKind.i64.wrap (t3 + (↑(fE (t13.getD t15.toNat []) 1).length : Int))) t13 t14 t15 (fE (t13.getD t15.toNat []) 1) (↑(fE (t13.getD t15.toNat []) 1).length : Int) 0) (.out (.x0 (v16naa_0_t2' cs t2 (IntKind.i64.wrap (t3 + (↑(fE (t13.getD t15.toNat []) 1).length : Int))) t13 t14 t15 (fE (t13.getD t15.toNat []) 1) (↑(fE (t13.getD t15.toNat []) 1).length : Int) 0) (IntKind.i64.wrap (t3 + (↑(fE (t13.getD t15.toNat []) 1).length : Int))) t15)) (cond (i16naa_1 cs t2 (IntKind.i64.wrap (t3 + (↑(fE (t13.getD t15.toNat []) 1).length : Int))) t13 t14 t15 (fE (t13.getD t15.toNat []) 1) (↑(fE (t13.getD t15.toNat []) 1).length : Int) 0) (.go ⟨IntKind.i64.wrap (t3 + (↑(fE (t13.getD t15.toNat []) 1).length : Int)), IntKind.i64.wrap (t15 + 1)⟩) (.bad)))))) (.bad)) (.bad)) (.out (.x1 t3 t15))
noncomputable def o16na_0 (cs : List (List AV)) (t2 : Int) (t13 : List (List AV)) (t14 t2' t3 t15 : Int) : St :=
  { t := [(1, .rp [.sl 43] [.rs 43 cs] 0), (2, .i .i64 t2'), (3, .i .i64 t3), (13, .rs 43 t13), (14, .i .i64 t14), (15, .i .i64 t15)], m := [], nx := 0, nt := 57 }
noncomputable def o16na_1 (cs : List (List AV)) (t2 : Int) (t13 : List (List AV)) (t14 t3 t15 : Int) : St :=
  { t := [(1, .rp [.sl 43] [.rs 43 cs] 0), (2, .i .i64 t2), (3, .i .i64 t3), (13, .rs 43 t13), (14, .i .i64 t14), (15, .i .i64 t15)], m := [], nx := 0, nt := 57 }
noncomputable def ou16na (cs : List (List AV)) (t2 : Int) (t13 : List (List AV)) (t14 : Int) : T16na → Ex × St
  | .x0 t2' t3 t15 => (.ret, o16na_0 cs t2 t13 t14 t2' t3 t15)
  | .x1 t3 t15 => (.ext 0, o16na_1 cs t2 t13 t14 t3 t15)
noncomputable def r16na (cs : List (List AV)) (t2 : Int) (t13 : List (List AV)) (t14 t3 t15 : Int) : Option T16na := run (fun x => stp16na cs t2 t13 t14 x.t3 x.t15) (⟨t3, t15⟩ : S16na)
noncomputable def i16na_0 (cs : List (List AV)) (t2 : Int) (t13 : List (List AV)) (t14 t3 t15 : Int) : Bool := match r16na cs t2 t13 t14 t3 t15 with
  | some (.x0 _ _ _) => true
  | _ => false
noncomputable def v16na_0_t2' (cs : List (List AV)) (t2 : Int) (t13 : List (List AV)) (t14 t3 t15 : Int) : Int := match r16na cs t2 t13 t14 t3 t15 with
  | some (.x0 t2' _ _) => t2'
  | _ => default
noncomputable def v16na_0_t3 (cs : List (List AV)) (t2 : Int) (t13 : List (List AV)) (t14 t3 t15 : Int) : Int := match r16na cs t2 t13 t14 t3 t15 with
  | some (.x0 _ t3 _) => t3
  | _ => default
noncomputable def v16na_0_t15 (cs : List (List AV)) (t2 : Int) (t13 : List (List AV)) (t14 t3 t15 : Int) : Int := match r16na cs t2 t13 t14 t3 t15 with
  | some (.x0 _ _ t15) => t15
  | _ => default
noncomputable def i16na_1 (cs : List (List AV)) (t2 : Int) (t13 : List (List AV)) (t14 t3 t15 : Int) : Bool := match r16na cs t2 t13 t14 t3 t15 with
  | some (.x1 _ _) => true
  | _ => false
noncomputable def v16na_1_t3 (cs : List (List AV)) (t2 : Int) (t13 : List (List AV)) (t14 t3 t15 : Int) : Int := match r16na cs t2 t13 t14 t3 t15 with
  | some (.x1 t3 _) => t3
  | _ => default
noncomputable def v16na_1_t15 (cs : List (List AV)) (t2 : Int) (t13 : List (List AV)) (t14 t3 t15 : Int) : Int := match r16na cs t2 t13 t14 t3 t15 with
  | some (.x1 _ t15) => t15
  | _ => default
noncomputable def q16na (cs : List (List AV)) (t2 t3 : Int) (t13 : List (List AV)) (t14 t15 : Int) : List (Bool × Ex × St) := [(i16na_0 cs t2 t13 t14 t3 t15, .ret, o16na_0 cs t2 t13 t14 (v16na_0_t2' cs t2 t13 t14 t3 t15) (v16na_0_t3 cs t2 t13 t14 t3 t15) (v16na_0_t15 cs t2 t13 t14 t3 t15)), (i16na_1 cs t2 t13 t14 t3 t15, .ext 0, o16na_1 cs t2 t13 t14 (v16na_1_t3 cs t2 t13 t14 t3 t15) (v16na_1_t15 cs t2 t13 t14 t3 t15))]
noncomputable def l16na (st : St) : Option (List (Bool × Ex × St)) := qget [.rp [.sl 43] [.rs 43] 0, .i .i64, .i .i64, .rs 43, .i .i64, .i .i64] [] 0 57 (normW Try.prog [(1, none), (2, none), (3, none), (13, none), (14, none), (15, none)] 0 st) fun ls => q16na (lLL ls 0) (lI ls 1) (lI ls 2) (lLL ls 3) (lI ls 4) (lI ls 5)
noncomputable def L16n : LSpec := fun p st => match p with
  | [false, true, true, true, true, true, false, false, true, true, false, false, true, false, true, true, true] => l16naa st
  | [false, true, false, true, true, true] => l16na st
  | _ => none
theorem is16naa_0 (cs : List (List AV)) (t2 t3 : Int) (t13 : List (List AV)) (t14 t15 : Int) (t46 : List (List AV)) (t47 t48 : Int) (h : i16naa_0 cs t2 t3 t13 t14 t15 t46 t47 t48 = true) : r16naa cs t2 t3 t13 t14 t15 t46 t47 t48 = some (.x0 (v16naa_0_t2' cs t2 t3 t13 t14 t15 t46 t47 t48) (v16naa_0_t48 cs t2 t3 t13 t14 t15 t46 t47 t48)) := by
  unfold i16naa_0 at h
  unfold v16naa_0_t2' v16naa_0_t48
  generalize r16naa cs t2 t3 t13 t14 t15 t46 t47 t48 = r at h ⊢
  rcases r with _ | y
  · cases h
  · cases y <;> first | rfl | cases h
theorem is16naa_1 (cs : List (List AV)) (t2 t3 : Int) (t13 : List (List AV)) (t14 t15 : Int) (t46 : List (List AV)) (t47 t48 : Int) (h : i16naa_1 cs t2 t3 t13 t14 t15 t46 t47 t48 = true) : r16naa cs t2 t3 t13 t14 t15 t46 t47 t48 = some (.x1 (v16naa_1_t48 cs t2 t3 t13 t14 t15 t46 t47 t48)) := by
  unfold i16naa_1 at h
  unfold v16naa_1_t48
  generalize r16naa cs t2 t3 t13 t14 t15 t46 t47 t48 = r at h ⊢
  rcases r with _ | y
  · cases h
  · cases y <;> first | rfl | cases h
theorem round16naa (cs : List (List AV)) (t2 t3 : Int) (t13 : List (List AV)) (t14 t15 : Int) (t46 : List (List AV)) (t47 t48 : Int) : round Try.prog SN2 (ro 16) L16n lp16naa [false, true, true, true, true, true, false, false, true, true, false, false, true, false, true, true, true] [(1, none), (2, none), (3, none), (13, none), (14, none), (15, none), (46, none), (47, none), (48, none)] 0 (s16naa cs t2 t3 t13 t14 t15 t46 t47 t48) =
    cond (decide (t48 < t47)) (cond (inb t48 t46.length) (cond (g30n (fI (t46.getD t48.toNat []) 0) (fI (t46.getD t48.toNat []) 1) (fI (t46.getD t48.toNat []) 2) (fI (t46.getD t48.toNat []) 3) (fI (t46.getD t48.toNat []) 4) (fI (t46.getD t48.toNat []) 5)) (cond (!w30n_0 (fI (t46.getD t48.toNat []) 0) (fI (t46.getD t48.toNat []) 1) (fI (t46.getD t48.toNat []) 2) (fI (t46.getD t48.toNat []) 3) (fI (t46.getD t48.toNat []) 4) (fI (t46.getD t48.toNat []) 5)) (some (.ret, o16naa_0 cs t2 t3 t13 t14 t15 t46 t47 1 t48)) (some (.nrm, s16naa cs t2 t3 t13 t14 t15 t46 t47 (IntKind.i64.wrap (t48 + 1))))) (none)) (none)) (some (.ext 2, o16naa_1 cs t2 t3 t13 t14 t15 t46 t47 t48)) := by kernel_rfl
theorem rnd16naa (cs : List (List AV)) (t2 t3 : Int) (t13 : List (List AV)) (t14 t15 : Int) (t46 : List (List AV)) (t47 : Int) (x : S16naa) : round Try.prog SN2 (ro 16) L16n lp16naa [false, true, true, true, true, true, false, false, true, true, false, false, true, false, true, true, true] [(1, none), (2, none), (3, none), (13, none), (14, none), (15, none), (46, none), (47, none), (48, none)] 0 ((fun x => s16naa cs t2 t3 t13 t14 t15 t46 t47 x.t48) x) = toR (fun x => s16naa cs t2 t3 t13 t14 t15 t46 t47 x.t48) (ou16naa cs t2 t3 t13 t14 t15 t46 t47) (stp16naa cs t2 t3 t13 t14 t15 t46 t47 x.t48) := by
  refine (round16naa _ _ _ _ _ _ _ _ _ ).trans ?_
  unfold stp16naa
  simp only [toR_cond]
  rfl
theorem lokb16naa (cs : List (List AV)) (t2 t3 : Int) (t13 : List (List AV)) (t14 t15 : Int) (t46 : List (List AV)) (t47 t48 : Int) {e : Ex} {s : St} (hch : Chosen (q16naa cs t2 t3 t13 t14 t15 t46 t47 t48) e s) : LB Try.prog SN2 (ro 16) L16n lp16naa [false, true, true, true, true, true, false, false, true, true, false, false, true, false, true, true, true] [(1, none), (2, none), (3, none), (13, none), (14, none), (15, none), (46, none), (47, none), (48, none)] 0 (s16naa cs t2 t3 t13 t14 t15 t46 t47 t48) e s := by
  unfold q16naa at hch
  have main := fun y h => LB_run (x := (⟨t48⟩ : S16naa)) (y := y) (nb := 0) (fun y => by cases y <;> simp [ou16naa]) (rnd16naa cs t2 t3 t13 t14 t15 t46 t47) h
  obtain ⟨x, hx, hg, rfl, rfl⟩ := chosen_any hch
  simp only [List.mem_cons, List.not_mem_nil, or_false] at hx
  rcases hx with rfl | rfl
  · exact main _ (is16naa_0 cs t2 t3 t13 t14 t15 t46 t47 t48 hg)
  · exact main _ (is16naa_1 cs t2 t3 t13 t14 t15 t46 t47 t48 hg)
theorem lok16naa {st : St} {outs : List (Bool × Ex × St)} {e : Ex} {s : St} (hl : l16naa st = some outs) (hch : Chosen outs e s) :
    ∃ keep nb, 0 ≤ nb ∧ LB Try.prog SN2 (ro 16) L16n lp16naa [false, true, true, true, true, true, false, false, true, true, false, false, true, false, true, true, true] keep nb st e s := by
  unfold l16naa at hl
  obtain ⟨ls, hno, rfl⟩ := qget_some hl
  have hno := normW_norm hno
  refine ⟨_, _, ?_, .enterQ hno (s2 := s16naa (lLL ls 0) (lI ls 1) (lI ls 2) (lLL ls 3) (lI ls 4) (lI ls 5) (lLL ls 6) (lI ls 7) (lI ls 8)) (by kernel_rfl) (lokb16naa _ _ _ _ _ _ _ _ _ hch)⟩
  decide
theorem is16na_0 (cs : List (List AV)) (t2 : Int) (t13 : List (List AV)) (t14 t3 t15 : Int) (h : i16na_0 cs t2 t13 t14 t3 t15 = true) : r16na cs t2 t13 t14 t3 t15 = some (.x0 (v16na_0_t2' cs t2 t13 t14 t3 t15) (v16na_0_t3 cs t2 t13 t14 t3 t15) (v16na_0_t15 cs t2 t13 t14 t3 t15)) := by
  unfold i16na_0 at h
  unfold v16na_0_t2' v16na_0_t3 v16na_0_t15
  generalize r16na cs t2 t13 t14 t3 t15 = r at h ⊢
  rcases r with _ | y
  · cases h
  · cases y <;> first | rfl | cases h
theorem is16na_1 (cs : List (List AV)) (t2 : Int) (t13 : List (List AV)) (t14 t3 t15 : Int) (h : i16na_1 cs t2 t13 t14 t3 t15 = true) : r16na cs t2 t13 t14 t3 t15 = some (.x1 (v16na_1_t3 cs t2 t13 t14 t3 t15) (v16na_1_t15 cs t2 t13 t14 t3 t15)) := by
  unfold i16na_1 at h
  unfold v16na_1_t3 v16na_1_t15
  generalize r16na cs t2 t13 t14 t3 t15 = r at h ⊢
  rcases r with _ | y
  · cases h
  · cases y <;> first | rfl | cases h
theorem round16na (cs : List (List AV)) (t2 t3 : Int) (t13 : List (List AV)) (t14 t15 : Int) : round Try.prog SN2 (ro 16) L16n lp16na [false, true, false, true, true, true] [(1, none), (2, none), (3, none), (13, none), (14, none), (15, none)] 0 (s16na cs t2 t3 t13 t14 t15) =
    cond (decide (t15 < t14)) (cond (inb t15 t13.length) (cond (g29n (fI (t13.getD t15.toNat []) 0) (-400) 400) (cond (!w29n_0 (fI (t13.getD t15.toNat []) 0) (-400) 400) (some (.ret, o16na_0 cs t2 t13 t14 1 t3 t15)) (cond (decide (t15 > 0)) (cond (inb (IntKind.i64.wrap (t15 - 1)) cs.length) (cond (decide (fI (t13.getD t15.toNat []) 0 ≤ fI (cs.getD (IntKind.i64.wrap (t15 - 1)).toNat []) 0)) (some (.ret, o16na_0 cs t2 t13 t14 8 t3 t15)) (cond (decide (IntKind.i64.wrap (t3 + (↑(fE (t13.getD t15.toNat []) 1).length : Int)) > 96)) (some (.ret, o16na_0 cs t2 t13 t14 3 (IntKind.i64.wrap (t3 + (↑(fE (t13.getD t15.toNat []) 1).length : Int))) t15)) (cond (i16naa_0 cs t2 (IntKind.i64.wrap (t3 + (↑(fE (t13.getD t15.toNat []) 1).length : Int))) t13 t14 t15 (fE (t13.getD t15.toNat []) 1) (↑(fE (t13.getD t15.toNat []) 1).length : Int) 0) (some (.ret, o16na_0 cs t2 t13 t14 (v16naa_0_t2' cs t2 (IntKind.i64.wrap (t3 + (↑(fE (t13.getD t15.toNat []) 1).length : Int))) t13 t14 t15 (fE (t13.getD t15.toNat []) 1) (↑(fE (t13.getD t15.toNat []) 1).length : Int) 0) (IntKind.i64.wrap (t3 + (↑(fE (t13.getD t15.toNat []) 1).length : Int))) t15)) (cond (i16naa_1 cs t2 (IntKind.i64.wrap (t3 + (↑(fE (t13.getD t15.toNat []) 1).length : Int))) t13 t14 t15 (fE (t13.getD t15.toNat []) 1) (↑(fE (t13.getD t15.toNat []) 1).length : Int) 0) (some (.nrm, s16na cs t2 (IntKind.i64.wrap (t3 + (↑(fE (t13.getD t15.toNat []) 1).length : Int))) t13 t14 (IntKind.i64.wrap (t15 + 1)))) (none))))) (none)) (cond (decide (IntKind.i64.wrap (t3 + (↑(fE (t13.getD t15.toNat []) 1).length : Int)) > 96)) (some (.ret, o16na_0 cs t2 t13 t14 3 (IntKind.i64.wrap (t3 + (↑(fE (t13.getD t15.toNat []) 1).length : Int))) t15)) (cond (i16naa_0 cs t2 (IntKind.i64.wrap (t3 + (↑(fE (t13.getD t15.toNat []) 1).length : Int))) t13 t14 t15 (fE (t13.getD t15.toNat []) 1) (↑(fE (t13.getD t15.toNat []) 1).length : Int) 0) (some (.ret, o16na_0 cs t2 t13 t14 (v16naa_0_t2' cs t2 (IntKind.i64.wrap (t3 + (↑(fE (t13.getD t15.toNat []) 1).length : Int))) t13 t14 t15 (fE (t13.getD t15.toNat []) 1) (↑(fE (t13.getD t15.toNat []) 1).length : Int) 0) (IntKind.i64.wrap (t3 + (↑(fE (t13.getD t15.toNat []) 1).length : Int))) t15)) (cond (i16naa_1 cs t2 (IntKind.i64.wrap (t3 + (↑(fE (t13.getD t15.toNat []) 1).length : Int))) t13 t14 t15 (fE (t13.getD t15.toNat []) 1) (↑(fE (t13.getD t15.toNat []) 1).length : Int) 0) (some (.nrm, s16na cs t2 (IntKind.i64.wrap (t3 + (↑(fE (t13.getD t15.toNat []) 1).length : Int))) t13 t14 (IntKind.i64.wrap (t15 + 1)))) (none)))))) (none)) (none)) (some (.ext 0, o16na_1 cs t2 t13 t14 t3 t15)) := by kernel_rfl
theorem rnd16na (cs : List (List AV)) (t2 : Int) (t13 : List (List AV)) (t14 : Int) (x : S16na) : round Try.prog SN2 (ro 16) L16n lp16na [false, true, false, true, true, true] [(1, none), (2, none), (3, none), (13, none), (14, none), (15, none)] 0 ((fun x => s16na cs t2 x.t3 t13 t14 x.t15) x) = toR (fun x => s16na cs t2 x.t3 t13 t14 x.t15) (ou16na cs t2 t13 t14) (stp16na cs t2 t13 t14 x.t3 x.t15) := by
  refine (round16na _ _ _ _ _ _ ).trans ?_
  unfold stp16na
  simp only [toR_cond]
  rfl
theorem lokb16na (cs : List (List AV)) (t2 t3 : Int) (t13 : List (List AV)) (t14 t15 : Int) {e : Ex} {s : St} (hch : Chosen (q16na cs t2 t3 t13 t14 t15) e s) : LB Try.prog SN2 (ro 16) L16n lp16na [false, true, false, true, true, true] [(1, none), (2, none), (3, none), (13, none), (14, none), (15, none)] 0 (s16na cs t2 t3 t13 t14 t15) e s := by
  unfold q16na at hch
  have main := fun y h => LB_run (x := (⟨t3, t15⟩ : S16na)) (y := y) (nb := 0) (fun y => by cases y <;> simp [ou16na]) (rnd16na cs t2 t13 t14) h
  obtain ⟨x, hx, hg, rfl, rfl⟩ := chosen_any hch
  simp only [List.mem_cons, List.not_mem_nil, or_false] at hx
  rcases hx with rfl | rfl
  · exact main _ (is16na_0 cs t2 t13 t14 t3 t15 hg)
  · exact main _ (is16na_1 cs t2 t13 t14 t3 t15 hg)
theorem lok16na {st : St} {outs : List (Bool × Ex × St)} {e : Ex} {s : St} (hl : l16na st = some outs) (hch : Chosen outs e s) :
    ∃ keep nb, 0 ≤ nb ∧ LB Try.prog SN2 (ro 16) L16n lp16na [false, true, false, true, true, true] keep nb st e s := by
  unfold l16na at hl
  obtain ⟨ls, hno, rfl⟩ := qget_some hl
  have hno := normW_norm hno
  refine ⟨_, _, ?_, .enterQ hno (s2 := s16na (lLL ls 0) (lI ls 1) (lI ls 2) (lLL ls 3) (lI ls 4) (lI ls 5)) (by kernel_rfl) (lokb16na _ _ _ _ _ _ hch)⟩
  decide
theorem L16n_ok (q : Pl) (c : Code) (hq : locate c16n q.reverse = some (.loop c)) (st : St) (outs : List (Bool × Ex × St)) (e : Ex) (s : St) (hl : L16n q st = some outs) (hch : Chosen outs e s) :
    ∃ keep nb, 0 ≤ nb ∧ LB Try.prog SN2 (ro 16) L16n c q keep nb st e s := by
  unfold L16n at hl
  split at hl
  · have : locate c16n ([false, true, true, true, true, true, false, false, true, true, false, false, true, false, true, true, true] : Pl).reverse = some (.loop lp16naa) := by kernel_rfl
    rw [this] at hq
    cases hq
    exact lok16naa hl hch
  · have : locate c16n ([false, true, false, true, true, true] : Pl).reverse = some (.loop lp16na) := by kernel_rfl
    rw [this] at hq
    cases hq
    exact lok16na hl hch
  · cases hl
theorem lok16n : LOK Try.prog SN2 (ro 16) L16n 0 false c16n [] :=
  lok_lo L16n_ok c16n [] false (locate_nil _) (by kernel_rfl)
noncomputable def t16n (cs : List (List AV)) : Tr ((Int)) :=
  .cn (decide ((↑cs.length : Int) > 24)) (.lf (3)) (.cn (i16na_0 cs 0 cs (↑cs.length : Int) 0 0) (.lf (v16na_0_t2' cs 0 cs (↑cs.length : Int) 0 0)) (.cn (i16na_1 cs 0 cs (↑cs.length : Int) 0 0) (.lf (0)) (.nn)))
noncomputable def g16n (cs : List (List AV)) : Bool := (t16n cs).g
noncomputable def w16n_0 (cs : List (List AV)) : Int := (t16n cs).val
theorem eq16n (cs : List (List AV)) : evF Try.prog SN2 (ro 16) L16n Try.f16 [.agg [.rs 43 cs]] = (t16n cs).opt (fun (x : (Int)) => (.i .i64 x : AV)) := by kernel_rfl
theorem con16n (cs : List (List AV)) (h : g16n cs = true) : Con Try.prog 16 [.agg [.rs 43 cs]] [] (.i .i64 (w16n_0 cs)) [] :=
  con_of SN2_ok mixed Try.func16 (c := c16n) rfl (names 16 _ Try.func16) lok16n ((eq16n cs).trans (Tr.sound _ _ h))
noncomputable def e16n (args : List AV) (rows : List Blk) : Option (Bool × AV × List Blk) := match args, rows with
  | [.agg [.rs 43 cs]], [] => some (g16n cs, .i .i64 (w16n_0 cs), [])
  | _, _ => none
theorem e16n_ok (args : List AV) (rows : List Blk) (pre : Bool) (v : AV) (rows' : List Blk) (h : e16n args rows = some (pre, v, rows')) (hp : pre = true) : Con Try.prog 16 args rows v rows' := by
  unfold e16n at h
  split at h
  · cases h; exact con16n _ hp
  · cases h
-- SPEC 16
end Go.Proofs.Ytfbfohkgajeopac

set_option maxRecDepth 100000
set_option linter.unusedVariables false
namespace Go.Proofs.Ytfbfohkgajeopac
open Go Go.Ev

theorem in29 (a b c : Int) : g29n a b c = true ∧ w29n_0 a b c = (decide (b ≤ a) && decide (a ≤ c)) := by
  unfold g29n w29n_0 t29n
  cases decide (b ≤ a) <;> exact ⟨rfl, rfl⟩
def okW (b : List AV) : Prop := 1 ≤ fI b 1 ∧ fI b 1 ≤ 100
theorem bundle30 (u wd ln le ta th : Int) : g30n u wd ln le ta th = true ∧ (w30n_0 u wd ln le ta th = true → 1 ≤ wd ∧ wd ≤ 100) := by
  have h := TrP.ok (t := t30n u wd ln le ta th) (p := fun v => v = true → 1 ≤ wd ∧ wd ≤ 100) (by
    unfold t30n
    simp only [(in29 _ _ _).1, (in29 _ _ _).2]
    refine .t rfl (.cn (fun _ => .t rfl (.cn (fun h => .t rfl (.cn (fun _ => .t rfl (.cn (fun _ => .t rfl (.cn (fun _ => .cn (fun _ => .t rfl ?_) ?_) ?_)) ?_)) ?_)) ?_)) ?_)
    · intro _
      simpa using h
    all_goals (intro _ h; cases h))
  exact h
def bsA (cs : List (List AV)) (k : Nat) : List (List AV) := fE (cs.getD k []) 1
def totA (cs : List (List AV)) : Nat → Nat
  | 0 => 0
  | k + 1 => totA cs k + (bsA cs k).length
theorem totA_mono (cs : List (List AV)) {i j : Nat} (h : i ≤ j) : totA cs i ≤ totA cs j := by
  induction j with
  | zero =>
    have : i = 0 := by omega
    subst this
    exact Nat.le_refl _
  | succ j ih =>
    by_cases e : i = j + 1
    · subst e; exact Nat.le_refl _
    · have := ih (by omega)
      simp only [totA]
      omega
theorem totA_le (cs : List (List AV)) {B : Nat} : ∀ k, (∀ j, j < k → (bsA cs j).length ≤ B) → totA cs k ≤ k * B
  | 0, _ => by simp [totA]
  | k + 1, h => by
    have h1 := totA_le cs k fun j hj => h j (by omega)
    have h2 := h k (by omega)
    simp only [totA]
    rw [Nat.add_mul, Nat.one_mul]
    omega
theorem great4 {cs : List (List AV)} (hn : cs.length ≤ 24) : g4n cs = true ∧ (w4n_0 cs = false → cs.length ≤ 8 ∧ (∀ j, j < cs.length → (bsA cs j).length ≤ 200) ∧ (totA cs cs.length ≤ 12 ∨ (96 < totA cs cs.length ∧ totA cs cs.length ≤ 400))) := by
  have hr : ∃ y, r4na cs false 0 0 = some y ∧ (match y with
      | .x0 t2' _ _ => t2' = true
      | .x1 t3 _ => t3 = (totA cs cs.length : Int) ∧ ∀ j, j < cs.length → (bsA cs j).length ≤ 200) := by
    unfold r4na
    refine run_cnt cs.length (fun k x => x = (⟨(totA cs k : Int), (k : Int)⟩ : S4na) ∧ ∀ j, j < k → (bsA cs j).length ≤ 200) _ (fun k x hk hx => ?_) (fun x hx => ?_) _ ⟨rfl, fun j hj => by omega⟩
    · obtain ⟨rfl, hx⟩ := hx
      have ht := totA_le cs k hx
      show LpOK _ _ (stp4na cs false (totA cs k : Int) (k : Int))
      unfold stp4na
      simp only [lt_true hk, inb_true hk, cond_true, Int.toNat_natCast, wrap_succ (show k < 9223372036854775807 by omega)]
      refine .cond (fun h => rfl) (fun h => ?_)
      have hb : (bsA cs k).length ≤ 200 := by
        have := of_decide_eq_false h
        unfold bsA
        omega
      refine ⟨?_, fun j hj => ?_⟩
      · have : IntKind.i64.wrap ((totA cs k : Int) + (↑(fE (cs.getD k []) 1).length : Int)) = ((totA cs (k + 1) : Nat) : Int) := by
          have : (fE (cs.getD k []) 1).length = (bsA cs k).length := rfl
          rw [this, wrap64 (by omega) (by omega)]
          simp only [totA]
          omega
        rw [this]
      · rcases Nat.lt_succ_iff_lt_or_eq.1 hj with h | rfl
        · exact hx j h
        · exact hb
    · obtain ⟨rfl, hx⟩ := hx
      show LpOK _ _ (stp4na cs false (totA cs cs.length : Int) (cs.length : Int))
      unfold stp4na
      simp only [lt_false, cond_false]
      exact ⟨rfl, hx⟩
  obtain ⟨y, hy, hq⟩ := hr
  have h := TrP.ok (t := t4n cs) (p := fun v => v = false → cs.length ≤ 8 ∧ (∀ j, j < cs.length → (bsA cs j).length ≤ 200) ∧ (totA cs cs.length ≤ 12 ∨ (96 < totA cs cs.length ∧ totA cs cs.length ≤ 400))) (by
    unfold t4n
    refine .cn (fun h8 => .t (decide_eq_true (by omega)) (fun h => by cases h)) (fun h8 => .f (decide_eq_false (by omega)) ?_)
    have h8 := of_decide_eq_false h8
    cases y with
    | x0 a b c =>
      have hi : i4na_0 cs false 0 0 = true := by unfold i4na_0; rw [hy]
      have hv : v4na_0_t2' cs false 0 0 = true := by unfold v4na_0_t2'; rw [hy]; exact hq
      refine .t hi ?_
      show _ = false → _
      rw [hv]
      intro h; cases h
    | x1 a b =>
      have hi : i4na_0 cs false 0 0 = false := by unfold i4na_0; rw [hy]
      have hi1 : i4na_1 cs false 0 0 = true := by unfold i4na_1; rw [hy]
      have hv : v4na_1_t3 cs false 0 0 = (totA cs cs.length : Int) := by unfold v4na_1_t3; rw [hy]; exact hq.1
      refine .f hi (.t hi1 ?_)
      rw [hv]
      refine .cn (fun h12 => .cn (fun _ h => by cases h) (fun h96 h => ?_)) (fun h12 h => ?_)
      · have h96 := of_decide_eq_false h96
        have h := of_decide_eq_false h
        exact ⟨by omega, hq.2, .inr ⟨by omega, by omega⟩⟩
      · have h12 := of_decide_eq_false h12
        exact ⟨by omega, hq.2, .inl (by omega)⟩)
  exact h
theorem check16 {cs : List (List AV)} (hn : cs.length ≤ 24) (h2 : ∀ j, j < cs.length → (bsA cs j).length ≤ 200) : g16n cs = true ∧ (w16n_0 cs = 0 → totA cs cs.length ≤ 96 ∧ ∀ j, j < cs.length → ∀ b, b ∈ bsA cs j → okW b) := by
  have inner : ∀ (k : Nat) (t3 : Int), k < cs.length → ∃ y, r16naa cs 0 t3 cs (cs.length : Int) (k : Int) (bsA cs k) ((bsA cs k).length : Int) 0 = some y ∧ (match y with
      | .x0 a _ => a ≠ 0
      | .x1 _ => ∀ b, b ∈ bsA cs k → okW b) := by
    intro k t3 hk
    have hl := h2 k hk
    unfold r16naa
    refine run_cnt (bsA cs k).length (fun m x => x = (⟨(m : Int)⟩ : S16naa) ∧ ∀ i, i < m → okW ((bsA cs k).getD i [])) _ (fun m x hm hx => ?_) (fun x hx => ?_) _ ⟨rfl, fun j hj => by omega⟩
    · obtain ⟨rfl, hx⟩ := hx
      show LpOK _ _ (stp16naa cs 0 t3 cs (cs.length : Int) (k : Int) (bsA cs k) ((bsA cs k).length : Int) (m : Int))
      unfold stp16naa
      simp only [lt_true hm, inb_true hm, cond_true, Int.toNat_natCast, wrap_succ (show m < 9223372036854775807 by omega), (bundle30 _ _ _ _ _ _).1]
      refine .cond (fun h => by show (1 : Int) ≠ 0; decide) (fun h => ⟨rfl, fun i hi => ?_⟩)
      rcases Nat.lt_succ_iff_lt_or_eq.1 hi with h' | rfl
      · exact hx i h'
      · exact (bundle30 _ _ _ _ _ _).2 (by simpa using h)
    · obtain ⟨rfl, hx⟩ := hx
      show LpOK _ _ (stp16naa cs 0 t3 cs (cs.length : Int) (k : Int) (bsA cs k) ((bsA cs k).length : Int) ((bsA cs k).length : Int))
      unfold stp16naa
      simp only [lt_false, cond_false]
      intro b hb
      obtain ⟨i, hi, rfl⟩ := List.getElem_of_mem hb
      simpa [List.getD_eq_getElem?_getD, hi] using hx i hi
  have hr : ∃ y, r16na cs 0 cs (cs.length : Int) 0 0 = some y ∧ (match y with
      | .x0 a _ _ => a ≠ 0
      | .x1 _ _ => totA cs cs.length ≤ 96 ∧ ∀ j, j < cs.length → ∀ b, b ∈ bsA cs j → okW b) := by
    unfold r16na
    refine run_cnt cs.length (fun k x => x = (⟨(totA cs k : Int), (k : Int)⟩ : S16na) ∧ totA cs k ≤ 96 ∧ ∀ j, j < k → ∀ b, b ∈ bsA cs j → okW b) _ (fun k x hk hx => ?_) (fun x hx => ?_) _ ⟨rfl, by simp [totA], fun j hj => by omega⟩
    · obtain ⟨rfl, hx1, hx⟩ := hx
      have hl := h2 k hk
      show LpOK _ _ (stp16na cs 0 cs (cs.length : Int) (totA cs k : Int) (k : Int))
      unfold stp16na
      have hb : fE (cs.getD k []) 1 = bsA cs k := rfl
      have hw : IntKind.i64.wrap ((totA cs k : Int) + ((bsA cs k).length : Int)) = (totA cs (k + 1) : Int) := by
        rw [wrap64 (by omega) (by omega)]
        simp only [totA]
        omega
      simp only [lt_true hk, inb_true hk, cond_true, Int.toNat_natCast, wrap_succ (show k < 9223372036854775807 by omega), (in29 _ _ _).1, hb, hw]
      obtain ⟨y, hy, hq⟩ := inner k (totA cs (k + 1) : Int) hk
      -- behind the order of the heights
      have rest : LpOK (fun x => x = (⟨(totA cs (k + 1) : Int), ((k + 1 : Nat) : Int)⟩ : S16na) ∧ totA cs (k + 1) ≤ 96 ∧ ∀ j, j < k + 1 → ∀ b, b ∈ bsA cs j → okW b)
          (fun y => match y with
            | .x0 a _ _ => a ≠ 0
            | .x1 _ _ => totA cs cs.length ≤ 96 ∧ ∀ j, j < cs.length → ∀ b, b ∈ bsA cs j → okW b)
          (cond (decide ((totA cs (k + 1) : Int) > 96)) (Lp.out (T16na.x0 3 (totA cs (k + 1) : Int) (k : Int))) (cond (i16naa_0 cs 0 (totA cs (k + 1) : Int) cs (cs.length : Int) (k : Int) (bsA cs k) ((bsA cs k).length : Int) 0) (Lp.out (T16na.x0 (v16naa_0_t2' cs 0 (totA cs (k + 1) : Int) cs (cs.length : Int) (k : Int) (bsA cs k) ((bsA cs k).length : Int) 0) (totA cs (k + 1) : Int) (k : Int))) (cond (i16naa_1 cs 0 (totA cs (k + 1) : Int) cs (cs.length : Int) (k : Int) (bsA cs k) ((bsA cs k).length : Int) 0) (Lp.go ⟨(totA cs (k + 1) : Int), ((k + 1 : Nat) : Int)⟩) Lp.bad))) := by
        refine .cond (fun h => by show (3 : Int) ≠ 0; decide) (fun h96 => ?_)
        have h96 := of_decide_eq_false h96
        cases y with
        | x0 a b =>
          have hi : i16naa_0 cs 0 (totA cs (k + 1) : Int) cs (cs.length : Int) (k : Int) (bsA cs k) ((bsA cs k).length : Int) 0 = true := by unfold i16naa_0; rw [hy]
          have hv : v16naa_0_t2' cs 0 (totA cs (k + 1) : Int) cs (cs.length : Int) (k : Int) (bsA cs k) ((bsA cs k).length : Int) 0 = a := by unfold v16naa_0_t2'; rw [hy]
          rw [hi, cond_true, hv]
          exact hq
        | x1 a =>
          have hi : i16naa_0 cs 0 (totA cs (k + 1) : Int) cs (cs.length : Int) (k : Int) (bsA cs k) ((bsA cs k).length : Int) 0 = false := by unfold i16naa_0; rw [hy]
          have hi1 : i16naa_1 cs 0 (totA cs (k + 1) : Int) cs (cs.length : Int) (k : Int) (bsA cs k) ((bsA cs k).length : Int) 0 = true := by unfold i16naa_1; rw [hy]
          rw [hi, cond_false, hi1, cond_true]
          refine ⟨rfl, by omega, fun j hj => ?_⟩
          rcases Nat.lt_succ_iff_lt_or_eq.1 hj with h' | rfl
          · exact hx j h'
          · exact hq
      refine .cond (fun h => by show (1 : Int) ≠ 0; decide) (fun _ => .cond (fun h0 => ?_) (fun _ => rest))
      have hk0 : 0 < k := by have := of_decide_eq_true h0; omega
      have hin : inb (IntKind.i64.wrap ((k : Int) - 1)) cs.length = true := by
        rw [wrap64 (by omega) (by omega)]
        unfold inb
        simp only [Bool.and_eq_true, decide_eq_true_eq]
        omega
      rw [hin, cond_true]
      exact .cond (fun h => by show (8 : Int) ≠ 0; decide) (fun _ => rest)
    · obtain ⟨rfl, hx⟩ := hx
      show LpOK _ _ (stp16na cs 0 cs (cs.length : Int) (totA cs cs.length : Int) (cs.length : Int))
      unfold stp16na
      simp only [lt_false, cond_false]
      exact hx
  obtain ⟨y, hy, hq⟩ := hr
  have h := TrP.ok (t := t16n cs) (p := fun v => v = 0 → totA cs cs.length ≤ 96 ∧ ∀ j, j < cs.length → ∀ b, b ∈ bsA cs j → okW b) (by
    unfold t16n
    refine .f (decide_eq_false (by omega)) ?_
    cases y with
    | x0 a b c =>
      have hi : i16na_0 cs 0 cs (cs.length : Int) 0 0 = true := by unfold i16na_0; rw [hy]
      have hv : v16na_0_t2' cs 0 cs (cs.length : Int) 0 0 = a := by unfold v16na_0_t2'; rw [hy]
      refine .t hi ?_
      show _ = 0 → _
      rw [hv]
      intro h; exact absurd h hq
    | x1 a b =>
      have hi : i16na_0 cs 0 cs (cs.length : Int) 0 0 = false := by unfold i16na_0; rw [hy]
      have hi1 : i16na_1 cs 0 cs (cs.length : Int) 0 0 = true := by unfold i16na_1; rw [hy]
      exact .f hi (.t hi1 fun _ => hq))
  exact h
end Go.Proofs.Ytfbfohkgajeopac

set_option maxRecDepth 100000
set_option maxHeartbeats 0
set_option linter.unusedVariables false
namespace Go.Proofs.Ytfbfohkgajeopac
open Go Go.Ev

noncomputable def c19n : Code := match Try.f19.body with | some c => c | _ => .skip
theorem lok19n : LOK Try.prog SN2 (ro 19) (fun _ _ => none) 0 false c19n [] :=
  lok_lo (fun _ _ _ _ _ _ _ h _ => by cases h) c19n [] false (locate_nil _) (by kernel_rfl)
noncomputable def t19n (aw al at' ah bw bl bt bh : Int) : Tr ((Int)) :=
  .cn (g34n aw bw) (.cn (g34n al bl) (.cn (g34n at' bt) (.cn (g34n ah bh) (.cn (g33n (w34n_0 aw bw) (w34n_0 al bl) (w34n_0 at' bt) (w34n_0 ah bh)) (.lf (w33n_0 (w34n_0 aw bw) (w34n_0 al bl) (w34n_0 at' bt) (w34n_0 ah bh))) (.nn)) (.nn)) (.nn)) (.nn)) (.nn)
noncomputable def g19n (aw al at' ah bw bl bt bh : Int) : Bool := (t19n aw al at' ah bw bl bt bh).g
noncomputable def w19n_0 (aw al at' ah bw bl bt bh : Int) : Int := (t19n aw al at' ah bw bl bt bh).val
theorem eq19n (aw al at' ah bw bl bt bh : Int) : evF Try.prog SN2 (ro 19) (fun _ _ => none) Try.f19 [.agg [.i .i64 aw, .i .i64 al, .i .i64 at', .i .i64 ah], .agg [.i .i64 bw, .i .i64 bl, .i .i64 bt, .i .i64 bh]] = (t19n aw al at' ah bw bl bt bh).opt (fun (x : (Int)) => (.i .i64 x : AV)) := by kernel_rfl
theorem con19n (aw al at' ah bw bl bt bh : Int) (h : g19n aw al at' ah bw bl bt bh = true) : Con Try.prog 19 [.agg [.i .i64 aw, .i .i64 al, .i .i64 at', .i .i64 ah], .agg [.i .i64 bw, .i .i64 bl, .i .i64 bt, .i .i64 bh]] [] (.i .i64 (w19n_0 aw al at' ah bw bl bt bh)) [] :=
  con_of SN2_ok mixed Try.func19 (c := c19n) rfl (names 19 _ Try.func19) lok19n ((eq19n aw al at' ah bw bl bt bh).trans (Tr.sound _ _ h))
noncomputable def e19n (args : List AV) (rows : List Blk) : Option (Bool × AV × List Blk) := match args, rows with
  | [.agg [.i .i64 aw, .i .i64 al, .i .i64 at', .i .i64 ah], .agg [.i .i64 bw, .i .i64 bl, .i .i64 bt, .i .i64 bh]], [] => some (g19n aw al at' ah bw bl bt bh, .i .i64 (w19n_0 aw al at' ah bw bl bt bh), [])
  | _, _ => none
theorem e19n_ok (args : List AV) (rows : List Blk) (pre : Bool) (v : AV) (rows' : List Blk) (h : e19n args rows = some (pre, v, rows')) (hp : pre = true) : Con Try.prog 19 args rows v rows' := by
  unfold e19n at h
  split at h
  · cases h; exact con19n _ _ _ _ _ _ _ _ hp
  · cases h
-- SPEC 19
end Go.Proofs.Ytfbfohkgajeopac

set_option maxRecDepth 100000
set_option linter.unusedVariables false
namespace Go.Proofs.Ytfbfohkgajeopac
open Go Go.Ev
noncomputable def SN3 : Ev.Spec := insS 19 e19n (S0)
theorem SN3_ok : SpecOK Try.prog SN3 := insS_ok e19n_ok (S0_ok)
end Go.Proofs.Ytfbfohkgajeopac

set_option maxRecDepth 100000
set_option maxHeartbeats 0
set_option linter.unusedVariables false
namespace Go.Proofs.Ytfbfohkgajeopac
open Go Go.Ev

noncomputable def c18n : Code := match Try.f18.body with | some c => c | _ => .skip
theorem lok18n : LOK Try.prog SN3 (ro 18) (fun _ _ => none) 0 false c18n [] :=
  lok_lo (fun _ _ _ _ _ _ _ h _ => by cases h) c18n [] false (locate_nil _) (by kernel_rfl)
noncomputable def t18n (aw al at' ah an bw bl bt bh bn : Int) : Tr ((Int)) :=
  .cn (g19n aw al at' ah bw bl bt bh) (.lf (w19n_0 aw al at' ah bw bl bt bh)) (.nn)
noncomputable def g18n (aw al at' ah an bw bl bt bh bn : Int) : Bool := (t18n aw al at' ah an bw bl bt bh bn).g
noncomputable def w18n_0 (aw al at' ah an bw bl bt bh bn : Int) : Int := (t18n aw al at' ah an bw bl bt bh bn).val
theorem eq18n (aw al at' ah an bw bl bt bh bn : Int) : evF Try.prog SN3 (ro 18) (fun _ _ => none) Try.f18 [.agg [.i .i64 aw, .i .i64 al, .i .i64 at', .i .i64 ah, .i .i64 an], .agg [.i .i64 bw, .i .i64 bl, .i .i64 bt, .i .i64 bh, .i .i64 bn]] = (t18n aw al at' ah an bw bl bt bh bn).opt (fun (x : (Int)) => (.i .i64 x : AV)) := by kernel_rfl
theorem con18n (aw al at' ah an bw bl bt bh bn : Int) (h : g18n aw al at' ah an bw bl bt bh bn = true) : Con Try.prog 18 [.agg [.i .i64 aw, .i .i64 al, .i .i64 at', .i .i64 ah, .i .i64 an], .agg [.i .i64 bw, .i .i64 bl, .i .i64 bt, .i .i64 bh, .i .i64 bn]] [] (.i .i64 (w18n_0 aw al at' ah an bw bl bt bh bn)) [] :=
  con_of SN3_ok mixed Try.func18 (c := c18n) rfl (names 18 _ Try.func18) lok18n ((eq18n aw al at' ah an bw bl bt bh bn).trans (Tr.sound _ _ h))
noncomputable def e18n (args : List AV) (rows : List Blk) : Option (Bool × AV × List Blk) := match args, rows with
  | [.agg [.i .i64 aw, .i .i64 al, .i .i64 at', .i .i64 ah, .i .i64 an], .agg [.i .i64 bw, .i .i64 bl, .i .i64 bt, .i .i64 bh, .i .i64 bn]], [] => some (g18n aw al at' ah an bw bl bt bh bn, .i .i64 (w18n_0 aw al at' ah an bw bl bt bh bn), [])
  | _, _ => none
theorem e18n_ok (args : List AV) (rows : List Blk) (pre : Bool) (v : AV) (rows' : List Blk) (h : e18n args rows = some (pre, v, rows')) (hp : pre = true) : Con Try.prog 18 args rows v rows' := by
  unfold e18n at h
  split at h
  · cases h; exact con18n _ _ _ _ _ _ _ _ _ _ hp
  · cases h
-- SPEC 18
end Go.Proofs.Ytfbfohkgajeopac

set_option maxRecDepth 100000
set_option linter.unusedVariables false
namespace Go.Proofs.Ytfbfohkgajeopac
open Go Go.Ev
noncomputable def SN4 : Ev.Spec := insS 18 e18n (S0)
theorem SN4_ok : SpecOK Try.prog SN4 := insS_ok e18n_ok (S0_ok)
end Go.Proofs.Ytfbfohkgajeopac

set_option maxRecDepth 100000
set_option maxHeartbeats 0
set_option linter.unusedVariables false
namespace Go.Proofs.Ytfbfohkgajeopac
open Go Go.Ev

noncomputable def c44n : Code := match Try.f44.body with | some c => c | _ => .skip
noncomputable def lp44na : Code := loopAt c44n [true, false]
noncomputable def s44na (n : Nat) (a b t8 : Int) (es : List (List AV)) : St :=
  { t := [(0, .sl 0 0 n), (1, .i .i64 a), (2, .i .i64 b), (3, .fn 18 []), (8, .i .i64 t8)], m := [(0, .row 37 es)], nx := 1, nt := 53 }
noncomputable def lp44naa : Code := loopAt c44n [true, false, false, true, false, false, true, false]
noncomputable def s44naa (n : Nat) (a b t8 t9 : Int) (es : List (List AV)) : St :=
  { t := [(0, .sl 0 0 n), (1, .i .i64 a), (2, .i .i64 b), (3, .fn 18 []), (8, .i .i64 t8), (9, .i .i64 t9)], m := [(0, .row 37 es)], nx := 1, nt := 53 }
structure S44naa where
  t9 : Int
  es : List (List AV)
inductive T44naa where
  | x0 (t9 : Int) (m0 : List (List AV))
noncomputable def stp44naa (n : Nat) (a b t8 t9 : Int) (es : List (List AV)) : Lp S44naa T44naa :=
  cond (decide (t9 > a)) (cond (inb t9 n && (0 + t9.toNat).blt es.length) (cond ((0 + t9.toNat).blt es.length) (cond (inb (IntKind.i64.wrap (t9 - 1)) n && (0 + (IntKind.i64.wrap (t9 - 1)).toNat).blt es.length) (cond ((0 + (IntKind.i64.wrap (t9 - 1)).toNat).blt es.length) (cond (g18n (fI (es.getD (0 + t9.toNat) []) 0) (fI (es.getD (0 + t9.toNat) []) 1) (fI (es.getD (0 + t9.toNat) []) 2) (fI (es.getD (0 + t9.toNat) []) 3) (fI (es.getD (0 + t9.toNat) []) 4) (fI (es.getD (0 + (IntKind.i64.wrap (t9 - 1)).toNat) []) 0) (fI (es.getD (0 + (IntKind.i64.wrap (t9 - 1)).toNat) []) 1) (fI (es.getD (0 + (IntKind.i64.wrap (t9 - 1)).toNat) []) 2) (fI (es.getD (0 + (IntKind.i64.wrap (t9 - 1)).toNat) []) 3) (fI (es.getD (0 + (IntKind.i64.wrap (t9 - 1)).toNat) []) 4)) (cond (decide (w18n_0 (fI (es.getD (0 + t9.toNat) []) 0) (fI (es.getD (0 + t9.toNat) []) 1) (fI (es.getD (0 + t9.toNat) []) 2) (fI (es.getD (0 + t9.toNat) []) 3) (fI (es.getD (0 + t9.toNat) []) 4) (fI (es.getD (0 + (IntKind.i64.wrap (t9 - 1)).toNat) []) 0) (fI (es.getD (0 + (IntKind.i64.wrap (t9 - 1)).toNat) []) 1) (fI (es.getD (0 + (IntKind.i64.wrap (t9 - 1)).toNat) []) 2) (fI (es.getD (0 + (IntKind.i64.wrap (t9 - 1)).toNat) []) 3) (fI (es.getD (0 + (IntKind.i64.wrap (t9 - 1)).toNat) []) 4) < 0)) (cond (inb (IntKind.i64.wrap (t9 - 1)) n && (0 + (IntKind.i64.wrap (t9 - 1)).toNat).blt es.length) (cond ((0 + (IntKind.i64.wrap (t9 - 1)).toNat).blt es.length) (cond (inb t9 n && (0 + t9.toNat).blt es.length) (cond ((0 + t9.toNat).blt es.length) (cond (inb t9 n && (0 + t9.toNat).blt es.length) (cond ((0 + t9.toNat).blt es.length) (cond (inb (IntKind.i64.wrap (t9 - 1)) n && (0 + (IntKind.i64.wrap (t9 - 1)).toNat).blt (es.set (0 + t9.toNat) (setCs (es.getD (0 + t9.toNat) []) 0 [AV.i IntKind.i64 (fI (es.getD (0 + (IntKind.i64.wrap (t9 - 1)).toNat) []) 0), AV.i IntKind.i64 (fI (es.getD (0 + (IntKind.i64.wrap (t9 - 1)).toNat) []) 1), AV.i IntKind.i64 (fI (es.getD (0 + (IntKind.i64.wrap (t9 - 1)).toNat) []) 2), AV.i IntKind.i64 (fI (es.getD (0 + (IntKind.i64.wrap (t9 - 1)).toNat) []) 3), AV.i IntKind.i64 (fI (es.getD (0 + (IntKind.i64.wrap (t9 - 1)).toNat) []) 4)])).length) (cond ((0 + (IntKind.i64.wrap (t9 - 1)).toNat).blt (es.set (0 + t9.toNat) (setCs (es.getD (0 + t9.toNat) []) 0 [AV.i IntKind.i64 (fI (es.getD (0 + (IntKind.i64.wrap (t9 - 1)).toNat) []) 0), AV.i IntKind.i64 (fI (es.getD (0 + (IntKind.i64.wrap (t9 - 1)).toNat) []) 1), AV.i IntKind.i64 (fI (es.getD (0 + (IntKind.i64.wrap (t9 - 1)).toNat) []) 2), AV.i IntKind.i64 (fI (es.getD (0 + (IntKind.i64.wrap (t9 - 1)).toNat) []) 3), AV.i IntKind.i64 (fI (es.getD (0 + (IntKind.i64.wrap (t9 - 1)).toNat) []) 4)])).length) (.go ⟨IntKind.i64.wrap (t9 - 1), (es.set (0 + t9.toNat) (setCs (es.getD (0 + t9.toNat) []) 0 [AV.i IntKind.i64 (fI (es.getD (0 + (IntKind.i64.wrap (t9 - 1)).toNat) []) 0), AV.i IntKind.i64 (fI (es.getD (0 + (IntKind.i64.wrap (t9 - 1)).toNat) []) 1), AV.i IntKind.i64 (fI (es.getD (0 + (IntKind.i64.wrap (t9 - 1)).toNat) []) 2), AV.i IntKind.i64 (fI (es.getD (0 + (IntKind.i64.wrap (t9 - 1)).toNat) []) 3), AV.i IntKind.i64 (fI (es.getD (0 + (IntKind.i64.wrap (t9 - 1)).toNat) []) 4)])).set (0 + (IntKind.i64.wrap (t9 - 1)).toNat) (setCs ((es.set (0 + t9.toNat) (setCs (es.getD (0 + t9.toNat) []) 0 [AV.i IntKind.i64 (fI (es.getD (0 + (IntKind.i64.wrap (t9 - 1)).toNat) []) 0), AV.i IntKind.i64 (fI (es.getD (0 + (IntKind.i64.wrap (t9 - 1)).toNat) []) 1), AV.i IntKind.i64 (fI (es.getD (0 + (IntKind.i64.wrap (t9 - 1)).toNat) []) 2), AV.i IntKind.i64 (fI (es.getD (0 + (IntKind.i64.wrap (t9 - 1)).toNat) []) 3), AV.i IntKind.i64 (fI (es.getD (0 + (IntKind.i64.wrap (t9 - 1)).toNat) []) 4)])).getD (0 + (IntKind.i64.wrap (t9 - 1)).toNat) []) 0 [AV.i IntKind.i64 (fI (es.getD (0 + t9.toNat) []) 0), AV.i IntKind.i64 (fI (es.getD (0 + t9.toNat) []) 1), AV.i IntKind.i64 (fI (es.getD (0 + t9.toNat) []) 2), AV.i IntKind.i64 (fI (es.getD (0 + t9.toNat) []) 3), AV.i IntKind.i64 (fI (es.getD (0 + t9.toNat) []) 4)])⟩) (.bad)) (.bad)) (.bad)) (.bad)) (.bad)) (.bad)) (.bad)) (.bad)) (.out (.x0 t9 es))) (.bad)) (.bad)) (.bad)) (.bad)) (.bad)) (.out (.x0 t9 es))
noncomputable def o44naa_0 (n : Nat) (a b t8 t9 : Int) (m0 : List (List AV)) : St :=
  { t := [(0, .sl 0 0 n), (1, .i .i64 a), (2, .i .i64 b), (3, .fn 18 []), (8, .i .i64 t8), (9, .i .i64 t9)], m := [(0, .row 37 m0)], nx := 1, nt := 53 }
noncomputable def ou44naa (n : Nat) (a b t8 : Int) : T44naa → Ex × St
  | .x0 t9 m0 => (.ext 2, o44naa_0 n a b t8 t9 m0)
noncomputable def r44naa (n : Nat) (a b t8 t9 : Int) (es : List (List AV)) : Option T44naa := run (fun x => stp44naa n a b t8 x.t9 x.es) (⟨t9, es⟩ : S44naa)
noncomputable def i44naa_0 (n : Nat) (a b t8 t9 : Int) (es : List (List AV)) : Bool := match r44naa n a b t8 t9 es with
  | some (.x0 _ _) => true
  | _ => false
noncomputable def v44naa_0_t9 (n : Nat) (a b t8 t9 : Int) (es : List (List AV)) : Int := match r44naa n a b t8 t9 es with
  | some (.x0 t9 _) => t9
  | _ => default
noncomputable def v44naa_0_m0 (n : Nat) (a b t8 t9 : Int) (es : List (List AV)) : List (List AV) := match r44naa n a b t8 t9 es with
  | some (.x0 _ m0) => m0
  | _ => default
noncomputable def q44naa (n : Nat) (a b t8 t9 : Int) (es : List (List AV)) : List (Bool × Ex × St) := [(i44naa_0 n a b t8 t9 es, .ext 2, o44naa_0 n a b t8 (v44naa_0_t9 n a b t8 t9 es) (v44naa_0_m0 n a b t8 t9 es))]
noncomputable def l44naa (st : St) : Option (List (Bool × Ex × St)) := qget [.sl 0 0, .i .i64, .i .i64, .fn 18 [], .i .i64, .i .i64] [(0, .rowv 37)] 1 53 (normW Try.prog [(0, none), (1, none), (2, none), (3, none), (8, none), (9, none)] 1 st) fun ls => q44naa (lN ls 0) (lI ls 1) (lI ls 2) (lI ls 3) (lI ls 4) (lLL ls 5)
structure S44na where
  t8 : Int
  es : List (List AV)
inductive T44na where
  | x0 (t8 : Int) (m0 : List (List AV))
noncomputable def stp44na (n : Nat) (a b t8 : Int) (es : List (List AV)) : Lp S44na T44na :=
  cond (decide (t8 < b)) (cond (i44naa_0 n a b t8 t8 es) (.go ⟨IntKind.i64.wrap (t8 + 1), v44naa_0_m0 n a b t8 t8 es⟩) (.bad)) (.out (.x0 t8 es))
noncomputable def o44na_0 (n : Nat) (a b t8 : Int) (m0 : List (List AV)) : St :=
  { t := [(0, .sl 0 0 n), (1, .i .i64 a), (2, .i .i64 b), (3, .fn 18 []), (8, .i .i64 t8)], m := [(0, .row 37 m0)], nx := 1, nt := 53 }
noncomputable def ou44na (n : Nat) (a b : Int) : T44na → Ex × St
  | .x0 t8 m0 => (.ext 0, o44na_0 n a b t8 m0)
noncomputable def r44na (n : Nat) (a b t8 : Int) (es : List (List AV)) : Option T44na := run (fun x => stp44na n a b x.t8 x.es) (⟨t8, es⟩ : S44na)
noncomputable def i44na_0 (n : Nat) (a b t8 : Int) (es : List (List AV)) : Bool := match r44na n a b t8 es with
  | some (.x0 _ _) => true
  | _ => false
noncomputable def v44na_0_t8 (n : Nat) (a b t8 : Int) (es : List (List AV)) : Int := match r44na n a b t8 es with
  | some (.x0 t8 _) => t8
  | _ => default
noncomputable def v44na_0_m0 (n : Nat) (a b t8 : Int) (es : List (List AV)) : List (List AV) := match r44na n a b t8 es with
  | some (.x0 _ m0) => m0
  | _ => default
noncomputable def q44na (n : Nat) (a b t8 : Int) (es : List (List AV)) : List (Bool × Ex × St) := [(i44na_0 n a b t8 es, .ext 0, o44na_0 n a b (v44na_0_t8 n a b t8 es) (v44na_0_m0 n a b t8 es))]
noncomputable def l44na (st : St) : Option (List (Bool × Ex × St)) := qget [.sl 0 0, .i .i64, .i .i64, .fn 18 [], .i .i64] [(0, .rowv 37)] 1 53 (normW Try.prog [(0, none), (1, none), (2, none), (3, none), (8, none)] 1 st) fun ls => q44na (lN ls 0) (lI ls 1) (lI ls 2) (lI ls 3) (lLL ls 4)
noncomputable def L44n : LSpec := fun p st => match p with
  | [false, true, false, false, true, false, false, true] => l44naa st
  | [false, true] => l44na st
  | _ => none
theorem is44naa_0 (n : Nat) (a b t8 t9 : Int) (es : List (List AV)) (h : i44naa_0 n a b t8 t9 es = true) : r44naa n a b t8 t9 es = some (.x0 (v44naa_0_t9 n a b t8 t9 es) (v44naa_0_m0 n a b t8 t9 es)) := by
  unfold i44naa_0 at h
  unfold v44naa_0_t9 v44naa_0_m0
  generalize r44naa n a b t8 t9 es = r at h ⊢
  rcases r with _ | y
  · cases h
  · cases y <;> first | rfl | cases h
theorem round44naa (n : Nat) (a b t8 t9 : Int) (es : List (List AV)) : round Try.prog SN4 (ro 44) L44n lp44naa [false, true, false, false, true, false, false, true] [(0, none), (1, none), (2, none), (3, none), (8, none), (9, none)] 1 (s44naa n a b t8 t9 es) =
    cond (decide (t9 > a)) (cond (inb t9 n && (0 + t9.toNat).blt es.length) (cond ((0 + t9.toNat).blt es.length) (cond (inb (IntKind.i64.wrap (t9 - 1)) n && (0 + (IntKind.i64.wrap (t9 - 1)).toNat).blt es.length) (cond ((0 + (IntKind.i64.wrap (t9 - 1)).toNat).blt es.length) (cond (g18n (fI (es.getD (0 + t9.toNat) []) 0) (fI (es.getD (0 + t9.toNat) []) 1) (fI (es.getD (0 + t9.toNat) []) 2) (fI (es.getD (0 + t9.toNat) []) 3) (fI (es.getD (0 + t9.toNat) []) 4) (fI (es.getD (0 + (IntKind.i64.wrap (t9 - 1)).toNat) []) 0) (fI (es.getD (0 + (IntKind.i64.wrap (t9 - 1)).toNat) []) 1) (fI (es.getD (0 + (IntKind.i64.wrap (t9 - 1)).toNat) []) 2) (fI (es.getD (0 + (IntKind.i64.wrap (t9 - 1)).toNat) []) 3) (fI (es.getD (0 + (IntKind.i64.wrap (t9 - 1)).toNat) []) 4)) (cond (decide (w18n_0 (fI (es.getD (0 + t9.toNat) []) 0) (fI (es.getD (0 + t9.toNat) []) 1) (fI (es.getD (0 + t9.toNat) []) 2) (fI (es.getD (0 + t9.toNat) []) 3) (fI (es.getD (0 + t9.toNat) []) 4) (fI (es.getD (0 + (IntKind.i64.wrap (t9 - 1)).toNat) []) 0) (fI (es.getD (0 + (IntKind.i64.wrap (t9 - 1)).toNat) []) 1) (fI (es.getD (0 + (IntKind.i64.wrap (t9 - 1)).toNat) []) 2) (fI (es.getD (0 + (IntKind.i64.wrap (t9 - 1)).toNat) []) 3) (fI (es.getD (0 + (IntKind.i64.wrap (t9 - 1)).toNat) []) 4) < 0)) (cond (inb (IntKind.i64.wrap (t9 - 1)) n && (0 + (IntKind.i64.wrap (t9 - 1)).toNat).blt es.length) (cond ((0 + (IntKind.i64.wrap (t9 - 1)).toNat).blt es.length) (cond (inb t9 n && (0 + t9.toNat).blt es.length) (cond ((0 + t9.toNat).blt es.length) (cond (inb t9 n && (0 + t9.toNat).blt es.length) (cond ((0 + t9.toNat).blt es.length) (cond (inb (IntKind.i64.wrap (t9 - 1)) n && (0 + (IntKind.i64.wrap (t9 - 1)).toNat).blt (es.set (0 + t9.toNat) (setCs (es.getD (0 + t9.toNat) []) 0 [AV.i IntKind.i64 (fI (es.getD (0 + (IntKind.i64.wrap (t9 - 1)).toNat) []) 0), AV.i IntKind.i64 (fI (es.getD (0 + (IntKind.i64.wrap (t9 - 1)).toNat) []) 1), AV.i IntKind.i64 (fI (es.getD (0 + (IntKind.i64.wrap (t9 - 1)).toNat) []) 2), AV.i IntKind.i64 (fI (es.getD (0 + (IntKind.i64.wrap (t9 - 1)).toNat) []) 3), AV.i IntKind.i64 (fI (es.getD (0 + (IntKind.i64.wrap (t9 - 1)).toNat) []) 4)])).length) (cond ((0 + (IntKind.i64.wrap (t9 - 1)).toNat).blt (es.set (0 + t9.toNat) (setCs (es.getD (0 + t9.toNat) []) 0 [AV.i IntKind.i64 (fI (es.getD (0 + (IntKind.i64.wrap (t9 - 1)).toNat) []) 0), AV.i IntKind.i64 (fI (es.getD (0 + (IntKind.i64.wrap (t9 - 1)).toNat) []) 1), AV.i IntKind.i64 (fI (es.getD (0 + (IntKind.i64.wrap (t9 - 1)).toNat) []) 2), AV.i IntKind.i64 (fI (es.getD (0 + (IntKind.i64.wrap (t9 - 1)).toNat) []) 3), AV.i IntKind.i64 (fI (es.getD (0 + (IntKind.i64.wrap (t9 - 1)).toNat) []) 4)])).length) (some (.nrm, s44naa n a b t8 (IntKind.i64.wrap (t9 - 1)) ((es.set (0 + t9.toNat) (setCs (es.getD (0 + t9.toNat) []) 0 [AV.i IntKind.i64 (fI (es.getD (0 + (IntKind.i64.wrap (t9 - 1)).toNat) []) 0), AV.i IntKind.i64 (fI (es.getD (0 + (IntKind.i64.wrap (t9 - 1)).toNat) []) 1), AV.i IntKind.i64 (fI (es.getD (0 + (IntKind.i64.wrap (t9 - 1)).toNat) []) 2), AV.i IntKind.i64 (fI (es.getD (0 + (IntKind.i64.wrap (t9 - 1)).toNat) []) 3), AV.i IntKind.i64 (fI (es.getD (0 + (IntKind.i64.wrap (t9 - 1)).toNat) []) 4)])).set (0 + (IntKind.i64.wrap (t9 - 1)).toNat) (setCs ((es.set (0 + t9.toNat) (setCs (es.getD (0 + t9.toNat) []) 0 [AV.i IntKind.i64 (fI (es.getD (0 + (IntKind.i64.wrap (t9 - 1)).toNat) []) 0), AV.i IntKind.i64 (fI (es.getD (0 + (IntKind.i64.wrap (t9 - 1)).toNat) []) 1), AV.i IntKind.i64 (fI (es.getD (0 + (IntKind.i64.wrap (t9 - 1)).toNat) []) 2), AV.i IntKind.i64 (fI (es.getD (0 + (IntKind.i64.wrap (t9 - 1)).toNat) []) 3), AV.i IntKind.i64 (fI (es.getD (0 + (IntKind.i64.wrap (t9 - 1)).toNat) []) 4)])).getD (0 + (IntKind.i64.wrap (t9 - 1)).toNat) []) 0 [AV.i IntKind.i64 (fI (es.getD (0 + t9.toNat) []) 0), AV.i IntKind.i64 (fI (es.getD (0 + t9.toNat) []) 1), AV.i IntKind.i64 (fI (es.getD (0 + t9.toNat) []) 2), AV.i IntKind.i64 (fI (es.getD (0 + t9.toNat) []) 3), AV.i IntKind.i64 (fI (es.getD (0 + t9.toNat) []) 4)])))) (none)) (none)) (none)) (none)) (none)) (none)) (none)) (none)) (some (.ext 2, o44naa_0 n a b t8 t9 es))) (none)) (none)) (none)) (none)) (none)) (some (.ext 2, o44naa_0 n a b t8 t9 es)) := by kernel_rfl
theorem rnd44naa (n : Nat) (a b t8 : Int) (x : S44naa) : round Try.prog SN4 (ro 44) L44n lp44naa [false, true, false, false, true, false, false, true] [(0, none), (1, none), (2, none), (3, none), (8, none), (9, none)] 1 ((fun x => s44naa n a b t8 x.t9 x.es) x) = toR (fun x => s44naa n a b t8 x.t9 x.es) (ou44naa n a b t8) (stp44naa n a b t8 x.t9 x.es) := by
  refine (round44naa _ _ _ _ _ _ ).trans ?_
  unfold stp44naa
  simp only [toR_cond]
  rfl
theorem lokb44naa (n : Nat) (a b t8 t9 : Int) (es : List (List AV)) {e : Ex} {s : St} (hch : Chosen (q44naa n a b t8 t9 es) e s) : LB Try.prog SN4 (ro 44) L44n lp44naa [false, true, false, false, true, false, false, true] [(0, none), (1, none), (2, none), (3, none), (8, none), (9, none)] 1 (s44naa n a b t8 t9 es) e s := by
  unfold q44naa at hch
  have main := fun y h => LB_run (x := (⟨t9, es⟩ : S44naa)) (y := y) (nb := 1) (fun y => by cases y <;> simp [ou44naa]) (rnd44naa n a b t8) h
  obtain ⟨x, hx, hg, rfl, rfl⟩ := chosen_any hch
  simp only [List.mem_cons, List.not_mem_nil, or_false] at hx
  subst hx
  exact main _ (is44naa_0 n a b t8 t9 es hg)
theorem lok44naa {st : St} {outs : List (Bool × Ex × St)} {e : Ex} {s : St} (hl : l44naa st = some outs) (hch : Chosen outs e s) :
    ∃ keep nb, 1 ≤ nb ∧ LB Try.prog SN4 (ro 44) L44n lp44naa [false, true, false, false, true, false, false, true] keep nb st e s := by
  unfold l44naa at hl
  obtain ⟨ls, hno, rfl⟩ := qget_some hl
  have hno := normW_norm hno
  refine ⟨_, _, ?_, .enterQ hno (s2 := s44naa (lN ls 0) (lI ls 1) (lI ls 2) (lI ls 3) (lI ls 4) (lLL ls 5)) (by kernel_rfl) (lokb44naa _ _ _ _ _ _ hch)⟩
  decide
theorem is44na_0 (n : Nat) (a b t8 : Int) (es : List (List AV)) (h : i44na_0 n a b t8 es = true) : r44na n a b t8 es = some (.x0 (v44na_0_t8 n a b t8 es) (v44na_0_m0 n a b t8 es)) := by
  unfold i44na_0 at h
  unfold v44na_0_t8 v44na_0_m0
  generalize r44na n a b t8 es = r at h ⊢
  rcases r with _ | y
  · cases h
  · cases y <;> first | rfl | cases h
theorem round44na (n : Nat) (a b t8 : Int) (es : List (List AV)) : round Try.prog SN4 (ro 44) L44n lp44na [false, true] [(0, none), (1, none), (2, none), (3, none), (8, none)] 1 (s44na n a b t8 es) =
    cond (decide (t8 < b)) (cond (i44naa_0 n a b t8 t8 es) (some (.nrm, s44na n a b (IntKind.i64.wrap (t8 + 1)) (v44naa_0_m0 n a b t8 t8 es))) (none)) (some (.ext 0, o44na_0 n a b t8 es)) := by kernel_rfl
theorem rnd44na (n : Nat) (a b : Int) (x : S44na) : round Try.prog SN4 (ro 44) L44n lp44na [false, true] [(0, none), (1, none), (2, none), (3, none), (8, none)] 1 ((fun x => s44na n a b x.t8 x.es) x) = toR (fun x => s44na n a b x.t8 x.es) (ou44na n a b) (stp44na n a b x.t8 x.es) := by
  refine (round44na _ _ _ _ _ ).trans ?_
  unfold stp44na
  simp only [toR_cond]
  rfl
theorem lokb44na (n : Nat) (a b t8 : Int) (es : List (List AV)) {e : Ex} {s : St} (hch : Chosen (q44na n a b t8 es) e s) : LB Try.prog SN4 (ro 44) L44n lp44na [false, true] [(0, none), (1, none), (2, none), (3, none), (8, none)] 1 (s44na n a b t8 es) e s := by
  unfold q44na at hch
  have main := fun y h => LB_run (x := (⟨t8, es⟩ : S44na)) (y := y) (nb := 1) (fun y => by cases y <;> simp [ou44na]) (rnd44na n a b) h
  obtain ⟨x, hx, hg, rfl, rfl⟩ := chosen_any hch
  simp only [List.mem_cons, List.not_mem_nil, or_false] at hx
  subst hx
  exact main _ (is44na_0 n a b t8 es hg)
theorem lok44na {st : St} {outs : List (Bool × Ex × St)} {e : Ex} {s : St} (hl : l44na st = some outs) (hch : Chosen outs e s) :
    ∃ keep nb, 1 ≤ nb ∧ LB Try.prog SN4 (ro 44) L44n lp44na [false, true] keep nb st e s := by
  unfold l44na at hl
  obtain ⟨ls, hno, rfl⟩ := qget_some hl
  have hno := normW_norm hno
  refine ⟨_, _, ?_, .enterQ hno (s2 := s44na (lN ls 0) (lI ls 1) (lI ls 2) (lI ls 3) (lLL ls 4)) (by kernel_rfl) (lokb44na _ _ _ _ _ hch)⟩
  decide
theorem L44n_ok (q : Pl) (c : Code) (hq : locate c44n q.reverse = some (.loop c)) (st : St) (outs : List (Bool × Ex × St)) (e : Ex) (s : St) (hl : L44n q st = some outs) (hch : Chosen outs e s) :
    ∃ keep nb, 1 ≤ nb ∧ LB Try.prog SN4 (ro 44) L44n c q keep nb st e s := by
  unfold L44n at hl
  split at hl
  · have : locate c44n ([false, true, false, false, true, false, false, true] : Pl).reverse = some (.loop lp44naa) := by kernel_rfl
    rw [this] at hq
    cases hq
    exact lok44naa hl hch
  · have : locate c44n ([false, true] : Pl).reverse = some (.loop lp44na) := by kernel_rfl
    rw [this] at hq
    cases hq
    exact lok44na hl hch
  · cases hl
theorem lok44n : LOK Try.prog SN4 (ro 44) L44n 1 false c44n [] :=
  lok_lo L44n_ok c44n [] false (locate_nil _) (by kernel_rfl)
noncomputable def t44n (n : Nat) (a b : Int) (es : List (List AV)) : Tr ((List (List AV))) :=
  .cn (i44na_0 n a b (IntKind.i64.wrap (a + 1)) es) (.lf (v44na_0_m0 n a b (IntKind.i64.wrap (a + 1)) es)) (.nn)
noncomputable def g44n (n : Nat) (a b : Int) (es : List (List AV)) : Bool := (t44n n a b es).g
noncomputable def w44n_0 (n : Nat) (a b : Int) (es : List (List AV)) : List (List AV) := (t44n n a b es).val
theorem eq44n (n : Nat) (a b : Int) (es : List (List AV)) : evM Try.prog SN4 (ro 44) L44n Try.f44 [.sl 0 0 n, .i .i64 a, .i .i64 b, .fn 18 []] [.row 37 es] = (t44n n a b es).opt (fun (x : (List (List AV))) => ((.tup [], [.row 37 x]) : AV × List Blk)) := by kernel_rfl
theorem con44n (n : Nat) (a b : Int) (es : List (List AV)) (h : g44n n a b es = true) : Con Try.prog 44 [.sl 0 0 n, .i .i64 a, .i .i64 b, .fn 18 []] [.row 37 es] (.tup []) [.row 37 (w44n_0 n a b es)] :=
  con_ofM SN4_ok mixed Try.func44 (c := c44n) rfl (names 44 _ Try.func44) lok44n ((eq44n n a b es).trans (Tr.sound _ _ h))
noncomputable def e44n (args : List AV) (rows : List Blk) : Option (Bool × AV × List Blk) := match args, rows with
  | [.sl 0 0 n, .i .i64 a, .i .i64 b, .fn 18 []], [.row 37 es] => some (g44n n a b es, .tup [], [.row 37 (w44n_0 n a b es)])
  | _, _ => none
theorem e44n_ok (args : List AV) (rows : List Blk) (pre : Bool) (v : AV) (rows' : List Blk) (h : e44n args rows = some (pre, v, rows')) (hp : pre = true) : Con Try.prog 44 args rows v rows' := by
  unfold e44n at h
  split at h
  · cases h; exact con44n _ _ _ _ hp
  · cases h
-- SPEC 44
end Go.Proofs.Ytfbfohkgajeopac

set_option maxRecDepth 100000
set_option linter.unusedVariables false
namespace Go.Proofs.Ytfbfohkgajeopac
open Go Go.Ev
noncomputable def SN5 : Ev.Spec := insS 44 e44n (S0)
theorem SN5_ok : SpecOK Try.prog SN5 := insS_ok e44n_ok (S0_ok)
end Go.Proofs.Ytfbfohkgajeopac

set_option maxRecDepth 100000
set_option maxHeartbeats 0
set_option linter.unusedVariables false
namespace Go.Proofs.Ytfbfohkgajeopac
open Go Go.Ev

noncomputable def c31n : Code := match Try.f31.body with | some c => c | _ => .skip
noncomputable def lp31na : Code := loopAt c31n [true, true, false]
noncomputable def s31na (n : Nat) (t1 b lim : Int) (t10 t11 : Bool) (es : List (List AV)) : St :=
  { t := [(0, .sl 0 0 n), (1, .i .i64 t1), (2, .i .i64 b), (3, .i .i64 lim), (4, .fn 18 []), (10, .b t10), (11, .b t11)], m := [(0, .row 37 es)], nx := 1, nt := 148 }
structure S31na where
inductive T31na where
  | x0 (m0 : List (List AV))
noncomputable def stp31na (n : Nat) (t1 b lim : Int) (t10 t11 : Bool) (es : List (List AV)) : Lp S31na T31na :=
  cond (decide (IntKind.i64.wrap (b - t1) ≤ 12)) (cond (g44n n t1 b es && true) (.out (.x0 (w44n_0 n t1 b es))) (.bad)) (cond (lim == 0) (.bad) (cond (!t10) (.bad) (.bad)))
noncomputable def o31na_0 (n : Nat) (t1 b lim : Int) (t10 t11 : Bool) (es m0 : List (List AV)) : St :=
  { t := [(0, .sl 0 0 n), (1, .i .i64 t1), (2, .i .i64 b), (3, .i .i64 lim), (4, .fn 18 []), (10, .b t10), (11, .b t11)], m := [(0, .row 37 m0)], nx := 1, nt := 148 }
noncomputable def ou31na (n : Nat) (t1 b lim : Int) (t10 t11 : Bool) (es : List (List AV)) : T31na → Ex × St
  | .x0 m0 => (.ret, o31na_0 n t1 b lim t10 t11 es m0)
noncomputable def r31na (n : Nat) (t1 b lim : Int) (t10 t11 : Bool) (es : List (List AV)) : Option T31na := run (fun x => stp31na n t1 b lim t10 t11 es) (⟨⟩ : S31na)
noncomputable def i31na_0 (n : Nat) (t1 b lim : Int) (t10 t11 : Bool) (es : List (List AV)) : Bool := match r31na n t1 b lim t10 t11 es with
  | some (.x0 _) => true
  | _ => false
noncomputable def v31na_0_m0 (n : Nat) (t1 b lim : Int) (t10 t11 : Bool) (es : List (List AV)) : List (List AV) := match r31na n t1 b lim t10 t11 es with
  | some (.x0 m0) => m0
  | _ => default
noncomputable def q31na (n : Nat) (t1 b lim : Int) (t10 t11 : Bool) (es : List (List AV)) : List (Bool × Ex × St) := [(i31na_0 n t1 b lim t10 t11 es, .ret, o31na_0 n t1 b lim t10 t11 es (v31na_0_m0 n t1 b lim t10 t11 es))]
noncomputable def l31na (st : St) : Option (List (Bool × Ex × St)) := qget [.sl 0 0, .i .i64, .i .i64, .i .i64, .fn 18 [], .b, .b] [(0, .rowv 37)] 1 148 (normW Try.prog [(0, none), (1, none), (2, none), (3, none), (4, none), (10, none), (11, none)] 1 st) fun ls => q31na (lN ls 0) (lI ls 1) (lI ls 2) (lI ls 3) (lB ls 4) (lB ls 5) (lLL ls 6)
noncomputable def L31n : LSpec := fun p st => match p with
  | [false, true, true] => l31na st
  | _ => none
theorem is31na_0 (n : Nat) (t1 b lim : Int) (t10 t11 : Bool) (es : List (List AV)) (h : i31na_0 n t1 b lim t10 t11 es = true) : r31na n t1 b lim t10 t11 es = some (.x0 (v31na_0_m0 n t1 b lim t10 t11 es)) := by
  unfold i31na_0 at h
  unfold v31na_0_m0
  generalize r31na n t1 b lim t10 t11 es = r at h ⊢
  rcases r with _ | y
  · cases h
  · cases y <;> first | rfl | cases h
theorem round31na (n : Nat) (t1 b lim : Int) (t10 t11 : Bool) (es : List (List AV)) : round Try.prog SN5 (ro 31) L31n lp31na [false, true, true] [(0, none), (1, none), (2, none), (3, none), (4, none), (10, none), (11, none)] 1 (s31na n t1 b lim t10 t11 es) =
    cond (decide (IntKind.i64.wrap (b - t1) ≤ 12)) (cond (g44n n t1 b es && true) (some (.ret, o31na_0 n t1 b lim t10 t11 es (w44n_0 n t1 b es))) (none)) (cond (lim == 0) (none) (cond (!t10) (none) (none))) := by kernel_rfl
theorem rnd31na (n : Nat) (t1 b lim : Int) (t10 t11 : Bool) (es : List (List AV)) (x : S31na) : round Try.prog SN5 (ro 31) L31n lp31na [false, true, true] [(0, none), (1, none), (2, none), (3, none), (4, none), (10, none), (11, none)] 1 ((fun x => s31na n t1 b lim t10 t11 es) x) = toR (fun x => s31na n t1 b lim t10 t11 es) (ou31na n t1 b lim t10 t11 es) (stp31na n t1 b lim t10 t11 es) := by
  refine (round31na _ _ _ _ _ _ _ ).trans ?_
  unfold stp31na
  simp only [toR_cond]
  rfl
theorem lokb31na (n : Nat) (t1 b lim : Int) (t10 t11 : Bool) (es : List (List AV)) {e : Ex} {s : St} (hch : Chosen (q31na n t1 b lim t10 t11 es) e s) : LB Try.prog SN5 (ro 31) L31n lp31na [false, true, true] [(0, none), (1, none), (2, none), (3, none), (4, none), (10, none), (11, none)] 1 (s31na n t1 b lim t10 t11 es) e s := by
  unfold q31na at hch
  have main := fun y h => LB_run (x := (⟨⟩ : S31na)) (y := y) (nb := 1) (fun y => by cases y <;> simp [ou31na]) (rnd31na n t1 b lim t10 t11 es) h
  obtain ⟨x, hx, hg, rfl, rfl⟩ := chosen_any hch
  simp only [List.mem_cons, List.not_mem_nil, or_false] at hx
  subst hx
  exact main _ (is31na_0 n t1 b lim t10 t11 es hg)
theorem lok31na {st : St} {outs : List (Bool × Ex × St)} {e : Ex} {s : St} (hl : l31na st = some outs) (hch : Chosen outs e s) :
    ∃ keep nb, 1 ≤ nb ∧ LB Try.prog SN5 (ro 31) L31n lp31na [false, true, true] keep nb st e s := by
  unfold l31na at hl
  obtain ⟨ls, hno, rfl⟩ := qget_some hl
  have hno := normW_norm hno
  refine ⟨_, _, ?_, .enterQ hno (s2 := s31na (lN ls 0) (lI ls 1) (lI ls 2) (lI ls 3) (lB ls 4) (lB ls 5) (lLL ls 6)) (by kernel_rfl) (lokb31na _ _ _ _ _ _ _ hch)⟩
  decide
theorem L31n_ok (q : Pl) (c : Code) (hq : locate c31n q.reverse = some (.loop c)) (st : St) (outs : List (Bool × Ex × St)) (e : Ex) (s : St) (hl : L31n q st = some outs) (hch : Chosen outs e s) :
    ∃ keep nb, 1 ≤ nb ∧ LB Try.prog SN5 (ro 31) L31n c q keep nb st e s := by
  unfold L31n at hl
  split at hl
  · have : locate c31n ([false, true, true] : Pl).reverse = some (.loop lp31na) := by kernel_rfl
    rw [this] at hq
    cases hq
    exact lok31na hl hch
  · cases hl
theorem lok31n : LOK Try.prog SN5 (ro 31) L31n 1 false c31n [] :=
  lok_lo L31n_ok c31n [] false (locate_nil _) (by kernel_rfl)
noncomputable def t31n (n : Nat) (b lim : Int) (es : List (List AV)) : Tr ((List (List AV))) :=
  .cn (i31na_0 n 0 b lim true true es) (.lf (v31na_0_m0 n 0 b lim true true es)) (.nn)
noncomputable def g31n (n : Nat) (b lim : Int) (es : List (List AV)) : Bool := (t31n n b lim es).g
noncomputable def w31n_0 (n : Nat) (b lim : Int) (es : List (List AV)) : List (List AV) := (t31n n b lim es).val
theorem eq31n (n : Nat) (b lim : Int) (es : List (List AV)) : evM Try.prog SN5 (ro 31) L31n Try.f31 [.sl 0 0 n, .i .i64 0, .i .i64 b, .i .i64 lim, .fn 18 []] [.row 37 es] = (t31n n b lim es).opt (fun (x : (List (List AV))) => ((.tup [], [.row 37 x]) : AV × List Blk)) := by kernel_rfl
theorem con31n (n : Nat) (b lim : Int) (es : List (List AV)) (h : g31n n b lim es = true) : Con Try.prog 31 [.sl 0 0 n, .i .i64 0, .i .i64 b, .i .i64 lim, .fn 18 []] [.row 37 es] (.tup []) [.row 37 (w31n_0 n b lim es)] :=
  con_ofM SN5_ok mixed Try.func31 (c := c31n) rfl (names 31 _ Try.func31) lok31n ((eq31n n b lim es).trans (Tr.sound _ _ h))
noncomputable def e31n (args : List AV) (rows : List Blk) : Option (Bool × AV × List Blk) := match args, rows with
  | [.sl 0 0 n, .i .i64 0, .i .i64 b, .i .i64 lim, .fn 18 []], [.row 37 es] => some (g31n n b lim es, .tup [], [.row 37 (w31n_0 n b lim es)])
  | _, _ => none
theorem e31n_ok (args : List AV) (rows : List Blk) (pre : Bool) (v : AV) (rows' : List Blk) (h : e31n args rows = some (pre, v, rows')) (hp : pre = true) : Con Try.prog 31 args rows v rows' := by
  unfold e31n at h
  split at h
  · cases h; exact con31n _ _ _ _ hp
  · cases h
-- SPEC 31
end Go.Proofs.Ytfbfohkgajeopac

set_option maxRecDepth 100000
set_option maxHeartbeats 0
set_option linter.unusedVariables false
namespace Go.Proofs.Ytfbfohkgajeopac
open Go Go.Ev

noncomputable def c32n : Code := match Try.f32.body with | some c => c | _ => .skip
theorem lok32n : LOK Try.prog SN1 (ro 32) (fun _ _ => none) 0 false c32n [] :=
  lok_lo (fun _ _ _ _ _ _ _ h _ => by cases h) c32n [] false (locate_nil _) (by kernel_rfl)
theorem con32n_0 : Con Try.prog 32 [.i .u64 0] [] (.i .i64 0) [] :=
  con_of SN1_ok mixed Try.func32 (c := c32n) rfl (names 32 _ Try.func32) lok32n (by kernel_rfl : evF Try.prog SN1 (ro 32) (fun _ _ => none) Try.f32 [.i .u64 0] = some (.i .i64 0))
theorem con32n_1 : Con Try.prog 32 [.i .u64 1] [] (.i .i64 1) [] :=
  con_of SN1_ok mixed Try.func32 (c := c32n) rfl (names 32 _ Try.func32) lok32n (by kernel_rfl : evF Try.prog SN1 (ro 32) (fun _ _ => none) Try.f32 [.i .u64 1] = some (.i .i64 1))
theorem con32n_2 : Con Try.prog 32 [.i .u64 2] [] (.i .i64 2) [] :=
  con_of SN1_ok mixed Try.func32 (c := c32n) rfl (names 32 _ Try.func32) lok32n (by kernel_rfl : evF Try.prog SN1 (ro 32) (fun _ _ => none) Try.f32 [.i .u64 2] = some (.i .i64 2))
theorem con32n_3 : Con Try.prog 32 [.i .u64 3] [] (.i .i64 2) [] :=
  con_of SN1_ok mixed Try.func32 (c := c32n) rfl (names 32 _ Try.func32) lok32n (by kernel_rfl : evF Try.prog SN1 (ro 32) (fun _ _ => none) Try.f32 [.i .u64 3] = some (.i .i64 2))
theorem con32n_4 : Con Try.prog 32 [.i .u64 4] [] (.i .i64 3) [] :=
  con_of SN1_ok mixed Try.func32 (c := c32n) rfl (names 32 _ Try.func32) lok32n (by kernel_rfl : evF Try.prog SN1 (ro 32) (fun _ _ => none) Try.f32 [.i .u64 4] = some (.i .i64 3))
theorem con32n_5 : Con Try.prog 32 [.i .u64 5] [] (.i .i64 3) [] :=
  con_of SN1_ok mixed Try.func32 (c := c32n) rfl (names 32 _ Try.func32) lok32n (by kernel_rfl : evF Try.prog SN1 (ro 32) (fun _ _ => none) Try.f32 [.i .u64 5] = some (.i .i64 3))
theorem con32n_6 : Con Try.prog 32 [.i .u64 6] [] (.i .i64 3) [] :=
  con_of SN1_ok mixed Try.func32 (c := c32n) rfl (names 32 _ Try.func32) lok32n (by kernel_rfl : evF Try.prog SN1 (ro 32) (fun _ _ => none) Try.f32 [.i .u64 6] = some (.i .i64 3))
theorem con32n_7 : Con Try.prog 32 [.i .u64 7] [] (.i .i64 3) [] :=
  con_of SN1_ok mixed Try.func32 (c := c32n) rfl (names 32 _ Try.func32) lok32n (by kernel_rfl : evF Try.prog SN1 (ro 32) (fun _ _ => none) Try.f32 [.i .u64 7] = some (.i .i64 3))
theorem con32n_8 : Con Try.prog 32 [.i .u64 8] [] (.i .i64 4) [] :=
  con_of SN1_ok mixed Try.func32 (c := c32n) rfl (names 32 _ Try.func32) lok32n (by kernel_rfl : evF Try.prog SN1 (ro 32) (fun _ _ => none) Try.f32 [.i .u64 8] = some (.i .i64 4))
theorem con32n_9 : Con Try.prog 32 [.i .u64 9] [] (.i .i64 4) [] :=
  con_of SN1_ok mixed Try.func32 (c := c32n) rfl (names 32 _ Try.func32) lok32n (by kernel_rfl : evF Try.prog SN1 (ro 32) (fun _ _ => none) Try.f32 [.i .u64 9] = some (.i .i64 4))
theorem con32n_10 : Con Try.prog 32 [.i .u64 10] [] (.i .i64 4) [] :=
  con_of SN1_ok mixed Try.func32 (c := c32n) rfl (names 32 _ Try.func32) lok32n (by kernel_rfl : evF Try.prog SN1 (ro 32) (fun _ _ => none) Try.f32 [.i .u64 10] = some (.i .i64 4))
theorem con32n_11 : Con Try.prog 32 [.i .u64 11] [] (.i .i64 4) [] :=
  con_of SN1_ok mixed Try.func32 (c := c32n) rfl (names 32 _ Try.func32) lok32n (by kernel_rfl : evF Try.prog SN1 (ro 32) (fun _ _ => none) Try.f32 [.i .u64 11] = some (.i .i64 4))
theorem con32n_12 : Con Try.prog 32 [.i .u64 12] [] (.i .i64 4) [] :=
  con_of SN1_ok mixed Try.func32 (c := c32n) rfl (names 32 _ Try.func32) lok32n (by kernel_rfl : evF Try.prog SN1 (ro 32) (fun _ _ => none) Try.f32 [.i .u64 12] = some (.i .i64 4))
theorem con32n (n : Int) (h : (decide (0 ≤ n) && decide (n ≤ 12)) = true) : Con Try.prog 32 [.i .u64 n] [] (.i .i64 (lenT n)) [] := by
  simp only [Bool.and_eq_true, decide_eq_true_eq] at h
  obtain ⟨m, rfl⟩ : ∃ m : Nat, n = m := ⟨n.toNat, by omega⟩
  have hm : m ≤ 12 := by omega
  match m, hm with
  | 0, _ => exact con32n_0
  | 1, _ => exact con32n_1
  | 2, _ => exact con32n_2
  | 3, _ => exact con32n_3
  | 4, _ => exact con32n_4
  | 5, _ => exact con32n_5
  | 6, _ => exact con32n_6
  | 7, _ => exact con32n_7
  | 8, _ => exact con32n_8
  | 9, _ => exact con32n_9
  | 10, _ => exact con32n_10
  | 11, _ => exact con32n_11
  | 12, _ => exact con32n_12
noncomputable def e32n (args : List AV) (rows : List Blk) : Option (Bool × AV × List Blk) := match args, rows with
  | [.i .u64 n], [] => some (decide (0 ≤ n) && decide (n ≤ 12), .i .i64 (lenT n), [])
  | _, _ => none
theorem e32n_ok (args : List AV) (rows : List Blk) (pre : Bool) (v : AV) (rows' : List Blk) (h : e32n args rows = some (pre, v, rows')) (hp : pre = true) : Con Try.prog 32 args rows v rows' := by
  unfold e32n at h
  split at h
  · cases h; exact con32n _ hp
  · cases h
-- SPEC 32
end Go.Proofs.Ytfbfohkgajeopac

set_option maxRecDepth 100000
set_option linter.unusedVariables false
namespace Go.Proofs.Ytfbfohkgajeopac
open Go Go.Ev
noncomputable def SN6 : Ev.Spec := insS 32 e32n (insS 31 e31n (S0))
theorem SN6_ok : SpecOK Try.prog SN6 := insS_ok e32n_ok (insS_ok e31n_ok (S0_ok))
end Go.Proofs.Ytfbfohkgajeopac

set_option maxRecDepth 100000
set_option maxHeartbeats 0
set_option linter.unusedVariables false
namespace Go.Proofs.Ytfbfohkgajeopac
open Go Go.Ev

noncomputable def c17n : Code := match Try.f17.body with | some c => c | _ => .skip
theorem lok17n : LOK Try.prog SN6 (ro 17) (fun _ _ => none) 1 false c17n [] :=
  lok_lo (fun _ _ _ _ _ _ _ h _ => by cases h) c17n [] false (locate_nil _) (by kernel_rfl)
noncomputable def t17n (n : Nat) (es : List (List AV)) : Tr ((List (List AV))) :=
  .cn (decide (0 ≤ IntKind.u64.wrap (↑n : Int)) && decide (IntKind.u64.wrap (↑n : Int) ≤ 12)) (.cn (g31n n (↑n : Int) (lenT (IntKind.u64.wrap (↑n : Int))) es && true) (.lf (w31n_0 n (↑n : Int) (lenT (IntKind.u64.wrap (↑n : Int))) es)) (.nn)) (.nn)
noncomputable def g17n (n : Nat) (es : List (List AV)) : Bool := (t17n n es).g
noncomputable def w17n_0 (n : Nat) (es : List (List AV)) : List (List AV) := (t17n n es).val
theorem eq17n (n : Nat) (es : List (List AV)) : evM Try.prog SN6 (ro 17) (fun _ _ => none) Try.f17 [.sl 0 0 n, .fn 18 []] [.row 37 es] = (t17n n es).opt (fun (x : (List (List AV))) => ((.tup [], [.row 37 x]) : AV × List Blk)) := by kernel_rfl
theorem con17n (n : Nat) (es : List (List AV)) (h : g17n n es = true) : Con Try.prog 17 [.sl 0 0 n, .fn 18 []] [.row 37 es] (.tup []) [.row 37 (w17n_0 n es)] :=
  con_ofM SN6_ok mixed Try.func17 (c := c17n) rfl (names 17 _ Try.func17) lok17n ((eq17n n es).trans (Tr.sound _ _ h))
noncomputable def e17n (args : List AV) (rows : List Blk) : Option (Bool × AV × List Blk) := match args, rows with
  | [.sl 0 0 n, .fn 18 []], [.row 37 es] => some (g17n n es, .tup [], [.row 37 (w17n_0 n es)])
  | _, _ => none
theorem e17n_ok (args : List AV) (rows : List Blk) (pre : Bool) (v : AV) (rows' : List Blk) (h : e17n args rows = some (pre, v, rows')) (hp : pre = true) : Con Try.prog 17 args rows v rows' := by
  unfold e17n at h
  split at h
  · cases h; exact con17n _ _ hp
  · cases h
-- SPEC 17
end Go.Proofs.Ytfbfohkgajeopac

set_option maxRecDepth 100000
set_option linter.unusedVariables false
namespace Go.Proofs.Ytfbfohkgajeopac
open Go Go.Ev
noncomputable def SN7 : Ev.Spec := insS 17 e17n (insS 16 e16n (S0))
theorem SN7_ok : SpecOK Try.prog SN7 := insS_ok e17n_ok (insS_ok e16n_ok (S0_ok))
end Go.Proofs.Ytfbfohkgajeopac

set_option maxRecDepth 100000
set_option maxHeartbeats 0
set_option linter.unusedVariables false
namespace Go.Proofs.Ytfbfohkgajeopac
open Go Go.Ev

noncomputable def c6n : Code := match Try.f6.body with | some c => c | _ => .skip
noncomputable def lp6na : Code := loopAt c6n [true, true, true, false, true, false]
noncomputable def s6na (t3 : Int) (cs : List (List AV)) (t21 t22 : Int) (m8 : List (AV × AV)) : St :=
  { t := [(2, .nl), (3, .i .i64 t3), (5, .mp 8), (20, .rs 43 cs), (21, .i .i64 t21), (22, .i .i64 t22)], m := [(0, .dead), (1, .dead), (2, .dead), (3, .dead), (4, .dead), (5, .dead), (6, .dead), (7, .dead), (8, .mp 35 3 m8)], nx := 9, nt := 65 }
noncomputable def lp6naa : Code := loopAt c6n [true, true, true, false, true, false, false, true, true, false, false, true, true, false]
noncomputable def s6naa (t3 : Int) (cs : List (List AV)) (t21 t22 : Int) (t27 : List (List AV)) (t28 t29 : Int) (m8 : List (AV × AV)) : St :=
  { t := [(2, .nl), (3, .i .i64 t3), (5, .mp 8), (20, .rs 43 cs), (21, .i .i64 t21), (22, .i .i64 t22), (27, .rs 45 t27), (28, .i .i64 t28), (29, .i .i64 t29)], m := [(0, .dead), (1, .dead), (2, .dead), (3, .dead), (4, .dead), (5, .dead), (6, .dead), (7, .dead), (8, .mp 35 3 m8)], nx := 9, nt := 65 }
structure S6naa where
  t29 : Int
  m8 : List (AV × AV)
inductive T6naa where
  | x0 (t29 : Int) (m8 : List (AV × AV))
noncomputable def stp6naa (t3 : Int) (cs : List (List AV)) (t21 t22 : Int) (t27 : List (List AV)) (t28 t29 : Int) (m8 : List (AV × AV)) : Lp S6naa T6naa :=
  cond (decide (t29 < t28)) (cond (inb t29 t27.length) (cond (m8.length.blt 9223372036854775807) (cond (decide (0 ≤ (↑(mpos (AV.agg [AV.i IntKind.i64 (fI (t27.getD t29.toNat []) 1), AV.i IntKind.i64 (fI (t27.getD t29.toNat []) 2), AV.i IntKind.i64 (fI (t27.getD t29.toNat []) 4), AV.i IntKind.i64 (fI (t27.getD t29.toNat []) 5)]) m8) : Int)) && decide ((↑(mpos (AV.agg [AV.i IntKind.i64 (fI (t27.getD t29.toNat []) 1), AV.i IntKind.i64 (fI (t27.getD t29.toNat []) 2), AV.i IntKind.i64 (fI (t27.getD t29.toNat []) 4), AV.i IntKind.i64 (fI (t27.getD t29.toNat []) 5)]) m8) : Int) < (↑(madd (AV.agg [AV.i IntKind.i64 (fI (t27.getD t29.toNat []) 1), AV.i IntKind.i64 (fI (t27.getD t29.toNat []) 2), AV.i IntKind.i64 (fI (t27.getD t29.toNat []) 4), AV.i IntKind.i64 (fI (t27.getD t29.toNat []) 5)]) (AV.i IntKind.i64 0) m8).length : Int))) (.go ⟨IntKind.i64.wrap (t29 + 1), mput (↑(mpos (AV.agg [AV.i IntKind.i64 (fI (t27.getD t29.toNat []) 1), AV.i IntKind.i64 (fI (t27.getD t29.toNat []) 2), AV.i IntKind.i64 (fI (t27.getD t29.toNat []) 4), AV.i IntKind.i64 (fI (t27.getD t29.toNat []) 5)]) m8) : Int).toNat (AV.i IntKind.i64 (IntKind.i64.wrap (toI ((mget (AV.agg [AV.i IntKind.i64 (fI (t27.getD t29.toNat []) 1), AV.i IntKind.i64 (fI (t27.getD t29.toNat []) 2), AV.i IntKind.i64 (fI (t27.getD t29.toNat []) 4), AV.i IntKind.i64 (fI (t27.getD t29.toNat []) 5)]) m8).getD (AV.i IntKind.i64 0)) + 1))) (madd (AV.agg [AV.i IntKind.i64 (fI (t27.getD t29.toNat []) 1), AV.i IntKind.i64 (fI (t27.getD t29.toNat []) 2), AV.i IntKind.i64 (fI (t27.getD t29.toNat []) 4), AV.i IntKind.i64 (fI (t27.getD t29.toNat []) 5)]) (AV.i IntKind.i64 0) m8)⟩) (.bad)) (.bad)) (.bad)) (.out (.x0 t29 m8))
noncomputable def o6naa_0 (t3 : Int) (cs : List (List AV)) (t21 t22 : Int) (t27 : List (List AV)) (t28 t29 : Int) (m8 : List (AV × AV)) : St :=
  { t := [(2, .nl), (3, .i .i64 t3), (5, .mp 8), (20, .rs 43 cs), (21, .i .i64 t21), (22, .i .i64 t22), (27, .rs 45 t27), (28, .i .i64 t28), (29, .i .i64 t29)], m := [(0, .dead), (1, .dead), (2, .dead), (3, .dead), (4, .dead), (5, .dead), (6, .dead), (7, .dead), (8, .mp 35 3 m8)], nx := 9, nt := 65 }
noncomputable def ou6naa (t3 : Int) (cs : List (List AV)) (t21 t22 : Int) (t27 : List (List AV)) (t28 : Int) : T6naa → Ex × St
  | .x0 t29 m8 => (.ext 2, o6naa_0 t3 cs t21 t22 t27 t28 t29 m8)
noncomputable def r6naa (t3 : Int) (cs : List (List AV)) (t21 t22 : Int) (t27 : List (List AV)) (t28 t29 : Int) (m8 : List (AV × AV)) : Option T6naa := run (fun x => stp6naa t3 cs t21 t22 t27 t28 x.t29 x.m8) (⟨t29, m8⟩ : S6naa)
noncomputable def i6naa_0 (t3 : Int) (cs : List (List AV)) (t21 t22 : Int) (t27 : List (List AV)) (t28 t29 : Int) (m8 : List (AV × AV)) : Bool := match r6naa t3 cs t21 t22 t27 t28 t29 m8 with
  | some (.x0 _ _) => true
  | _ => false
noncomputable def v6naa_0_t29 (t3 : Int) (cs : List (List AV)) (t21 t22 : Int) (t27 : List (List AV)) (t28 t29 : Int) (m8 : List (AV × AV)) : Int := match r6naa t3 cs t21 t22 t27 t28 t29 m8 with
  | some (.x0 t29 _) => t29
  | _ => default
noncomputable def v6naa_0_m8 (t3 : Int) (cs : List (List AV)) (t21 t22 : Int) (t27 : List (List AV)) (t28 t29 : Int) (m8 : List (AV × AV)) : List (AV × AV) := match r6naa t3 cs t21 t22 t27 t28 t29 m8 with
  | some (.x0 _ m8) => m8
  | _ => default
noncomputable def q6naa (t3 : Int) (cs : List (List AV)) (t21 t22 : Int) (t27 : List (List AV)) (t28 t29 : Int) (m8 : List (AV × AV)) : List (Bool × Ex × St) := [(i6naa_0 t3 cs t21 t22 t27 t28 t29 m8, .ext 2, o6naa_0 t3 cs t21 t22 t27 t28 (v6naa_0_t29 t3 cs t21 t22 t27 t28 t29 m8) (v6naa_0_m8 t3 cs t21 t22 t27 t28 t29 m8))]
noncomputable def l6naa (st : St) : Option (List (Bool × Ex × St)) := qget [.nl, .i .i64, .mp 8, .rs 43, .i .i64, .i .i64, .rs 45, .i .i64, .i .i64] [(0, .dead), (1, .dead), (2, .dead), (3, .dead), (4, .dead), (5, .dead), (6, .dead), (7, .dead), (8, .mp 35 3)] 9 65 (normW Try.prog [(2, none), (3, none), (5, none), (20, none), (21, none), (22, none), (27, none), (28, none), (29, none)] 9 st) fun ls => q6naa (lI ls 0) (lLL ls 1) (lI ls 2) (lI ls 3) (lLL ls 4) (lI ls 5) (lI ls 6) (lLP ls 7)
structure S6na where
  t22 : Int
  m8 : List (AV × AV)
inductive T6na where
  | x0 (t22 : Int) (m8 : List (AV × AV))
noncomputable def stp6na (t3 : Int) (cs : List (List AV)) (t21 t22 : Int) (m8 : List (AV × AV)) : Lp S6na T6na :=
  cond (decide (t22 < t21)) (cond (inb t22 cs.length) (cond (i6naa_0 t3 cs t21 t22 (fE (cs.getD t22.toNat []) 1) (↑(fE (cs.getD t22.toNat []) 1).length : Int) 0 m8) (.go ⟨IntKind.i64.wrap (t22 + 1), v6naa_0_m8 t3 cs t21 t22 (fE (cs.getD t22.toNat []) 1) (↑(fE (cs.getD t22.toNat []) 1).length : Int) 0 m8⟩) (.bad)) (.bad)) (.out (.x0 t22 m8))
noncomputable def o6na_0 (t3 : Int) (cs : List (List AV)) (t21 t22 : Int) (m8 : List (AV × AV)) : St :=
  { t := [(2, .nl), (3, .i .i64 t3), (5, .mp 8), (20, .rs 43 cs), (21, .i .i64 t21), (22, .i .i64 t22)], m := [(0, .dead), (1, .dead), (2, .dead), (3, .dead), (4, .dead), (5, .dead), (6, .dead), (7, .dead), (8, .mp 35 3 m8)], nx := 9, nt := 65 }
noncomputable def ou6na (t3 : Int) (cs : List (List AV)) (t21 : Int) : T6na → Ex × St
  | .x0 t22 m8 => (.ext 0, o6na_0 t3 cs t21 t22 m8)
noncomputable def r6na (t3 : Int) (cs : List (List AV)) (t21 t22 : Int) (m8 : List (AV × AV)) : Option T6na := run (fun x => stp6na t3 cs t21 x.t22 x.m8) (⟨t22, m8⟩ : S6na)
noncomputable def i6na_0 (t3 : Int) (cs : List (List AV)) (t21 t22 : Int) (m8 : List (AV × AV)) : Bool := match r6na t3 cs t21 t22 m8 with
  | some (.x0 _ _) => true
  | _ => false
noncomputable def v6na_0_t22 (t3 : Int) (cs : List (List AV)) (t21 t22 : Int) (m8 : List (AV × AV)) : Int := match r6na t3 cs t21 t22 m8 with
  | some (.x0 t22 _) => t22
  | _ => default
noncomputable def v6na_0_m8 (t3 : Int) (cs : List (List AV)) (t21 t22 : Int) (m8 : List (AV × AV)) : List (AV × AV) := match r6na t3 cs t21 t22 m8 with
  | some (.x0 _ m8) => m8
  | _ => default
noncomputable def q6na (t3 : Int) (cs : List (List AV)) (t21 t22 : Int) (m8 : List (AV × AV)) : List (Bool × Ex × St) := [(i6na_0 t3 cs t21 t22 m8, .ext 0, o6na_0 t3 cs t21 (v6na_0_t22 t3 cs t21 t22 m8) (v6na_0_m8 t3 cs t21 t22 m8))]
noncomputable def l6na (st : St) : Option (List (Bool × Ex × St)) := qget [.nl, .i .i64, .mp 8, .rs 43, .i .i64, .i .i64] [(0, .dead), (1, .dead), (2, .dead), (3, .dead), (4, .dead), (5, .dead), (6, .dead), (7, .dead), (8, .mp 35 3)] 9 65 (normW Try.prog [(2, none), (3, none), (5, none), (20, none), (21, none), (22, none)] 9 st) fun ls => q6na (lI ls 0) (lLL ls 1) (lI ls 2) (lI ls 3) (lLP ls 4)
noncomputable def L6n : LSpec := fun p st => match p with
  | [false, true, true, false, false, true, true, false, false, true, false, true, true, true] => l6naa st
  | [false, true, false, true, true, true] => l6na st
  | _ => none
theorem is6naa_0 (t3 : Int) (cs : List (List AV)) (t21 t22 : Int) (t27 : List (List AV)) (t28 t29 : Int) (m8 : List (AV × AV)) (h : i6naa_0 t3 cs t21 t22 t27 t28 t29 m8 = true) : r6naa t3 cs t21 t22 t27 t28 t29 m8 = some (.x0 (v6naa_0_t29 t3 cs t21 t22 t27 t28 t29 m8) (v6naa_0_m8 t3 cs t21 t22 t27 t28 t29 m8)) := by
  unfold i6naa_0 at h
  unfold v6naa_0_t29 v6naa_0_m8
  generalize r6naa t3 cs t21 t22 t27 t28 t29 m8 = r at h ⊢
  rcases r with _ | y
  · cases h
  · cases y <;> first | rfl | cases h
theorem round6naa (t3 : Int) (cs : List (List AV)) (t21 t22 : Int) (t27 : List (List AV)) (t28 t29 : Int) (m8 : List (AV × AV)) : round Try.prog SN7 (ro 6) L6n lp6naa [false, true, true, false, false, true, true, false, false, true, false, true, true, true] [(2, none), (3, none), (5, none), (20, none), (21, none), (22, none), (27, none), (28, none), (29, none)] 9 (s6naa t3 cs t21 t22 t27 t28 t29 m8) =
    cond (decide (t29 < t28)) (cond (inb t29 t27.length) (cond (m8.length.blt 9223372036854775807) (cond (decide (0 ≤ (↑(mpos (AV.agg [AV.i IntKind.i64 (fI (t27.getD t29.toNat []) 1), AV.i IntKind.i64 (fI (t27.getD t29.toNat []) 2), AV.i IntKind.i64 (fI (t27.getD t29.toNat []) 4), AV.i IntKind.i64 (fI (t27.getD t29.toNat []) 5)]) m8) : Int)) && decide ((↑(mpos (AV.agg [AV.i IntKind.i64 (fI (t27.getD t29.toNat []) 1), AV.i IntKind.i64 (fI (t27.getD t29.toNat []) 2), AV.i IntKind.i64 (fI (t27.getD t29.toNat []) 4), AV.i IntKind.i64 (fI (t27.getD t29.toNat []) 5)]) m8) : Int) < (↑(madd (AV.agg [AV.i IntKind.i64 (fI (t27.getD t29.toNat []) 1), AV.i IntKind.i64 (fI (t27.getD t29.toNat []) 2), AV.i IntKind.i64 (fI (t27.getD t29.toNat []) 4), AV.i IntKind.i64 (fI (t27.getD t29.toNat []) 5)]) (AV.i IntKind.i64 0) m8).length : Int))) (some (.nrm, s6naa t3 cs t21 t22 t27 t28 (IntKind.i64.wrap (t29 + 1)) (mput (↑(mpos (AV.agg [AV.i IntKind.i64 (fI (t27.getD t29.toNat []) 1), AV.i IntKind.i64 (fI (t27.getD t29.toNat []) 2), AV.i IntKind.i64 (fI (t27.getD t29.toNat []) 4), AV.i IntKind.i64 (fI (t27.getD t29.toNat []) 5)]) m8) : Int).toNat (AV.i IntKind.i64 (IntKind.i64.wrap (toI ((mget (AV.agg [AV.i IntKind.i64 (fI (t27.getD t29.toNat []) 1), AV.i IntKind.i64 (fI (t27.getD t29.toNat []) 2), AV.i IntKind.i64 (fI (t27.getD t29.toNat []) 4), AV.i IntKind.i64 (fI (t27.getD t29.toNat []) 5)]) m8).getD (AV.i IntKind.i64 0)) + 1))) (madd (AV.agg [AV.i IntKind.i64 (fI (t27.getD t29.toNat []) 1), AV.i IntKind.i64 (fI (t27.getD t29.toNat []) 2), AV.i IntKind.i64 (fI (t27.getD t29.toNat []) 4), AV.i IntKind.i64 (fI (t27.getD t29.toNat []) 5)]) (AV.i IntKind.i64 0) m8)))) (none)) (none)) (none)) (some (.ext 2, o6naa_0 t3 cs t21 t22 t27 t28 t29 m8)) := by kernel_rfl
theorem rnd6naa (t3 : Int) (cs : List (List AV)) (t21 t22 : Int) (t27 : List (List AV)) (t28 : Int) (x : S6naa) : round Try.prog SN7 (ro 6) L6n lp6naa [false, true, true, false, false, true, true, false, false, true, false, true, true, true] [(2, none), (3, none), (5, none), (20, none), (21, none), (22, none), (27, none), (28, none), (29, none)] 9 ((fun x => s6naa t3 cs t21 t22 t27 t28 x.t29 x.m8) x) = toR (fun x => s6naa t3 cs t21 t22 t27 t28 x.t29 x.m8) (ou6naa t3 cs t21 t22 t27 t28) (stp6naa t3 cs t21 t22 t27 t28 x.t29 x.m8) := by
  refine (round6naa _ _ _ _ _ _ _ _ ).trans ?_
  unfold stp6naa
  simp only [toR_cond]
  rfl
theorem lokb6naa (t3 : Int) (cs : List (List AV)) (t21 t22 : Int) (t27 : List (List AV)) (t28 t29 : Int) (m8 : List (AV × AV)) {e : Ex} {s : St} (hch : Chosen (q6naa t3 cs t21 t22 t27 t28 t29 m8) e s) : LB Try.prog SN7 (ro 6) L6n lp6naa [false, true, true, false, false, true, true, false, false, true, false, true, true, true] [(2, none), (3, none), (5, none), (20, none), (21, none), (22, none), (27, none), (28, none), (29, none)] 9 (s6naa t3 cs t21 t22 t27 t28 t29 m8) e s := by
  unfold q6naa at hch
  have main := fun y h => LB_run (x := (⟨t29, m8⟩ : S6naa)) (y := y) (nb := 9) (fun y => by cases y <;> simp [ou6naa]) (rnd6naa t3 cs t21 t22 t27 t28) h
  obtain ⟨x, hx, hg, rfl, rfl⟩ := chosen_any hch
  simp only [List.mem_cons, List.not_mem_nil, or_false] at hx
  subst hx
  exact main _ (is6naa_0 t3 cs t21 t22 t27 t28 t29 m8 hg)
theorem lok6naa {st : St} {outs : List (Bool × Ex × St)} {e : Ex} {s : St} (hl : l6naa st = some outs) (hch : Chosen outs e s) :
    ∃ keep nb, 0 ≤ nb ∧ LB Try.prog SN7 (ro 6) L6n lp6naa [false, true, true, false, false, true, true, false, false, true, false, true, true, true] keep nb st e s := by
  unfold l6naa at hl
  obtain ⟨ls, hno, rfl⟩ := qget_some hl
  have hno := normW_norm hno
  refine ⟨_, _, ?_, .enterQ hno (s2 := s6naa (lI ls 0) (lLL ls 1) (lI ls 2) (lI ls 3) (lLL ls 4) (lI ls 5) (lI ls 6) (lLP ls 7)) (by kernel_rfl) (lokb6naa _ _ _ _ _ _ _ _ hch)⟩
  decide
theorem is6na_0 (t3 : Int) (cs : List (List AV)) (t21 t22 : Int) (m8 : List (AV × AV)) (h : i6na_0 t3 cs t21 t22 m8 = true) : r6na t3 cs t21 t22 m8 = some (.x0 (v6na_0_t22 t3 cs t21 t22 m8) (v6na_0_m8 t3 cs t21 t22 m8)) := by
  unfold i6na_0 at h
  unfold v6na_0_t22 v6na_0_m8
  generalize r6na t3 cs t21 t22 m8 = r at h ⊢
  rcases r with _ | y
  · cases h
  · cases y <;> first | rfl | cases h
theorem round6na (t3 : Int) (cs : List (List AV)) (t21 t22 : Int) (m8 : List (AV × AV)) : round Try.prog SN7 (ro 6) L6n lp6na [false, true, false, true, true, true] [(2, none), (3, none), (5, none), (20, none), (21, none), (22, none)] 9 (s6na t3 cs t21 t22 m8) =
    cond (decide (t22 < t21)) (cond (inb t22 cs.length) (cond (i6naa_0 t3 cs t21 t22 (fE (cs.getD t22.toNat []) 1) (↑(fE (cs.getD t22.toNat []) 1).length : Int) 0 m8) (some (.nrm, s6na t3 cs t21 (IntKind.i64.wrap (t22 + 1)) (v6naa_0_m8 t3 cs t21 t22 (fE (cs.getD t22.toNat []) 1) (↑(fE (cs.getD t22.toNat []) 1).length : Int) 0 m8))) (none)) (none)) (some (.ext 0, o6na_0 t3 cs t21 t22 m8)) := by kernel_rfl
theorem rnd6na (t3 : Int) (cs : List (List AV)) (t21 : Int) (x : S6na) : round Try.prog SN7 (ro 6) L6n lp6na [false, true, false, true, true, true] [(2, none), (3, none), (5, none), (20, none), (21, none), (22, none)] 9 ((fun x => s6na t3 cs t21 x.t22 x.m8) x) = toR (fun x => s6na t3 cs t21 x.t22 x.m8) (ou6na t3 cs t21) (stp6na t3 cs t21 x.t22 x.m8) := by
  refine (round6na _ _ _ _ _ ).trans ?_
  unfold stp6na
  simp only [toR_cond]
  rfl
theorem lokb6na (t3 : Int) (cs : List (List AV)) (t21 t22 : Int) (m8 : List (AV × AV)) {e : Ex} {s : St} (hch : Chosen (q6na t3 cs t21 t22 m8) e s) : LB Try.prog SN7 (ro 6) L6n lp6na [false, true, false, true, true, true] [(2, none), (3, none), (5, none), (20, none), (21, none), (22, none)] 9 (s6na t3 cs t21 t22 m8) e s := by
  unfold q6na at hch
  have main := fun y h => LB_run (x := (⟨t22, m8⟩ : S6na)) (y := y) (nb := 9) (fun y => by cases y <;> simp [ou6na]) (rnd6na t3 cs t21) h
  obtain ⟨x, hx, hg, rfl, rfl⟩ := chosen_any hch
  simp only [List.mem_cons, List.not_mem_nil, or_false] at hx
  subst hx
  exact main _ (is6na_0 t3 cs t21 t22 m8 hg)
theorem lok6na {st : St} {outs : List (Bool × Ex × St)} {e : Ex} {s : St} (hl : l6na st = some outs) (hch : Chosen outs e s) :
    ∃ keep nb, 0 ≤ nb ∧ LB Try.prog SN7 (ro 6) L6n lp6na [false, true, false, true, true, true] keep nb st e s := by
  unfold l6na at hl
  obtain ⟨ls, hno, rfl⟩ := qget_some hl
  have hno := normW_norm hno
  refine ⟨_, _, ?_, .enterQ hno (s2 := s6na (lI ls 0) (lLL ls 1) (lI ls 2) (lI ls 3) (lLP ls 4)) (by kernel_rfl) (lokb6na _ _ _ _ _ hch)⟩
  decide
theorem L6n_ok (q : Pl) (c : Code) (hq : locate c6n q.reverse = some (.loop c)) (st : St) (outs : List (Bool × Ex × St)) (e : Ex) (s : St) (hl : L6n q st = some outs) (hch : Chosen outs e s) :
    ∃ keep nb, 0 ≤ nb ∧ LB Try.prog SN7 (ro 6) L6n c q keep nb st e s := by
  unfold L6n at hl
  split at hl
  · have : locate c6n ([false, true, true, false, false, true, true, false, false, true, false, true, true, true] : Pl).reverse = some (.loop lp6naa) := by kernel_rfl
    rw [this] at hq
    cases hq
    exact lok6naa hl hch
  · have : locate c6n ([false, true, false, true, true, true] : Pl).reverse = some (.loop lp6na) := by kernel_rfl
    rw [this] at hq
    cases hq
    exact lok6na hl hch
  · cases hl
theorem lok6n : LOK Try.prog SN7 (ro 6) L6n 0 false c6n [] :=
  lok_lo L6n_ok c6n [] false (locate_nil _) (by kernel_rfl)
noncomputable def t6n (cs : List (List AV)) : Tr ((Int)) :=
  .cn (g16n cs) (.cn (w16n_0 cs != 0) (.lf (w16n_0 cs)) (.cn (i6na_0 0 cs (↑cs.length : Int) 0 []) (.nn) (.nn))) (.nn)
noncomputable def g6n (cs : List (List AV)) : Bool := (t6n cs).g
noncomputable def w6n_0 (cs : List (List AV)) : Int := (t6n cs).val
theorem eq6n (cs : List (List AV)) : evF Try.prog SN7 (ro 6) L6n Try.f6 [.agg [.rs 43 cs]] = (t6n cs).opt (fun (x : (Int)) => (.tup [.nl, .i .i64 x] : AV)) := by kernel_rfl
theorem con6n (cs : List (List AV)) (h : g6n cs = true) : Con Try.prog 6 [.agg [.rs 43 cs]] [] (.tup [.nl, .i .i64 (w6n_0 cs)]) [] :=
  con_of SN7_ok mixed Try.func6 (c := c6n) rfl (names 6 _ Try.func6) lok6n ((eq6n cs).trans (Tr.sound _ _ h))
-- SPEC 6
end Go.Proofs.Ytfbfohkgajeopac

set_option maxRecDepth 100000
set_option maxHeartbeats 0
set_option linter.unusedVariables false
namespace Go.Proofs.Ytfbfohkgajeopac
open Go Go.Ev

def sq1 : Code → Code | .seq a _ => a | _ => .skip
def sq2 : Code → Code | .seq _ b => b | _ => .skip
noncomputable def p6a : Code := sq1 c6n
noncomputable def p6A : Code := sq2 c6n
noncomputable def p6b : Code := sq1 p6A
noncomputable def p6B : Code := sq2 p6A
noncomputable def p6c : Code := sq1 p6B
noncomputable def p6C : Code := sq2 p6B
noncomputable def p6d : Code := sq1 p6C
noncomputable def p6D : Code := sq2 p6C
noncomputable def p6e : Code := sq1 p6D
noncomputable def p6E : Code := sq2 p6D
noncomputable def p6f : Code := sq1 p6E
noncomputable def p6F : Code := sq2 p6E
theorem c6_seq : c6n = .seq p6a (.seq p6b (.seq p6c (.seq p6d (.seq p6e (.seq p6f p6F))))) := by kernel_rfl
noncomputable abbrev ev6 {ρ : Type} (c : Code) (p : Pl) (st : St) (K : Ex → St → Option ρ) : Option ρ := evC Try.prog SN7 (ro 6) L6n c p st K
noncomputable def pre6 (cs : List (List AV)) : Option (Ex × St) :=
  ev6 p6a [false] (initSt 65 [.agg [.rs 43 cs]] []) fun e st => match e with
    | .nrm => ev6 p6b [false, true] st fun e st => match e with
      | .nrm => ev6 p6c [false, true, true] st fun e st => match e with
        | .nrm => ev6 p6d [false, true, true, true] st fun e st => match e with
          | .nrm => ev6 p6e [false, true, true, true, true] st fun e st => some (e, st)
          | e => some (e, st)
        | e => some (e, st)
      | e => some (e, st)
    | e => some (e, st)
end Go.Proofs.Ytfbfohkgajeopac

set_option maxRecDepth 100000
set_option maxHeartbeats 0
set_option linter.unusedVariables false
namespace Go.Proofs.Ytfbfohkgajeopac
open Go Go.Ev

def opsOf : Code → Array Oper | .region _ ops _ => ops | _ => #[]
def blk1 : Code → Code | .block _ c => c | _ => .skip
noncomputable def z6a : Code := sq1 p6f
noncomputable def z6b : Code := sq2 p6f
def loop1 : Code → Code | .loop c => c | _ => .skip
noncomputable def lp6m : Code := loop1 (blk1 z6b)
noncomputable def r16 : Code := sq1 lp6m
noncomputable def b6a : Code := sq1 (sq2 lp6m)
noncomputable def b6b : Code := blk1 (sq2 (sq2 lp6m))
noncomputable def r17 : Code := sq1 b6b
noncomputable def r18 : Code := sq2 b6b
theorem p6f_eq : p6f = .seq (.region 15 (opsOf z6a) false) (.block 4 (.loop lp6m)) := by kernel_rfl
theorem lp6m_eq : lp6m = .seq (.region 16 (opsOf r16) false) (.seq b6a (.block 5 (.seq (.region 17 (opsOf r17) false) r18))) := by kernel_rfl
noncomputable def opAt (c : Code) (i : Nat) : Oper := (opsOf c).getD i default
theorem op15 : (opsOf z6a)[0]? = some (opAt z6a 0) ∧ (opsOf z6a)[1]? = some (opAt z6a 1) ∧ (opsOf z6a).size = 2 := ⟨by kernel_rfl, by kernel_rfl, by kernel_rfl⟩
theorem op15b : (opAt z6a 1).op = .range 63 (.tmp 49) ∧ (opAt z6a 1).dst = some 50 ∧ (opAt z6a 1).guard = none ∧ (opAt z6a 0).guard = none ∧ (opAt z6a 0).dst = some 49 := ⟨by kernel_rfl, by kernel_rfl, by kernel_rfl, by kernel_rfl, by kernel_rfl⟩
theorem op16 : (opsOf r16)[0]? = some (opAt r16 0) ∧ (opsOf r16)[1]? = some (opAt r16 1) ∧ (opsOf r16).size = 2 := ⟨by kernel_rfl, by kernel_rfl, by kernel_rfl⟩
theorem op16b : (opAt r16 0).op = .next (.tmp 50) false ∧ (opAt r16 0).dst = some 51 ∧ (opAt r16 0).guard = none := ⟨by kernel_rfl, by kernel_rfl, by kernel_rfl⟩
theorem op17 : (opsOf r17)[0]? = some (opAt r17 0) ∧ (opsOf r17).size = 6 ∧ (opsOf r17).toList.drop 1 = (opsOf r17).toList.tail := ⟨by kernel_rfl, by kernel_rfl, by kernel_rfl⟩
theorem op17b : (opAt r17 0).op = .entry (.tmp 50) ∧ (opAt r17 0).dst = some 53 ∧ (opAt r17 0).guard = none := ⟨by kernel_rfl, by kernel_rfl, by kernel_rfl⟩

def it6 (bm n : Nat) (seen : Array Nat) : Blk := .ob (.mapIter (some bm) n seen n)
def keep6 : List (Nat × Option TypeId) := [(2, none), (3, none), (5, none), (10, some 37), (50, none)]
def s6M (M : List (AV × AV)) (bm : Nat) (acc : List (List AV)) (seen : Array Nat) : St :=
  { t := [(2, .nl), (3, .i .i64 0), (5, .mp 8), (10, .gv 12 37 acc), (50, .it 11)], m := [(12, .fr 37), (0, .dead), (1, .dead), (2, .dead), (3, .dead), (4, .dead), (5, .dead), (6, .dead), (7, .dead), (8, .mp 35 3 M), (9, .dead), (10, .dead), (11, it6 bm M.length seen)], nx := 13, nt := 65 }
def s6N (M : List (AV × AV)) (bm : Nat) (acc : List (List AV)) (seen : Array Nat) : St := ((s6M M bm acc seen).put (some 51) (.tup [.b true, .u, .u]))
noncomputable def t6N (M : List (AV × AV)) (bm : Nat) (acc : List (List AV)) (seen : Array Nat) : St := { ((s6N M bm acc seen).put (some 52) (.b true)).put (some 52) (.b true) with nx := 15 }
theorem ev16t (M : List (AV × AV)) (bm : Nat) (acc : List (List AV)) (seen : Array Nat) :
    (evOpsB Try.prog SN7 (ro 6) (opsOf r16) 13 [opAt r16 1] 1 (s6N M bm acc seen) fun st => ev6 b6a [false, true] { st with nx := st.nx + 2 } fun e st => some (e, st)) = some (.nrm, t6N M bm acc seen) := by kernel_rfl
def row6 (a b c d n : Int) : List AV := [.i .i64 a, .i .i64 b, .i .i64 c, .i .i64 d, .i .i64 n]
theorem ev17 (M : List (AV × AV)) (bm : Nat) (acc : List (List AV)) (seen : Array Nat) (a b c d n : Int) :
    (evOpsB Try.prog SN7 (ro 6) (opsOf r17) 15 (opsOf r17).toList.tail 1 ((t6N M bm acc seen).put (some 53) (.tup [.agg [.i .i64 a, .i .i64 b, .i .i64 c, .i .i64 d], .i .i64 n])) fun st => ev6 r18 [true] { st with nx := st.nx + 6 } fun e st => match e with
      | .nrm => norm Try.prog keep6 12 st
      | _ => none) = cond (Nat.ble (acc.length + 1) 9223372036854775807 && true) (cond (Nat.ble ((acc.length + 1) * 40) 140737488355328) (some (s6M M bm (acc ++ [row6 a b c d n]) seen)) none) none := by kernel_rfl
def s6X (M : List (AV × AV)) (bm : Nat) (acc : List (List AV)) (seen : Array Nat) : St := { (((s6M M bm acc seen).put (some 51) (.tup [.b false])).put (some 52) (.b false)).put (some 52) (.b false) with nx := 15 }
theorem ev16f (M : List (AV × AV)) (bm : Nat) (acc : List (List AV)) (seen : Array Nat) :
    (evOpsB Try.prog SN7 (ro 6) (opsOf r16) 13 [opAt r16 1] 1 ((s6M M bm acc seen).put (some 51) (.tup [.b false])) fun st => ev6 b6a [false, true] { st with nx := st.nx + 2 } fun e st => some (e, st)) = some (.ext 4, s6X M bm acc seen) := by kernel_rfl
end Go.Proofs.Ytfbfohkgajeopac

set_option maxRecDepth 100000
set_option maxHeartbeats 0
set_option linter.unusedVariables false
namespace Go.Proofs.Ytfbfohkgajeopac
open Go Go.Ev Go.RowKit

theorem b6a_eq : b6a = .cond (.tmp 52) .skip (.exit 4) := by kernel_rfl
theorem r18_eq : r18 = .region 18 (opsOf r18) false := by kernel_rfl
theorem lok_b6a (p : Pl) (lo : Nat) : LOK Try.prog SN7 (ro 6) L6n lo false b6a p := by rw [b6a_eq]; exact ⟨trivial, trivial⟩
theorem lok_r18 (p : Pl) (lo : Nat) : LOK Try.prog SN7 (ro 6) L6n lo false r18 p := by rw [r18_eq]; trivial
theorem sr_nx {w0 : Base} {X D : Nat → Nat → Prop} {R : Nat → Option (Nat × Nat × Nat)} {st : St} {a : Act} {w : World} (h : SR Try.prog w0 X D R st a w) (k : Nat) : SR Try.prog w0 X D R { st with nx := k } a w :=
  ⟨h.tmp, h.nt, h.mem, h.own, h.fx, h.dom, h.inj, h.nz, h.X, h.lt, h.old, h.df⟩
def Ent6 (M : List (AV × AV)) : Prop := ∀ i, i < M.length → ∃ a b c d n : Int, M.getD i (.u, .u) = (.agg [.i .i64 a, .i .i64 b, .i .i64 c, .i .i64 d], .i .i64 n)
theorem tail_at {ops : Array Oper} (i : Nat) : ops.toList.tail[i]? = ops[1 + i]? := by
  rw [Nat.add_comm]
  cases h : ops.toList with
  | nil =>
    have : ops.size = 0 := by rw [← Array.length_toList, h]; rfl
    simp [this]
  | cons x l => simp [← Array.getElem?_toList, h]
theorem round6 {w0 : Base} {X D : Nat → Nat → Prop} {R : Nat → Option (Nat × Nat × Nat)} {a : Act} {w : World} {Q : Exit → Act → World → Prop} {K : Act → World → Prop} {M : List (AV × AV)} {bm : Nat} {acc : List (List AV)} {seen : Array Nat}
    (hK0 : ∀ i, ¬ w0.K i) (h : SR Try.prog w0 X D R (s6M M bm acc seen) a w) (hf : Fresh R 13) (hR : R 8 = some (bm, 1, 0)) (hent : Ent6 M) (hlen : acc.length ≤ 1000)
    (hx : (∀ i, i < M.length → i ∈ seen) → ∀ D' R' a' w', SR Try.prog w0 X D' R' (s6X M bm acc seen) a' w' → Fresh R' 15 → Q (.exit 4) a' w')
    (hnx : ∀ i a b c d n, i < M.length → i ∉ seen → M.getD i (.u, .u) = (.agg [.i .i64 a, .i .i64 b, .i .i64 c, .i .i64 d], .i .i64 n) → ∀ D' R' a' w', SR Try.prog w0 X D' R' (s6M M bm (acc ++ [row6 a b c d n]) (seen.push i)) a' w' → Fresh R' 13 → R' 8 = some (bm, 1, 0) → K a' w') :
    lp6m.wpIn (FW none) 0 Try.prog (Exit.then K Q) a w := by
  have hl16 : ∀ i, [opAt r16 1][i]? = (opsOf r16)[1 + i]? := fun i => by
    cases i with
    | zero => exact op16.2.1.symm
    | succ i =>
      have : (opsOf r16)[1 + (i + 1)]? = none := Array.getElem?_eq_none (by rw [op16.2.2]; omega)
      simp [this]
  rw [lp6m_eq]
  refine wpIn_seq (wpIn_region ?_)
  rw [op16.2.2, List.range_eq_range']
  refine ops_first op16.1 op16b.2.2 ?_
  refine next_map_sound h (fun x hx => by rw [op16b.2.1] at hx; cases hx; show 51 < 65; decide) op16b.1 (id := 8) (j := 11) (es := M) (seen := seen) (kt := 35) (vt := 3) (by kernel_rfl) (by kernel_rfl) hR (by kernel_rfl) (fun v' hall hS => ?_) (fun i v' w' hi hns hS => ?_)
  · rw [op16b.2.1] at hS
    refine evOpsB_sound SN7_ok (base := 13) [opAt r16 1] 1 hl16 hS (fun id hid => hf id (by omega)) (ev16f M bm acc seen) fun D' R' st' a' w' hS2 hf2 hRR hdd hx2 ht hK => ?_
    refine wpIn_seq (evC_sound SN7_ok mixed b6a [false, true] 0 false none 0 (lok_b6a _ _) (fun _ => rfl) (sr_nx hS2 (st'.nx + 2)) (by simp only [hx2]; exact hf2) (Nat.zero_le _) (fun i j _ hi => absurd hi (hK0 i)) hK fun D2 R2 e st2 a2 w2 hS3 hf3 _ _ _ _ hK3 => ?_)
    simp only [Option.some.injEq, Prod.mk.injEq] at hK3
    obtain ⟨rfl, rfl⟩ := hK3
    exact hx hall D2 R2 a2 w2 hS3 hf3
  · rw [op16b.2.1] at hS
    have hS : SR Try.prog w0 X D R (s6N M bm acc (seen.push i)) (a.put (some 51) v') w' := by
      refine Eqv.sr (s := ((s6M M bm acc seen).mem 11 (Blk.ob (Obj.mapIter (some bm) M.length (seen.push i) M.length))).put (some 51) (AV.tup [AV.b true, AV.u, AV.u])) (s' := s6N M bm acc (seen.push i)) ⟨fun x => rfl, fun id => ?_, rfl, rfl⟩ hS
      show gm ((11, _) :: (s6M M bm acc seen).m) id = gm (s6M M bm acc (seen.push i)).m id
      simp only [s6M, gm_cons]
      by_cases e : id = 11
      · subst e; simp [it6]
      · simp [e]
    refine evOpsB_sound SN7_ok (base := 13) [opAt r16 1] 1 hl16 hS (fun id hid => hf id (by omega)) (ev16t M bm acc (seen.push i)) fun D' R' st' a' w' hS2 hf2 hRR hdd hx2 ht hK => ?_
    refine wpIn_seq (evC_sound SN7_ok mixed b6a [false, true] 13 false none 0 (lok_b6a _ _) (fun _ => rfl) (sr_nx hS2 (st'.nx + 2)) (by simp only [hx2]; exact hf2) (by simp only [hx2]; show 13 ≤ 13 + 2; decide) (fun i j _ hi => absurd hi (hK0 i)) hK fun D2 R2 e st2 a2 w2 hS3 hf3 hRR3 _ _ _ hK3 => ?_)
    simp only [Option.some.injEq, Prod.mk.injEq] at hK3
    obtain ⟨rfl, rfl⟩ := hK3
    have hR2 : R2 8 = some (bm, 1, 0) := by
      have h8 : gm (t6N M bm acc (seen.push i)).m 8 = .mp 35 3 M := by kernel_rfl
      obtain ⟨_, _, _, b, _, _, g1, _⟩ := (by simpa [h8] using hS3.mem 8 : RowOK Try.prog D2 R2 w2 8 (.mp 35 3 M))
      rcases hRR3 8 (by omega) with g | g
      · rw [g, hRR 8 (by omega)]; exact hR
      · rw [g] at g1; cases g1
    obtain ⟨xa, xb, xc, xd, xn, hen⟩ := hent i hi
    refine wpIn_block (wpIn_seq (wpIn_region ?_))
    rw [op17.2.1, List.range_eq_range']
    refine ops_first op17.1 op17b.2.2 ?_
    refine entry_map_sound hS3 (fun x hx => by rw [op17b.2.1] at hx; cases hx; show 53 < 65; decide) op17b.1 (id := 8) (j := 11) (i := i) (es := M) (seen := seen) (kt := 35) (vt := 3) (by kernel_rfl) (by kernel_rfl) hR2 (by kernel_rfl) hi fun v2 hS4 => ?_
    rw [op17b.2.1, hen] at hS4
    have hl17 : (opsOf r17).toList.tail.length = 5 := by simp [op17.2.1]
    have he17 := (ev17 M bm acc (seen.push i) xa xb xc xd xn).trans (by
      rw [show Nat.ble (acc.length + 1) 9223372036854775807 = true from Nat.ble_eq_true_of_le (by omega), show Nat.ble ((acc.length + 1) * 40) 140737488355328 = true from Nat.ble_eq_true_of_le (by omega)])
    have := evOpsB_sound (ro := none) (n := 0) (Q := Exit.then (r18.wpIn (FW none) 0 Try.prog (Exit.inBlock 5 (Exit.then K Q))) (Exit.inBlock 5 (Exit.then K Q))) SN7_ok (base := 15) (opsOf r17).toList.tail 1 tail_at hS4 (fun id hid => hf3 id (show 15 ≤ id by omega)) he17 fun D3 R3 st3 a3 w3 hS5 hf5 hRR5 _ hx5 ht5 hK5 => by
      refine evC_sound SN7_ok mixed r18 [true] 13 false none 0 (lok_r18 _ _) (fun _ => rfl) (sr_nx hS5 (st3.nx + 6)) (by simp only [hx5]; rw [hl17] at hf5; exact hf5) (by simp only [hx5]; show 13 ≤ 15 + 6; decide) (fun i j _ hi => absurd hi (hK0 i)) hK5 fun D4 R4 e4 st4 a4 w4 hS6 hf6 hRR6 _ hlo6 _ hK6 => ?_
      cases e4 with
      | ext _ => cases hK6
      | ret => cases hK6
      | nrm =>
        obtain ⟨R6, g1, g2, g3, g4, g5⟩ := norm_sound hS6 hK6 (fun _ i j _ hi => absurd hi (hK0 i))
        refine hnx i xa xb xc xd xn hi hns hen D4 R6 a4 w4 g1 g2 ?_
        have h8 : gm (s6M M bm (acc ++ [row6 xa xb xc xd xn]) (seen.push i)).m 8 = .mp 35 3 M := by kernel_rfl
        obtain ⟨_, _, _, b, _, _, q1, _⟩ := (by simpa [h8] using g1.mem 8 : RowOK Try.prog D4 R6 w4 8 (.mp 35 3 M))
        rw [g5 8 (by omega)] at q1 ⊢
        rcases hRR6 8 (by omega) with g | g
        · rw [g, hRR5 8 (by omega)]; exact hR2
        · rw [g] at q1; cases q1
    rw [hl17] at this
    exact this
end Go.Proofs.Ytfbfohkgajeopac

set_option maxRecDepth 100000
set_option maxHeartbeats 0
set_option linter.unusedVariables false
namespace Go.Proofs.Ytfbfohkgajeopac
open Go Go.Ev Go.RowKit

def rowOf (p : AV × AV) : List AV := (match p.1 with | .agg cs => cs | _ => []) ++ [p.2]
structure Seen6 (M : List (AV × AV)) (acc : List (List AV)) (seen : Array Nat) : Prop where
  acc : acc = seen.toList.map fun i => rowOf (M.getD i (.u, .u))
  nd : seen.toList.Nodup
  lt : ∀ i, i ∈ seen.toList → i < M.length
theorem Seen6.perm {M : List (AV × AV)} {acc : List (List AV)} {seen : Array Nat} (h : Seen6 M acc seen) (hall : ∀ i, i < M.length → i ∈ seen) : acc.Perm (M.map rowOf) := by
  have h1 : seen.toList.Perm (List.range M.length) := (List.perm_ext_iff_of_nodup h.nd List.nodup_range).2 fun i => by
    rw [List.mem_range]
    exact ⟨h.lt i, fun hi => by simpa using hall i hi⟩
  rw [h.acc]
  refine (h1.map _).trans (.of_eq ?_)
  refine List.ext_getElem (by simp) fun i h1 h2 => ?_
  have hi : i < M.length := by simpa using h2
  simp [List.getD_eq_getElem?_getD, hi]
def left6 (M : List (AV × AV)) (seen : Array Nat) : List Nat := (List.range M.length).filter fun i => !seen.contains i
theorem left6_push {M : List (AV × AV)} {seen : Array Nat} {i : Nat} (hi : i < M.length) (hn : i ∉ seen) : (left6 M (seen.push i)).length < (left6 M seen).length := by
  have e : left6 M (seen.push i) = (left6 M seen).filter fun j => !(j == i) := by
    unfold left6
    rw [List.filter_filter]
    refine List.filter_congr fun j _ => ?_
    by_cases e : j = i
    · subst e; simp
    · simp [e]
  rw [e, List.length_filter_lt_length_iff_exists]
  exact ⟨i, by simp [left6, hi, hn], by simp⟩
theorem loop6 {w0 : Base} {X : Nat → Nat → Prop} {Q : Exit → Act → World → Prop} {M : List (AV × AV)} {bm : Nat} (hK0 : ∀ i, ¬ w0.K i) (hent : Ent6 M) (hM : M.length ≤ 1000)
    (hx : ∀ acc seen D' R' a' w', acc.Perm (M.map rowOf) → SR Try.prog w0 X D' R' (s6X M bm acc seen) a' w' → Fresh R' 15 → Q (.exit 4) a' w') :
    ∀ (m : Nat) {D : Nat → Nat → Prop} {R : Nat → Option (Nat × Nat × Nat)} {a : Act} {w : World} {acc : List (List AV)} {seen : Array Nat}, SR Try.prog w0 X D R (s6M M bm acc seen) a w → Fresh R 13 → R 8 = some (bm, 1, 0) → Seen6 M acc seen →
      acc.length + m = M.length + 1 → (left6 M seen).length < m → Code.roundsIn (FW none) 0 Try.prog lp6m Q m a w
  | 0, D, R, a, w, acc, seen, h, hf, hR, hs, hm, hl => by omega
  | m + 1, D, R, a, w, acc, seen, h, hf, hR, hs, hm, hl => by
    rw [roundsIn_succ]
    refine round6 hK0 h hf hR hent (by omega) (fun hall D' R' a' w' hS hf' => hx _ _ _ _ _ _ (hs.perm hall) hS hf') (fun i xa xb xc xd xn hi hns hen D' R' a' w' hS hf' hR' => ?_)
    have hs' : Seen6 M (acc ++ [row6 xa xb xc xd xn]) (seen.push i) := by
      refine ⟨?_, ?_, fun j hj => ?_⟩
      · rw [Array.toList_push, List.map_append, ← hs.acc, List.map_cons, List.map_nil, hen]; rfl
      · rw [Array.toList_push, List.nodup_append]
        exact ⟨hs.nd, by simp, fun x hx y hy => by
          simp at hy
          subst hy
          intro e
          subst e
          exact hns (by simpa using hx)⟩
      · rw [Array.toList_push, List.mem_append] at hj
        rcases hj with hj | hj
        · exact hs.lt j hj
        · simp at hj; subst hj; exact hi
    have hp := left6_push hi hns
    exact loop6 hK0 hent hM hx m hS hf' hR' hs' (by simp; omega) (by omega)
end Go.Proofs.Ytfbfohkgajeopac

set_option maxRecDepth 100000
set_option maxHeartbeats 0
set_option linter.unusedVariables false
namespace Go.Proofs.Ytfbfohkgajeopac
open Go Go.Ev Go.RowKit

noncomputable def SZ : Ev.Spec := runS Try.prog (fun _ _ => none) ro (fun _ _ _ => none) 4 3 6
theorem SZ_ok : SpecOK Try.prog SZ := runS_ok (fun _ _ _ h => by cases h) mixed names (fun _ _ _ _ _ _ h => by cases h) 6
theorem sort_nil : SZ 17 [.rs 37 [], .fn 18 []] [] = some (true, .tup [], []) := by kernel_rfl
noncomputable def e17z (args : List AV) (rows : List Blk) : Option (Bool × AV × List Blk) := match args, rows with
  | [.rs 37 [], .fn 18 []], [] => some (true, .tup [], [])
  | _, _ => none
theorem e17z_ok (args : List AV) (rows : List Blk) (pre : Bool) (v : AV) (rows' : List Blk) (h : e17z args rows = some (pre, v, rows')) (hp : pre = true) : Con Try.prog 17 args rows v rows' := by
  unfold e17z at h
  split at h
  · cases h; exact SZ_ok _ _ _ _ _ _ sort_nil rfl
  · cases h
def orE (a b : List AV → List Blk → Option (Bool × AV × List Blk)) (args : List AV) (rows : List Blk) : Option (Bool × AV × List Blk) := match a args rows with
  | some x => some x
  | none => b args rows
theorem orE_ok {f : FuncId} {a b : List AV → List Blk → Option (Bool × AV × List Blk)} (ha : ∀ args rows pre v rows', a args rows = some (pre, v, rows') → pre = true → Con Try.prog f args rows v rows') (hb : ∀ args rows pre v rows', b args rows = some (pre, v, rows') → pre = true → Con Try.prog f args rows v rows')
    (args : List AV) (rows : List Blk) (pre : Bool) (v : AV) (rows' : List Blk) (h : orE a b args rows = some (pre, v, rows')) (hp : pre = true) : Con Try.prog f args rows v rows' := by
  unfold orE at h
  split at h
  · rename_i x hx
    cases h
    exact ha _ _ _ _ _ hx hp
  · exact hb _ _ _ _ _ h hp
noncomputable def SN8 : Ev.Spec := insS 17 (orE e17n e17z) S0
theorem SN8_ok : SpecOK Try.prog SN8 := insS_ok (orE_ok e17n_ok e17z_ok) S0_ok

def s6P (cs : List (List AV)) (M : List (AV × AV)) (t22 : Int) : St := { t := [(10, .nl), (2, .nl), (3, .i .i64 0), (5, .mp 8), (20, .rs 43 cs), (21, .i .i64 cs.length), (22, .i .i64 t22)], m := [(0, .dead), (1, .dead), (2, .dead), (3, .dead), (4, .dead), (5, .dead), (6, .dead), (7, .dead), (8, .mp 35 3 M)], nx := 10, nt := 65 }
theorem pre6_eq (cs : List (List AV)) : pre6 cs = cond (g16n cs) (cond (w16n_0 cs != 0) (some (.ret, { t := [(3, .i .i64 (w16n_0 cs)), (2, .nl), (17, .i .i64 (w16n_0 cs)), (16, .b true), (16, .b (w16n_0 cs != 0)), (15, .i .i64 (w16n_0 cs)), (4, .i .i64 (w16n_0 cs)), (14, .i .i64 (w16n_0 cs)), (13, .agg [.rs 43 cs]), (3, .i .i64 0), (2, .nl), (1, .rp [.sl 43] [.rs 43 cs] 0), (0, .agg [.rs 43 cs])], m := [], nx := 11, nt := 65 }))
    (cond (i6na_0 0 cs (↑cs.length : Int) 0 []) (some (.nrm, s6P cs (v6na_0_m8 0 cs (↑cs.length : Int) 0 []) (v6na_0_t22 0 cs (↑cs.length : Int) 0 []))) none)) none := by kernel_rfl
def s6O (acc : List (List AV)) : St := { t := [(10, .sl 12 0 acc.length)], m := [(12, .row 37 acc)], nx := 15, nt := 65 }
noncomputable def s6E (acc : List (List AV)) : St := { t := [(3, .i .i64 0), (2, .sl 12 0 acc.length), (64, .sl 12 0 acc.length), (63, .tup []), (62, .sl 12 0 acc.length), (10, .sl 12 0 acc.length)], m := [(12, .row 37 (w17n_0 acc.length acc)), (12, .row 37 acc)], nx := 20, nt := 65 }
theorem end6 (acc : List (List AV)) : (evC Try.prog SN8 (ro 6) (fun _ _ => none) p6F [] (s6O acc) fun e st => some (e, st)) = cond (g17n acc.length acc && true) (some (.ret, s6E acc)) none := by kernel_rfl
theorem ret6 (acc : List (List AV)) : retK Try.prog 0 Try.f6 (s6E acc) = cond (Nat.ble (0 + acc.length) (w17n_0 acc.length acc).length) (some (.tup [.rs 37 (cond (Nat.beq 0 0 && Nat.beq acc.length (w17n_0 acc.length acc).length) (w17n_0 acc.length acc) (((w17n_0 acc.length acc).drop 0).take acc.length)), .i .i64 0], [])) none := by kernel_rfl
def s6Z (cs : List (List AV)) (M : List (AV × AV)) (t22 : Int) (bm : Nat) : St := { (((s6P cs M t22).put (some 49) (.mp 8)).mem 11 (it6 bm M.length #[])).put (some 50) (.it 11) with nx := 12 }
theorem norm6 (cs : List (List AV)) (M : List (AV × AV)) (t22 : Int) (bm : Nat) : norm Try.prog keep6 12 (s6Z cs M t22 bm) = some (s6M M bm [] #[]) := by kernel_rfl
def s6Y (cs : List (List AV)) (M : List (AV × AV)) (t22 : Int) (bm : Nat) : St := { (((s6Z cs M t22 bm).put (some 51) (.tup [.b false])).put (some 52) (.b false)).put (some 52) (.b false) with nx := 14 }
theorem ev16z (cs : List (List AV)) (M : List (AV × AV)) (t22 : Int) (bm : Nat) :
    (evOpsB Try.prog SN7 (ro 6) (opsOf r16) 12 [opAt r16 1] 1 ((s6Z cs M t22 bm).put (some 51) (.tup [.b false])) fun st => ev6 b6a [false, true] { st with nx := st.nx + 2 } fun e st => some (e, st)) = some (.ext 4, s6Y cs M t22 bm) := by kernel_rfl
theorem end6z (cs : List (List AV)) (M : List (AV × AV)) (t22 : Int) (bm : Nat) : (evC Try.prog SN8 (ro 6) (fun _ _ => none) p6F [] (s6Y cs M t22 bm) fun e st => match e with
      | .ret => retK Try.prog 0 Try.f6 st
      | _ => none) = some (.tup [.nl, .i .i64 0], []) := by kernel_rfl
end Go.Proofs.Ytfbfohkgajeopac

set_option maxRecDepth 100000
set_option maxHeartbeats 0
set_option linter.unusedVariables false
namespace Go.Proofs.Ytfbfohkgajeopac
open Go Go.Ev Go.RowKit

theorem p6F_eq : p6F = .seq (.region 19 (opsOf (sq1 p6F)) false) (.seq (.region 20 (opsOf (sq1 (sq2 p6F))) false) .ret) := by kernel_rfl
theorem lok_p6F (lo : Nat) : LOK Try.prog SN8 (ro 6) (fun _ _ => none) lo false p6F [] := by rw [p6F_eq]; exact ⟨trivial, trivial, trivial⟩
theorem pre6_walk {w0 : Base} {X D : Nat → Nat → Prop} {R : Nat → Option (Nat × Nat × Nat)} {a : Act} {w : World} {Q : Exit → Act → World → Prop} {cs : List (List AV)} {s : St} (hK0 : ∀ i, ¬ w0.K i) (h : SR Try.prog w0 X D R (initSt 65 [.agg [.rs 43 cs]] []) a w) (hf : Fresh R 0)
    (he : pre6 cs = some (.nrm, s)) (hn : ∀ D' R' a' w', SR Try.prog w0 X D' R' s a' w' → Fresh R' s.nx → (Code.seq p6f p6F).wpIn (FW none) 0 Try.prog Q a' w') : c6n.wpIn (FW none) 0 Try.prog Q a w := by
  unfold pre6 at he
  have hL := lok6n
  rw [c6_seq] at hL
  obtain ⟨l1, l2, l3, l4, l5, l6⟩ := hL
  have hkk : ∀ i j, 0 ≤ i → w0.K i → w0.K j := fun i j _ hi => absurd hi (hK0 i)
  rw [c6_seq]
  refine wpIn_seq (evC_sound SN7_ok mixed p6a [false] 0 false none 0 l1 (fun _ => rfl) h hf (Nat.zero_le _) hkk he fun D1 R1 e st1 a1 w1 h1 f1 _ _ _ _ hK => ?_)
  cases e with
  | ext _ => cases hK
  | ret => cases hK
  | nrm =>
  refine wpIn_seq (evC_sound SN7_ok mixed p6b [false, true] 0 false none 0 l2 (fun _ => rfl) h1 f1 (Nat.zero_le _) hkk hK fun D2 R2 e st2 a2 w2 h2 f2 _ _ _ _ hK => ?_)
  cases e with
  | ext _ => cases hK
  | ret => cases hK
  | nrm =>
  refine wpIn_seq (evC_sound SN7_ok mixed p6c [false, true, true] 0 false none 0 l3 (fun _ => rfl) h2 f2 (Nat.zero_le _) hkk hK fun D3 R3 e st3 a3 w3 h3 f3 _ _ _ _ hK => ?_)
  cases e with
  | ext _ => cases hK
  | ret => cases hK
  | nrm =>
  refine wpIn_seq (evC_sound SN7_ok mixed p6d [false, true, true, true] 0 false none 0 l4 (fun _ => rfl) h3 f3 (Nat.zero_le _) hkk hK fun D4 R4 e st4 a4 w4 h4 f4 _ _ _ _ hK => ?_)
  cases e with
  | ext _ => cases hK
  | ret => cases hK
  | nrm =>
  refine wpIn_seq (evC_sound SN7_ok mixed p6e [false, true, true, true, true] 0 false none 0 l5 (fun _ => rfl) h4 f4 (Nat.zero_le _) hkk hK fun D5 R5 e st5 a5 w5 h5 f5 _ _ _ _ hK => ?_)
  simp only [Option.some.injEq, Prod.mk.injEq] at hK
  obtain ⟨rfl, rfl⟩ := hK
  exact hn D5 R5 a5 w5 h5 f5
theorem ev15 (cs : List (List AV)) (M : List (AV × AV)) (t22 : Int) : evOp Try.prog SN7 (ro 6) 10 (opAt z6a 0) (s6P cs M t22) some = some ⟨.mp 8, none⟩ := by kernel_rfl
theorem head6 {w0 : Base} {X D : Nat → Nat → Prop} {R : Nat → Option (Nat × Nat × Nat)} {a : Act} {w : World} {Q : Exit → Act → World → Prop} {cs : List (List AV)} {M : List (AV × AV)} {t22 : Int} (h : SR Try.prog w0 X D R (s6P cs M t22) a w) (hf : Fresh R 10)
    (hn : ∀ D' R' bm a' w', SR Try.prog w0 X D' R' (s6Z cs M t22 bm) a' w' → Fresh R' 12 → R' 8 = some (bm, 1, 0) → (Code.loop lp6m).wpIn (FW none) 0 Try.prog (Exit.inBlock 4 (Exit.then (p6F.wpIn (FW none) 0 Try.prog Q) Q)) a' w') : (Code.seq p6f p6F).wpIn (FW none) 0 Try.prog Q a w := by
  refine wpIn_seq ?_
  rw [p6f_eq]
  refine wpIn_seq (wpIn_region ?_)
  rw [op15.2.2, List.range_eq_range']
  refine ops_first op15.1 op15b.2.2.2.1 ?_
  refine evOp_sound SN7_ok h (hf 10 (Nat.le_refl _)) (fun x hx => by rw [op15b.2.2.2.2] at hx; cases hx; show 49 < 65; decide) (ev15 cs M t22) fun D1 R1 e v1 w1 h1 fr1 hK => ?_
  simp only [Option.some.injEq] at hK
  subst hK
  rw [op15b.2.2.2.2] at h1
  have h1 : SR Try.prog w0 X D1 R1 ((s6P cs M t22).put (some 49) (.mp 8)) (a.put (opAt z6a 0).dst v1) w1 := by rw [op15b.2.2.2.2]; exact h1
  refine ops_first op15.2.1 op15b.2.2.1 ?_
  refine range_map_sound h1 (site := 11) (by rw [fr1.R 11 (by decide)]; exact hf 11 (by decide)) (fun x hx => by rw [op15b.2.1] at hx; cases hx; show 50 < 65; decide) op15b.1 (kt := 35) (vt := 3) (kt' := 35) (vt' := 3) (id := 8) (es := M) (by kernel_rfl) (by kernel_rfl) (by kernel_rfl) fun D2 R2 v2 w2 bm hbm h2 fr2 => ?_
  rw [op15b.2.1] at h2
  have h2 : SR Try.prog w0 X D2 R2 ((((s6P cs M t22).put (some 49) (.mp 8)).mem 11 (it6 bm M.length #[])).put (some 50) (.it 11)) (Act.put (a.put (opAt z6a 0).dst v1) (opAt z6a 1).dst v2) w2 := by rw [op15b.2.1]; exact h2
  refine wpIn_block (hn D2 R2 bm _ w2 (sr_nx h2 12) (fun id hid => ?_) ?_)
  · rw [fr2.R id (by omega), fr1.R id (by omega)]; exact hf id (by omega)
  · rw [fr2.R 8 (by decide)]; exact hbm
theorem con6z {cs : List (List AV)} (hg : g16n cs = true) (hw : w16n_0 cs = 0) (hi : i6na_0 0 cs (↑cs.length : Int) 0 [] = true) (hM : v6na_0_m8 0 cs (↑cs.length : Int) 0 [] = []) : Con Try.prog 6 [.agg [.rs 43 cs]] [] (.tup [.nl, .i .i64 0]) [] := by
  have he := pre6_eq cs
  rw [hg, hw, hi, hM] at he
  refine con_hand (c := c6n) Try.func6 rfl (names 6 _ Try.func6) (by show 1 ≤ 65; decide) fun {w0 X D R a w Q} hK0 h hf hq => ?_
  refine pre6_walk hK0 h hf he fun D1 R1 a1 w1 h1 f1 => head6 h1 f1 fun D2 R2 bm a2 w2 h2 f2 hR2 => wpIn_loop_rounds 1 ?_
  rw [roundsIn_succ, lp6m_eq]
  refine wpIn_seq (wpIn_region ?_)
  rw [op16.2.2, List.range_eq_range']
  refine ops_first op16.1 op16b.2.2 ?_
  have hl16 : ∀ i, [opAt r16 1][i]? = (opsOf r16)[1 + i]? := fun i => by
    cases i with
    | zero => exact op16.2.1.symm
    | succ i =>
      have : (opsOf r16)[1 + (i + 1)]? = none := Array.getElem?_eq_none (by rw [op16.2.2]; omega)
      simp [this]
  refine next_map_sound h2 (fun x hx => by rw [op16b.2.1] at hx; cases hx; show 51 < 65; decide) op16b.1 (id := 8) (j := 11) (es := []) (seen := #[]) (bm := bm) (kt := 35) (vt := 3) (by kernel_rfl) (by kernel_rfl) hR2 (by kernel_rfl) (fun v' hall hS => ?_) (fun i v' w' hi hns hS => by simp at hi)
  rw [op16b.2.1] at hS
  have hS : SR Try.prog w0 X D2 R2 ((s6Z cs [] (v6na_0_t22 0 cs (↑cs.length : Int) 0 []) bm).put (some 51) (.tup [.b false])) (a2.put (opAt r16 0).dst v') w2 := by rw [op16b.2.1]; exact hS
  refine evOpsB_sound SN7_ok (base := 12) [opAt r16 1] 1 hl16 hS (fun id hid => f2 id (by omega)) (ev16z cs [] _ bm) fun D' R' st' a' w' hS2 hf2 hRR hdd hx2 ht hK => ?_
  refine wpIn_seq (evC_sound SN7_ok mixed b6a [false, true] 0 false none 0 (lok_b6a _ _) (fun _ => rfl) (sr_nx hS2 (st'.nx + 2)) (by simp only [hx2]; exact hf2) (Nat.zero_le _) (fun i j _ hi => absurd hi (hK0 i)) hK fun D3 R3 e st3 a3 w3 hS3 hf3 _ _ _ _ hK3 => ?_)
  simp only [Option.some.injEq, Prod.mk.injEq] at hK3
  obtain ⟨rfl, rfl⟩ := hK3
  show p6F.wpIn (FW none) 0 Try.prog Q a3 w3
  refine evC_sound SN8_ok mixed p6F [] 0 false none 0 (lok_p6F 0) (fun _ => rfl) hS3 hf3 (Nat.zero_le _) (fun i j _ hi => absurd hi (hK0 i)) (end6z cs [] _ bm) fun D4 R4 e st4 a4 w4 hS4 hf4 _ _ _ _ hK4 => ?_
  cases e with
  | nrm => cases hK4
  | ext _ => cases hK4
  | ret => exact hq D4 R4 .ret st4 a4 w4 hS4 (.inr rfl) hK4
theorem con6s {cs out : List (List AV)} {M : List (AV × AV)} (hg : g16n cs = true) (hw : w16n_0 cs = 0) (hi : i6na_0 0 cs (↑cs.length : Int) 0 [] = true) (hM : v6na_0_m8 0 cs (↑cs.length : Int) 0 [] = M) (hne : M ≠ []) (hent : Ent6 M) (hlen : M.length ≤ 1000)
    (hs : ∀ acc : List (List AV), acc.Perm (M.map rowOf) → g17n acc.length acc = true ∧ w17n_0 acc.length acc = out ∧ out.length = acc.length) : Con Try.prog 6 [.agg [.rs 43 cs]] [] (.tup [.rs 37 out, .i .i64 0]) [] := by
  have he := pre6_eq cs
  rw [hg, hw, hi, hM] at he
  refine con_hand (c := c6n) Try.func6 rfl (names 6 _ Try.func6) (by show 1 ≤ 65; decide) fun {w0 X D R a w Q} hK0 h hf hq => ?_
  refine pre6_walk hK0 h hf he fun D1 R1 a1 w1 h1 f1 => head6 h1 f1 fun D2 R2 bm a2 w2 h2 f2 hR2 => wpIn_loop_rounds (M.length + 1) ?_
  obtain ⟨R3, g1, g2, g3, g4, g5⟩ := norm_sound h2 (norm6 cs M _ bm) (fun _ i j _ hi => absurd hi (hK0 i))
  refine loop6 hK0 hent hlen (fun acc seen D' R' a' w' hp hS hf' => ?_) (M.length + 1) g1 g2 (by rw [g5 8 (by decide)]; exact hR2) ⟨rfl, by simp, by simp⟩ (by simp) ?_
  · obtain ⟨q1, q2, q3⟩ := hs acc hp
    have hacc : acc ≠ [] := fun e => by
      subst e
      have := hp.length_eq
      simp at this
      exact hne (List.eq_nil_of_length_eq_zero this.symm)
    show p6F.wpIn (FW none) 0 Try.prog Q a' w'
    obtain ⟨D4, R4, hS4, hf4⟩ := own_of_gv hS (t := 10) (id := 12) (e := 37) (es := acc) (by kernel_rfl) (by kernel_rfl) hacc (by show 12 < 15; decide) (fun i j hi hj => by
      have hmem : acc.getD i [] ∈ M.map rowOf := hp.mem_iff.1 (by simp [List.getD_eq_getElem?_getD, hi])
      obtain ⟨p, hp1, hp2⟩ := List.mem_map.1 hmem
      obtain ⟨k, hk, rfl⟩ := List.getElem_of_mem hp1
      obtain ⟨xa, xb, xc, xd, xn, hx⟩ := hent k hk
      have : M[k] = (.agg [.i .i64 xa, .i .i64 xb, .i .i64 xc, .i .i64 xd], .i .i64 xn) := by simpa [List.getD_eq_getElem?_getD, hk] using hx
      rw [← hp2, this]
      have h5 : Try.prog.cellsOf 37 = 5 := by kernel_rfl
      rw [h5] at hj
      match j, hj with
      | 0, _ => rfl
      | 1, _ => rfl
      | 2, _ => rfl
      | 3, _ => rfl
      | 4, _ => rfl)
    refine evC_sound SN8_ok mixed p6F [] 0 false none 0 (lok_p6F 0) (fun _ => rfl) (st := s6O acc) hS4 hf4 (Nat.zero_le _) (fun i j _ hi => absurd hi (hK0 i)) ((end6 acc).trans (by rw [q1]; rfl)) fun D5 R5 e st5 a5 w5 hS5 hf5 _ _ _ _ hK5 => ?_
    simp only [Option.some.injEq, Prod.mk.injEq] at hK5
    obtain ⟨rfl, rfl⟩ := hK5
    refine hq D5 R5 .ret _ a5 w5 hS5 (.inr rfl) ?_
    rw [ret6, q2, q3, Nat.zero_add, show Nat.ble acc.length acc.length = true from Nat.ble_eq_true_of_le (Nat.le_refl _), show Nat.beq acc.length acc.length = true from Nat.beq_refl _]
    rfl
  · have := List.length_filter_le (fun i => !(#[] : Array Nat).contains i) (List.range M.length)
    exact Nat.lt_succ_of_le (by simpa [left6] using this)
end Go.Proofs.Ytfbfohkgajeopac

set_option maxRecDepth 100000
set_option maxHeartbeats 0
set_option linter.unusedVariables false
namespace Go.Proofs.Ytfbfohkgajeopac
open Go Go.Ev Go.RowKit

noncomputable def M6 (cs : List (List AV)) : List (AV × AV) := v6na_0_m8 0 cs (↑cs.length : Int) 0 []
noncomputable def w6q_0 (cs : List (List AV)) : List (List AV) := cond (w16n_0 cs != 0 || (M6 cs).isEmpty) [] (w17n_0 (M6 cs).length ((M6 cs).map rowOf))
noncomputable def w6q_1 (cs : List (List AV)) : Int := w16n_0 cs
def Ok6 (cs : List (List AV)) : Prop := M6 cs = [] ∨ (Ent6 (M6 cs) ∧ (M6 cs).length ≤ 1000 ∧ ∀ acc : List (List AV), acc.Perm ((M6 cs).map rowOf) → g17n acc.length acc = true ∧ w17n_0 acc.length acc = w6q_0 cs ∧ (w6q_0 cs).length = acc.length)
noncomputable def g6q (cs : List (List AV)) : Bool := g16n cs && (w16n_0 cs != 0 || (i6na_0 0 cs (↑cs.length : Int) 0 [] && @decide (Ok6 cs) (Classical.propDecidable _)))
theorem con6 (cs : List (List AV)) (h : g6q cs = true) : Con Try.prog 6 [.agg [.rs 43 cs]] [] (.tup [.rs 37 (w6q_0 cs), .i .i64 (w6q_1 cs)]) [] := by
  unfold g6q at h
  simp only [Bool.and_eq_true, Bool.or_eq_true, decide_eq_true_eq] at h
  obtain ⟨hg, h⟩ := h
  cases hw : (w16n_0 cs != 0) with
  | true =>
    have hg6 : g6n cs = true := by simp [g6n, t6n, Tr.g, hg, hw]
    have hw6 : w6n_0 cs = w16n_0 cs := by simp [w6n_0, t6n, Tr.val, hg, hw]
    have := (con6n cs hg6).wkX (.agg [.e 37])
    rw [hw6] at this
    have e0 : w6q_0 cs = [] := by simp [w6q_0, hw]
    rw [e0]
    exact this
  | false =>
    rw [hw] at h
    simp only [Bool.false_eq_true, false_or] at h
    obtain ⟨hi, hok⟩ := h
    have hw0 : w16n_0 cs = 0 := by simpa using hw
    have e1 : w6q_1 cs = 0 := hw0
    rw [e1]
    rcases hok with hM | ⟨h1, h2, h3⟩
    · have := (con6z hg hw0 hi hM).wkX (.agg [.e 37])
      have e0 : w6q_0 cs = [] := by simp [w6q_0, hM]
      rw [e0]
      exact this
    · cases hM : M6 cs with
      | nil =>
        have := (con6z hg hw0 hi hM).wkX (.agg [.e 37])
        have e0 : w6q_0 cs = [] := by simp [w6q_0, hM]
        rw [e0]
        exact this
      | cons x l => exact con6s hg hw0 hi rfl (by show M6 cs ≠ []; rw [hM]; simp) h1 h2 h3
noncomputable def e6q (args : List AV) (rows : List Blk) : Option (Bool × AV × List Blk) := match args, rows with
  | [.agg [.rs 43 cs]], [] => some (g6q cs, .tup [.rs 37 (w6q_0 cs), .i .i64 (w6q_1 cs)], [])
  | _, _ => none
theorem e6q_ok (args : List AV) (rows : List Blk) (pre : Bool) (v : AV) (rows' : List Blk) (h : e6q args rows = some (pre, v, rows')) (hp : pre = true) : Con Try.prog 6 args rows v rows' := by
  unfold e6q at h
  split at h
  · cases h; exact con6 _ hp
  · cases h
end Go.Proofs.Ytfbfohkgajeopac

set_option maxRecDepth 100000
set_option linter.unusedVariables false
namespace Go.Proofs.Ytfbfohkgajeopac
open Go Go.Ev

structure K4 where
  w : Int
  l : Int
  t : Int
  h : Int
  deriving DecidableEq, Inhabited
def kyA (b : List AV) : K4 := ⟨fI b 1, fI b 2, fI b 4, fI b 5⟩
def kA (k : K4) : AV := .agg [.i .i64 k.w, .i .i64 k.l, .i .i64 k.t, .i .i64 k.h]
theorem sameV_kA (a b : K4) : sameV (kA a) (kA b) = decide (a = b) := by
  cases a with
  | mk a1 a2 a3 a4 =>
  cases b with
  | mk b1 b2 b3 b4 =>
  simp only [kA, sameV, sameL, decide_true, cond_true, Bool.and_true, K4.mk.injEq]
  by_cases h1 : a1 = b1 <;> by_cases h2 : a2 = b2 <;> by_cases h3 : a3 = b3 <;> by_cases h4 : a4 = b4 <;> simp [h1, h2, h3, h4]
abbrev PL := List (K4 × Nat)
def enA (p : K4 × Nat) : AV × AV := (kA p.1, .i .i64 p.2)
def add1 (k : K4) : PL → PL
  | [] => [(k, 1)]
  | (k', n) :: r => if k = k' then (k', n + 1) :: r else (k', n) :: add1 k r
theorem add1_len (k : K4) : ∀ m : PL, (add1 k m).length ≤ m.length + 1
  | [] => by simp [add1]
  | (k', n) :: r => by
    have := add1_len k r
    unfold add1
    split <;> simp <;> omega
theorem mpos_en (k : K4) : ∀ m : PL, mpos (kA k) (m.map enA) < (madd (kA k) (.i .i64 0) (m.map enA)).length
  | [] => by simp [mpos, madd]
  | (k', n) :: r => by
    have := mpos_en k r
    simp only [List.map_cons, enA, mpos, madd, sameV_kA]
    cases decide (k = k') <;> simp
    exact this
theorem put_en (k : K4) : ∀ m : PL, (∀ p, p ∈ m → p.2 ≤ 100000) →
    mput (mpos (kA k) (m.map enA)) (.i .i64 (IntKind.i64.wrap (toI ((mget (kA k) (m.map enA)).getD (.i .i64 0)) + 1))) (madd (kA k) (.i .i64 0) (m.map enA)) = (add1 k m).map enA
  | [], _ => by
    simp only [List.map_nil, mpos, madd, mget, Option.getD_none, toI, mput, add1, List.map_cons, enA]
    rfl
  | (k', n) :: r, h => by
    have ih := put_en k r fun p hp => h p (List.mem_cons_of_mem _ hp)
    have hn := h (k', n) (by simp)
    simp only at hn
    simp only [List.map_cons, enA, mpos, madd, mget, sameV_kA, add1]
    by_cases e : k = k'
    · subst e
      simp only [decide_true, cond_true, if_true, Option.getD_some, toI, mput, List.map_cons, enA]
      rw [wrap64 (by omega) (by omega)]
      simp
    · simp only [e, decide_false, cond_false, if_false, List.map_cons]
      simp only [mput] at ih ⊢
      rw [List.modify_succ_cons, ih]
      rfl
def mkP (ks : List K4) : PL := ks.foldl (fun m k => add1 k m) []
theorem mkP_snoc (ks : List K4) (k : K4) : mkP (ks ++ [k]) = add1 k (mkP ks) := by simp [mkP]
structure GoodP (m : PL) (ks : List K4) : Prop where
  nd : (m.map (·.1)).Nodup
  mem : ∀ k n, (k, n) ∈ m ↔ (n = ks.count k ∧ k ∈ ks)
theorem add1_mem {k : K4} : ∀ {m : PL}, (m.map (·.1)).Nodup → ((add1 k m).map (·.1)).Nodup ∧ ∀ k' n, (k', n) ∈ add1 k m ↔ ((k' ≠ k ∧ (k', n) ∈ m) ∨ (k' = k ∧ ((∃ n', n = n' + 1 ∧ (k, n') ∈ m) ∨ (n = 1 ∧ ∀ n', (k, n') ∉ m))))
  | [], _ => by
    refine ⟨by simp [add1], fun k' n => ?_⟩
    simp [add1]
  | (k0, n0) :: r, h => by
    simp only [List.map_cons, List.nodup_cons] at h
    obtain ⟨i1, i2⟩ := add1_mem (k := k) h.2
    have hr : ∀ n', (k0, n') ∉ r := fun n' hm => h.1 (List.mem_map.2 ⟨(k0, n'), hm, rfl⟩)
    unfold add1
    split
    · rename_i e
      subst e
      refine ⟨by simpa using h, fun k' n => ?_⟩
      simp only [List.mem_cons, Prod.mk.injEq]
      constructor
      · rintro (⟨rfl, rfl⟩ | hm)
        · exact .inr ⟨rfl, .inl ⟨n0, rfl, .inl ⟨trivial, rfl⟩⟩⟩
        · refine .inl ⟨fun e => ?_, .inr hm⟩
          subst e
          exact hr n hm
      · rintro (⟨h1, ⟨rfl, rfl⟩ | hm⟩ | ⟨rfl, ⟨n', rfl, ⟨_, rfl⟩ | hm⟩ | ⟨rfl, hno⟩⟩)
        · exact absurd rfl h1
        · exact .inr hm
        · exact .inl ⟨rfl, rfl⟩
        · exact absurd hm (hr n')
        · exact absurd (.inl ⟨trivial, rfl⟩) (hno n0)
    · rename_i e
      refine ⟨?_, fun k' n => ?_⟩
      · simp only [List.map_cons, List.nodup_cons]
        refine ⟨fun hm => ?_, i1⟩
        obtain ⟨⟨k', n'⟩, h1, h2⟩ := List.mem_map.1 hm
        simp only at h2
        subst h2
        rcases (i2 k' n').1 h1 with ⟨_, h3⟩ | ⟨h3, _⟩
        · exact hr n' h3
        · exact e h3.symm
      · simp only [List.mem_cons, Prod.mk.injEq, i2]
        constructor
        · rintro (⟨rfl, rfl⟩ | ⟨h1, h2⟩ | ⟨rfl, ⟨n', rfl, h2⟩ | ⟨rfl, h2⟩⟩)
          · exact .inl ⟨fun e' => e e'.symm, .inl ⟨rfl, rfl⟩⟩
          · exact .inl ⟨h1, .inr h2⟩
          · exact .inr ⟨rfl, .inl ⟨n', rfl, .inr h2⟩⟩
          · refine .inr ⟨rfl, .inr ⟨rfl, fun n' h3 => ?_⟩⟩
            rcases h3 with ⟨h3, _⟩ | h3
            · exact e h3
            · exact h2 n' h3
        · rintro (⟨h1, ⟨rfl, rfl⟩ | h2⟩ | ⟨rfl, ⟨n', rfl, ⟨h2, _⟩ | h2⟩ | ⟨rfl, h2⟩⟩)
          · exact .inl ⟨rfl, rfl⟩
          · exact .inr (.inl ⟨h1, h2⟩)
          · exact absurd h2 e
          · exact .inr (.inr ⟨rfl, .inl ⟨n', rfl, h2⟩⟩)
          · exact .inr (.inr ⟨rfl, .inr ⟨rfl, fun n' h3 => h2 n' (.inr h3)⟩⟩)
theorem GoodP.add {m : PL} {ks : List K4} (h : GoodP m ks) (k : K4) : GoodP (add1 k m) (ks ++ [k]) := by
  obtain ⟨i1, i2⟩ := add1_mem (k := k) h.nd
  refine ⟨i1, fun k' n => ?_⟩
  rw [i2]
  simp only [List.count_append, List.mem_append, List.mem_singleton, h.mem]
  by_cases e : k' = k
  · subst e
    have hc : [k'].count k' = 1 := by simp
    rw [hc]
    constructor
    · rintro (⟨h1, _⟩ | ⟨_, ⟨n', rfl, rfl, h2⟩ | ⟨rfl, h2⟩⟩)
      · exact absurd rfl h1
      · exact ⟨rfl, .inr rfl⟩
      · refine ⟨?_, .inr rfl⟩
        have : k' ∉ ks := fun hm => h2 (ks.count k') ⟨rfl, hm⟩
        rw [List.count_eq_zero.2 this]
    · rintro ⟨rfl, _⟩
      refine .inr ⟨rfl, ?_⟩
      by_cases hm : k' ∈ ks
      · exact .inl ⟨_, rfl, rfl, hm⟩
      · exact .inr ⟨by rw [List.count_eq_zero.2 hm], fun n' h2 => hm h2.2⟩
  · have hc : [k].count k' = 0 := List.count_eq_zero.2 (by simpa using e)
    rw [hc]
    constructor
    · rintro (⟨_, rfl, h2⟩ | ⟨h1, _⟩)
      · exact ⟨rfl, .inl h2⟩
      · exact absurd h1 e
    · rintro ⟨rfl, h2 | h2⟩
      · exact .inl ⟨e, rfl, h2⟩
      · exact absurd h2 e
theorem mkP_good (ks : List K4) : GoodP (mkP ks) ks := by
  have : ∀ (r : List K4) (m : PL) (p : List K4), GoodP m p → GoodP (r.foldl (fun m k => add1 k m) m) (p ++ r) := by
    intro r
    induction r with
    | nil => intro m p h; simpa using h
    | cons k r ih =>
      intro m p h
      have := ih (add1 k m) (p ++ [k]) (h.add k)
      simpa using this
  have := this ks [] [] ⟨by simp, by simp⟩
  simpa [mkP] using this
theorem mkP_le {ks : List K4} {p : K4 × Nat} (h : p ∈ mkP ks) : p.2 ≤ ks.length := by
  obtain ⟨h1, _⟩ := ((mkP_good ks).mem p.1 p.2).1 h
  rw [h1]; exact List.count_le_length
theorem mkP_len (ks : List K4) : (mkP ks).length ≤ ks.length := by
  have : ∀ (r : List K4) (m : PL), (r.foldl (fun m k => add1 k m) m).length ≤ m.length + r.length := by
    intro r
    induction r with
    | nil => intro m; simp
    | cons k r ih =>
      intro m
      have h1 := ih (add1 k m)
      have h2 := add1_len k m
      simp only [List.foldl_cons, List.length_cons]
      omega
  simpa [mkP] using this ks []
def keysA (cs : List (List AV)) : Nat → List K4
  | 0 => []
  | k + 1 => keysA cs k ++ (bsA cs k).map kyA
theorem keysA_len (cs : List (List AV)) : ∀ k, (keysA cs k).length = totA cs k
  | 0 => rfl
  | k + 1 => by simp [keysA, totA, keysA_len cs k]
theorem inner6 {cs : List (List AV)} {t3 t21 t22 : Int} {bs : List (List AV)} {ks : List K4} (hl : ks.length + bs.length ≤ 100000) :
    i6naa_0 t3 cs t21 t22 bs (bs.length : Int) 0 ((mkP ks).map enA) = true ∧ v6naa_0_m8 t3 cs t21 t22 bs (bs.length : Int) 0 ((mkP ks).map enA) = (mkP (ks ++ bs.map kyA)).map enA := by
  have hr : ∃ y, r6naa t3 cs t21 t22 bs (bs.length : Int) 0 ((mkP ks).map enA) = some y ∧ (match y with | .x0 _ m => m = (mkP (ks ++ bs.map kyA)).map enA) := by
    unfold r6naa
    refine run_cnt bs.length (fun m x => x = (⟨(m : Int), (mkP (ks ++ (bs.take m).map kyA)).map enA⟩ : S6naa)) _ (fun m x hm hx => ?_) (fun x hx => ?_) _ (by simp)
    · subst hx
      have hlen := mkP_len (ks ++ (bs.take m).map kyA)
      have htk : (bs.take m).length ≤ bs.length := by simp; omega
      simp only [List.length_append, List.length_map] at hlen
      have hble : ((mkP (ks ++ (bs.take m).map kyA)).map enA).length.blt 9223372036854775807 = true := by
        rw [Nat.blt_eq, List.length_map]
        omega
      have hk : (AV.agg [AV.i IntKind.i64 (fI (bs.getD m []) 1), AV.i IntKind.i64 (fI (bs.getD m []) 2), AV.i IntKind.i64 (fI (bs.getD m []) 4), AV.i IntKind.i64 (fI (bs.getD m []) 5)]) = kA (kyA (bs.getD m [])) := rfl
      have hpos := mpos_en (kyA (bs.getD m [])) (mkP (ks ++ (bs.take m).map kyA))
      have hput := put_en (kyA (bs.getD m [])) (mkP (ks ++ (bs.take m).map kyA)) fun p hp => by
        have := mkP_le hp
        simp only [List.length_append, List.length_map] at this
        omega
      show LpOK _ _ (stp6naa t3 cs t21 t22 bs (bs.length : Int) (m : Int) ((mkP (ks ++ (bs.take m).map kyA)).map enA))
      unfold stp6naa
      simp only [lt_true hm, inb_true hm, cond_true, Int.toNat_natCast, wrap_succ (show m < 9223372036854775807 by omega), hble, hk, hput]
      have hd : (decide (0 ≤ ((mpos (kA (kyA (bs.getD m []))) ((mkP (ks ++ (bs.take m).map kyA)).map enA) : Nat) : Int)) && decide (((mpos (kA (kyA (bs.getD m []))) ((mkP (ks ++ (bs.take m).map kyA)).map enA) : Nat) : Int) < ((madd (kA (kyA (bs.getD m []))) (.i .i64 0) ((mkP (ks ++ (bs.take m).map kyA)).map enA)).length : Int))) = true := by
        simp only [Bool.and_eq_true, decide_eq_true_eq]
        omega
      rw [hd, cond_true]
      show (⟨_, _⟩ : S6naa) = _
      rw [← mkP_snoc]
      congr 2
      have : bs.take (m + 1) = bs.take m ++ [bs.getD m []] := by
        rw [List.take_add_one, List.getElem?_eq_getElem hm]
        simp [List.getD_eq_getElem?_getD, List.getElem?_eq_getElem hm]
      rw [this, List.map_append, ← List.append_assoc]
      rfl
    · subst hx
      show LpOK _ _ (stp6naa t3 cs t21 t22 bs (bs.length : Int) (bs.length : Int) ((mkP (ks ++ (bs.take bs.length).map kyA)).map enA))
      unfold stp6naa
      simp only [lt_false, cond_false]
      show _ = _
      rw [List.take_length]
  obtain ⟨y, hy, hq⟩ := hr
  cases y with
  | x0 a m =>
    simp only at hq
    subst hq
    exact ⟨by unfold i6naa_0; rw [hy], by unfold v6naa_0_m8; rw [hy]⟩
theorem map6 {cs : List (List AV)} (hn : cs.length ≤ 24) (ht : totA cs cs.length ≤ 100000) : i6na_0 0 cs (↑cs.length : Int) 0 [] = true ∧ M6 cs = (mkP (keysA cs cs.length)).map enA := by
  have hr : ∃ y, r6na 0 cs (cs.length : Int) 0 [] = some y ∧ (match y with | .x0 _ m => m = (mkP (keysA cs cs.length)).map enA) := by
    unfold r6na
    refine run_cnt cs.length (fun k x => x = (⟨(k : Int), (mkP (keysA cs k)).map enA⟩ : S6na)) _ (fun k x hk hx => ?_) (fun x hx => ?_) _ rfl
    · subst hx
      have hle := totA_mono cs (show k + 1 ≤ cs.length by omega)
      obtain ⟨h1, h2⟩ := inner6 (cs := cs) (t3 := 0) (t21 := (cs.length : Int)) (t22 := (k : Int)) (bs := bsA cs k) (ks := keysA cs k) (by rw [keysA_len]; simp only [totA] at hle; omega)
      show LpOK _ _ (stp6na 0 cs (cs.length : Int) (k : Int) ((mkP (keysA cs k)).map enA))
      unfold stp6na
      have hb : fE (cs.getD k []) 1 = bsA cs k := rfl
      simp only [lt_true hk, inb_true hk, cond_true, Int.toNat_natCast, wrap_succ (show k < 9223372036854775807 by omega), hb, h1, h2]
      rfl
    · subst hx
      show LpOK _ _ (stp6na 0 cs (cs.length : Int) (cs.length : Int) ((mkP (keysA cs cs.length)).map enA))
      unfold stp6na
      simp only [lt_false, cond_false]
      rfl
  obtain ⟨y, hy, hq⟩ := hr
  cases y with
  | x0 a m =>
    simp only at hq
    subst hq
    exact ⟨by unfold i6na_0; rw [hy], by unfold M6 v6na_0_m8; rw [hy]⟩
end Go.Proofs.Ytfbfohkgajeopac

set_option maxRecDepth 100000
set_option linter.unusedVariables false
namespace Go.Proofs.Ytfbfohkgajeopac
open Go Go.Ev

theorem cmp34 (a b : Int) : g34n a b = true ∧ w34n_0 a b = if a < b then -1 else if b < a then 1 else 0 := by
  have e : ∀ x : Int, w54n_0 x = false := fun x => by simp [w54n_0, t54n, Tr.val]
  unfold g34n w34n_0 t34n
  rw [e, e]
  by_cases h1 : a < b
  · simp [Tr.g, Tr.val, h1]
  · by_cases h2 : b < a
    · simp [Tr.g, Tr.val, h1, h2]
    · simp [Tr.g, Tr.val, h1, h2]
theorem or33 (a b c d : Int) : g33n a b c d = true ∧ w33n_0 a b c d = if a ≠ 0 then a else if b ≠ 0 then b else if c ≠ 0 then c else d := by
  have step : ∀ (k : Nat) (x : Int), k < 4 → fI ([[AV.i IntKind.i64 a], [AV.i IntKind.i64 b], [AV.i IntKind.i64 c], [AV.i IntKind.i64 d]].getD k []) 0 = x →
      stp33na 0 0 [[AV.i IntKind.i64 a], [AV.i IntKind.i64 b], [AV.i IntKind.i64 c], [AV.i IntKind.i64 d]] ((4 : Nat) : Int) (k : Int) = cond (x != 0) (.out (.x0 x (k : Int))) (.go ⟨((k + 1 : Nat) : Int)⟩) := by
    intro k x hk hx
    unfold stp33na
    have hk' : inb (k : Int) ([[AV.i IntKind.i64 a], [AV.i IntKind.i64 b], [AV.i IntKind.i64 c], [AV.i IntKind.i64 d]] : List (List AV)).length = true := inb_true hk
    simp only [lt_true hk, hk', cond_true, Int.toNat_natCast, hx, wrap_succ (show k < 9223372036854775807 by omega)]
  have hend : stp33na 0 0 [[AV.i IntKind.i64 a], [AV.i IntKind.i64 b], [AV.i IntKind.i64 c], [AV.i IntKind.i64 d]] ((4 : Nat) : Int) ((4 : Nat) : Int) = .out (.x1 ((4 : Nat) : Int)) := by
    unfold stp33na
    simp only [lt_false, cond_false]
  have hr : ∃ y, r33na 0 0 [[AV.i IntKind.i64 a], [AV.i IntKind.i64 b], [AV.i IntKind.i64 c], [AV.i IntKind.i64 d]] ((4 : Nat) : Int) 0 = some y ∧ (match y with
      | .x0 v _ => v = if a ≠ 0 then a else if b ≠ 0 then b else if c ≠ 0 then c else d
      | .x1 _ => a = 0 ∧ b = 0 ∧ c = 0 ∧ d = 0) := by
    unfold r33na
    refine run_cnt 4 (fun k x => x = (⟨(k : Int)⟩ : S33na) ∧ (0 < k → a = 0) ∧ (1 < k → b = 0) ∧ (2 < k → c = 0) ∧ (3 < k → d = 0)) _ (fun k x hk hx => ?_) (fun x hx => ?_) _ ⟨rfl, by omega, by omega, by omega, by omega⟩
    · obtain ⟨rfl, h1, h2, h3, h4⟩ := hx
      show LpOK _ _ (stp33na 0 0 _ ((4 : Nat) : Int) (k : Int))
      match k, hk with
      | 0, _ =>
        rw [step 0 a (by omega) rfl]
        refine .cond (fun h => ?_) (fun h => ?_)
        · have : a ≠ 0 := by simpa using h
          show a = _
          rw [if_pos this]
        · have : a = 0 := by simpa using h
          exact ⟨rfl, by omega, by omega, by omega, by omega⟩
      | 1, _ =>
        rw [step 1 b (by omega) rfl]
        have ha := h1 (by omega)
        refine .cond (fun h => ?_) (fun h => ?_)
        · have : b ≠ 0 := by simpa using h
          show b = _
          rw [if_neg (by omega), if_pos this]
        · have : b = 0 := by simpa using h
          exact ⟨rfl, by omega, by omega, by omega, by omega⟩
      | 2, _ =>
        rw [step 2 c (by omega) rfl]
        have ha := h1 (by omega)
        have hb := h2 (by omega)
        refine .cond (fun h => ?_) (fun h => ?_)
        · have : c ≠ 0 := by simpa using h
          show c = _
          rw [if_neg (by omega), if_neg (by omega), if_pos this]
        · have : c = 0 := by simpa using h
          exact ⟨rfl, by omega, by omega, by omega, by omega⟩
      | 3, _ =>
        rw [step 3 d (by omega) rfl]
        have ha := h1 (by omega)
        have hb := h2 (by omega)
        have hc := h3 (by omega)
        refine .cond (fun h => ?_) (fun h => ?_)
        · show d = _
          rw [if_neg (by omega), if_neg (by omega), if_neg (by omega)]
        · have : d = 0 := by simpa using h
          exact ⟨rfl, by omega, by omega, by omega, by omega⟩
    · obtain ⟨rfl, h1, h2, h3, h4⟩ := hx
      show LpOK _ _ (stp33na 0 0 _ ((4 : Nat) : Int) ((4 : Nat) : Int))
      rw [hend]
      exact ⟨h1 (by omega), h2 (by omega), h3 (by omega), h4 (by omega)⟩
  obtain ⟨y, hy, hq⟩ := hr
  unfold g33n w33n_0 t33n
  have hy' : r33na 0 0 [[AV.i IntKind.i64 a], [AV.i IntKind.i64 b], [AV.i IntKind.i64 c], [AV.i IntKind.i64 d]] (↑[[AV.i IntKind.i64 a], [AV.i IntKind.i64 b], [AV.i IntKind.i64 c], [AV.i IntKind.i64 d]].length : Int) 0 = some y := hy
  unfold i33na_0 i33na_1 v33na_0_t2'
  rw [hy']
  cases y with
  | x0 v t => exact ⟨rfl, hq⟩
  | x1 t =>
    obtain ⟨h1, h2, h3, h4⟩ := hq
    refine ⟨rfl, ?_⟩
    show (0 : Int) = _
    simp [h1, h2, h3, h4]
def ltK (a b : K4) : Prop := a.w < b.w ∨ (a.w = b.w ∧ (a.l < b.l ∨ (a.l = b.l ∧ (a.t < b.t ∨ (a.t = b.t ∧ a.h < b.h)))))
instance (a b : K4) : Decidable (ltK a b) := inferInstanceAs (Decidable (_ ∨ _))
theorem ltK_trans {a b c : K4} (h1 : ltK a b) (h2 : ltK b c) : ltK a c := by unfold ltK at *; omega
theorem ltK_irrefl (a : K4) : ¬ ltK a a := by unfold ltK; omega
theorem ltK_or {a b : K4} (h : a ≠ b) : ltK a b ∨ ltK b a := by
  unfold ltK
  rcases Int.lt_trichotomy a.w b.w with h1 | h1 | h1
  · exact .inl (.inl h1)
  · rcases Int.lt_trichotomy a.l b.l with h2 | h2 | h2
    · exact .inl (by omega)
    · rcases Int.lt_trichotomy a.t b.t with h3 | h3 | h3
      · exact .inl (by omega)
      · rcases Int.lt_trichotomy a.h b.h with h4 | h4 | h4
        · exact .inl (by omega)
        · exfalso
          apply h
          cases a; cases b
          simp_all
        · exact .inr (by omega)
      · exact .inr (by omega)
    · exact .inr (by omega)
  · exact .inr (.inl h1)
theorem less18 (a b : K4) (x y : Int) : g18n a.w a.l a.t a.h x b.w b.l b.t b.h y = true ∧ (decide (w18n_0 a.w a.l a.t a.h x b.w b.l b.t b.h y < 0)) = decide (ltK a b) := by
  have e1 : g19n a.w a.l a.t a.h b.w b.l b.t b.h = true ∧ w19n_0 a.w a.l a.t a.h b.w b.l b.t b.h = w33n_0 (w34n_0 a.w b.w) (w34n_0 a.l b.l) (w34n_0 a.t b.t) (w34n_0 a.h b.h) := by
    unfold g19n w19n_0 t19n
    rw [(cmp34 _ _).1, (cmp34 _ _).1, (cmp34 _ _).1, (cmp34 _ _).1, (or33 _ _ _ _).1]
    exact ⟨rfl, rfl⟩
  unfold g18n w18n_0 t18n
  rw [e1.1]
  refine ⟨rfl, ?_⟩
  show decide (w19n_0 a.w a.l a.t a.h b.w b.l b.t b.h < 0) = _
  rw [e1.2, (or33 _ _ _ _).2, (cmp34 _ _).2, (cmp34 _ _).2, (cmp34 _ _).2, (cmp34 _ _).2]
  refine decide_eq_decide.2 ?_
  unfold ltK
  repeat' split
  all_goals omega
end Go.Proofs.Ytfbfohkgajeopac

set_option maxRecDepth 100000
set_option linter.unusedVariables false
namespace Go.Proofs.Ytfbfohkgajeopac
open Go Go.Ev

def rowP (p : K4 × Nat) : List AV := [.i .i64 p.1.w, .i .i64 p.1.l, .i .i64 p.1.t, .i .i64 p.1.h, .i .i64 p.2]
def gP (l : PL) (i : Nat) : K4 × Nat := l.getD i default
theorem gP_at {l : PL} {i : Nat} (h : i < l.length) : gP l i = l[i] := by simp [gP, List.getD_eq_getElem?_getD, h]
theorem rows_at {l : PL} {i : Nat} (h : i < l.length) : (l.map rowP).getD i [] = rowP (gP l i) := by simp [gP, List.getD_eq_getElem?_getD, h]
def swp (l : PL) (j : Nat) : PL := (l.set j (gP l (j - 1))).set (j - 1) (gP l j)
theorem swp_perm {l : PL} {j : Nat} (h : j < l.length) : (swp l j).Perm l := by
  unfold swp
  rw [gP_at h, gP_at (show j - 1 < l.length by omega)]
  exact List.set_set_perm h (by omega)
theorem swp_get {l : PL} {j : Nat} (h : j < l.length) (h0 : 0 < j) (i : Nat) : gP (swp l j) i = if i = j then gP l (j - 1) else if i = j - 1 then gP l j else gP l i := by
  unfold swp
  simp only [gP, List.getD_eq_getElem?_getD, List.getElem?_set]
  by_cases e1 : i = j
  · subst e1
    have : ¬ (i - 1 = i) := by omega
    simp [this, h]
  · by_cases e2 : i = j - 1
    · subst e2
      have : j - 1 < l.length := by omega
      simp [e1, this]
    · have h1 : ¬ (j - 1 = i) := fun e => e2 e.symm
      have h2 : ¬ (j = i) := fun e => e1 e.symm
      simp [e1, e2, h1, h2]
theorem setCs_row (p q : K4 × Nat) : setCs (rowP p) 0 [.i .i64 q.1.w, .i .i64 q.1.l, .i .i64 q.1.t, .i .i64 q.1.h, .i .i64 q.2] = rowP q := rfl
theorem step44 {l : PL} {b t8 : Int} {j : Nat} (h : j < l.length) (hl : l.length ≤ 1000) (h0 : 0 < j) : stp44naa l.length 0 b t8 (j : Int) (l.map rowP) =
    cond (decide (ltK (gP l j).1 (gP l (j - 1)).1)) (.go ⟨((j - 1 : Nat) : Int), (swp l j).map rowP⟩) (.out (.x0 (j : Int) (l.map rowP))) := by
  have h1 : j - 1 < l.length := by omega
  have ew : IntKind.i64.wrap ((j : Int) - 1) = ((j - 1 : Nat) : Int) := by rw [wrap64 (by omega) (by omega)]; omega
  have d1 : decide ((j : Int) > 0) = true := decide_eq_true (by omega)
  have b1 : Nat.blt (0 + j) (l.map rowP).length = true := by rw [Nat.blt_eq, List.length_map]; omega
  have b2 : Nat.blt (0 + (j - 1)) (l.map rowP).length = true := by rw [Nat.blt_eq, List.length_map]; omega
  have s1 : ∀ q : K4 × Nat, (l.map rowP).set j (rowP q) = (l.set j q).map rowP := fun q => (List.map_set ..).symm
  obtain ⟨e1, e2⟩ := less18 (gP l j).1 (gP l (j - 1)).1 (gP l j).2 (gP l (j - 1)).2
  have f0 : ∀ p : K4 × Nat, fI (rowP p) 0 = p.1.w := fun _ => rfl
  have f1 : ∀ p : K4 × Nat, fI (rowP p) 1 = p.1.l := fun _ => rfl
  have f2 : ∀ p : K4 × Nat, fI (rowP p) 2 = p.1.t := fun _ => rfl
  have f3 : ∀ p : K4 × Nat, fI (rowP p) 3 = p.1.h := fun _ => rfl
  have f4 : ∀ p : K4 × Nat, fI (rowP p) 4 = p.2 := fun _ => rfl
  have r2 : ∀ q : K4 × Nat, ((l.set j q).map rowP).getD (j - 1) [] = rowP (gP (l.set j q) (j - 1)) := fun q => rows_at (by simpa using h1)
  have b3 : ∀ q : K4 × Nat, Nat.blt (0 + (j - 1)) ((l.set j q).map rowP).length = true := fun q => by rw [Nat.blt_eq, List.length_map, List.length_set]; omega
  have s2 : ∀ q r : K4 × Nat, ((l.set j q).map rowP).set (j - 1) (rowP r) = ((l.set j q).set (j - 1) r).map rowP := fun q r => (List.map_set ..).symm
  simp only [Nat.zero_add] at b1 b2 b3
  unfold stp44naa
  simp only [ew, Int.toNat_natCast, Nat.zero_add, d1, inb_true h, inb_true h1, b1, b2, Bool.true_and, cond_true, rows_at h, rows_at h1, f0, f1, f2, f3, f4, e1, e2, setCs_row, s1, r2, b3, s2]
  rfl
theorem step44_0 {l : PL} {b t8 : Int} : stp44naa l.length 0 b t8 ((0 : Nat) : Int) (l.map rowP) = .out (.x0 ((0 : Nat) : Int) (l.map rowP)) := by
  unfold stp44naa
  have : decide ((((0 : Nat) : Int)) > 0) = false := by decide
  rw [this]; rfl
def Srt (l : PL) (i : Nat) : Prop := ∀ p q, p < q → q < i → ltK (gP l p).1 (gP l q).1
theorem keys_ne {l : PL} (h : (l.map (·.1)).Nodup) {p q : Nat} (hp : p < l.length) (hq : q < l.length) (e : p ≠ q) : (gP l p).1 ≠ (gP l q).1 := by
  rw [gP_at hp, gP_at hq]
  intro e'
  have := (List.pairwise_iff_getElem.1 h)
  rcases Nat.lt_or_gt_of_ne e with h1 | h1
  · exact this p q (by simpa using hp) (by simpa using hq) h1 (by simpa using e')
  · exact this q p (by simpa using hq) (by simpa using hp) h1 (by simpa using e'.symm)
theorem inner44 {l0 : PL} {b t8 : Int} {i : Nat} (hi : i < l0.length) (hl : l0.length ≤ 1000) (hnd : (l0.map (·.1)).Nodup) (hs : Srt l0 i) :
    ∃ l1 : PL, l1.Perm l0 ∧ Srt l1 (i + 1) ∧ i44naa_0 l0.length 0 b t8 (i : Int) (l0.map rowP) = true ∧ v44naa_0_m0 l0.length 0 b t8 (i : Int) (l0.map rowP) = l1.map rowP := by
  have hr : ∃ y, r44naa l0.length 0 b t8 (i : Int) (l0.map rowP) = some y ∧ (match y with | .x0 _ m => ∃ l1 : PL, l1.Perm l0 ∧ Srt l1 (i + 1) ∧ m = l1.map rowP) := by
    unfold r44naa
    refine run_fall (fun x => x.t9.toNat) (fun x => ∃ (j : Nat) (l : PL), x = (⟨(j : Int), l.map rowP⟩ : S44naa) ∧ j ≤ i ∧ l.Perm l0 ∧ (∀ p q, p < q → q ≤ i → p ≠ j → q ≠ j → ltK (gP l p).1 (gP l q).1) ∧ ∀ q, j < q → q ≤ i → ltK (gP l j).1 (gP l q).1) _
      (fun x hx => ?_) _ ⟨i, l0, rfl, Nat.le_refl _, .refl _, fun p q h1 h2 h3 h4 => hs p q h1 (by omega), fun q h1 h2 => by omega⟩
    obtain ⟨j, l, rfl, hj, hp, hA, hB⟩ := hx
    have hlen : l.length = l0.length := hp.length_eq
    have hjl : j < l.length := by omega
    rw [← hlen]
    show LpOK _ _ (stp44naa l.length 0 b t8 (j : Int) (l.map rowP))
    rcases Nat.eq_zero_or_pos j with rfl | h0
    · rw [step44_0]
      refine ⟨l, hp, fun p q h1 h2 => ?_, rfl⟩
      by_cases e : p = 0
      · subst e; exact hB q h1 (by omega)
      · exact hA p q h1 (by omega) e (by omega)
    · rw [step44 hjl (by omega) h0]
      refine .cond (fun h => ?_) (fun h => ?_)
      · have h := of_decide_eq_true h
        refine ⟨⟨j - 1, swp l j, rfl, by omega, (swp_perm hjl).trans hp, fun p q h1 h2 h3 h4 => ?_, fun q h1 h2 => ?_⟩, by show ((j - 1 : Nat) : Int).toNat < ((j : Nat) : Int).toNat; omega⟩
        · rw [swp_get hjl h0, swp_get hjl h0, if_neg h3, if_neg h4]
          by_cases e1 : p = j
          · rw [if_pos e1, if_neg (show ¬ q = j by omega)]
            exact hA (j - 1) q (by omega) h2 (by omega) (by omega)
          · rw [if_neg e1]
            by_cases e2 : q = j
            · rw [if_pos e2]
              exact hA p (j - 1) (by omega) (by omega) e1 (by omega)
            · rw [if_neg e2]
              exact hA p q h1 h2 e1 e2
        · rw [swp_get hjl h0, swp_get hjl h0, if_neg (show ¬ (j - 1 = j) by omega), if_pos rfl]
          by_cases e2 : q = j
          · rw [if_pos e2]; exact h
          · rw [if_neg e2, if_neg (show ¬ q = j - 1 by omega)]
            exact hB q (by omega) h2
      · have h := of_decide_eq_false h
        have hnd' : (l.map (·.1)).Nodup := (hp.map _).nodup_iff.2 hnd
        have hlt : ltK (gP l (j - 1)).1 (gP l j).1 := by
          rcases ltK_or (keys_ne hnd' (show j - 1 < l.length by omega) hjl (by omega)) with h' | h'
          · exact h'
          · exact absurd h' h
        refine ⟨l, hp, fun p q h1 h2 => ?_, rfl⟩
        by_cases e1 : p = j
        · subst e1; exact hB q h1 (by omega)
        · by_cases e2 : q = j
          · subst e2
            by_cases e3 : p = q - 1
            · subst e3; exact hlt
            · exact ltK_trans (hA p (q - 1) (by omega) (by omega) e1 (by omega)) hlt
          · exact hA p q h1 (by omega) e1 e2
  obtain ⟨y, hy, hq⟩ := hr
  cases y with
  | x0 t m =>
    obtain ⟨l1, h1, h2, h3⟩ := hq
    exact ⟨l1, h1, h2, by unfold i44naa_0; rw [hy], by unfold v44naa_0_m0; rw [hy]; exact h3⟩
theorem sort17 {l0 : PL} (hl : l0.length ≤ 12) (hnd : (l0.map (·.1)).Nodup) : g17n l0.length (l0.map rowP) = true ∧ ∃ l1 : PL, l1.Perm l0 ∧ Srt l1 l0.length ∧ w17n_0 l0.length (l0.map rowP) = l1.map rowP := by
  have hr : ∃ y, r44na l0.length 0 (l0.length : Int) 1 (l0.map rowP) = some y ∧ (match y with | .x0 _ m => ∃ l1 : PL, l1.Perm l0 ∧ Srt l1 l0.length ∧ m = l1.map rowP) := by
    unfold r44na
    refine run_fall (fun x => l0.length + 1 - x.t8.toNat) (fun x => ∃ (i : Nat) (l : PL), x = (⟨(i : Int), l.map rowP⟩ : S44na) ∧ 1 ≤ i ∧ i ≤ l0.length + 1 ∧ l.Perm l0 ∧ Srt l i) _ (fun x hx => ?_) _ ⟨1, l0, rfl, Nat.le_refl _, by omega, .refl _, fun p q h1 h2 => by omega⟩
    obtain ⟨i, l, rfl, hi1, hi2, hp, hs⟩ := hx
    have hlen : l.length = l0.length := hp.length_eq
    show LpOK _ _ (stp44na l0.length 0 (l0.length : Int) (i : Int) (l.map rowP))
    unfold stp44na
    refine .cond (fun h => ?_) (fun h => ?_)
    · have h : i < l0.length := by have := of_decide_eq_true h; omega
      obtain ⟨l1, h1, h2, h3, h4⟩ := inner44 (b := (l0.length : Int)) (t8 := (i : Int)) (show i < l.length by omega) (by omega) ((hp.map _).nodup_iff.2 hnd) hs
      rw [hlen] at h3 h4
      rw [h3, cond_true, h4, wrap_succ (show i < 9223372036854775807 by omega)]
      exact ⟨⟨i + 1, l1, rfl, by omega, by omega, h1.trans hp, h2⟩, by show l0.length + 1 - ((i + 1 : Nat) : Int).toNat < l0.length + 1 - ((i : Nat) : Int).toNat; omega⟩
    · have h : l0.length ≤ i := by have := of_decide_eq_false h; omega
      exact ⟨l, hp, fun p q h1 h2 => hs p q h1 (by omega), rfl⟩
  obtain ⟨y, hy, hq⟩ := hr
  cases y with
  | x0 t m =>
    obtain ⟨l1, h1, h2, h3⟩ := hq
    have w1 : IntKind.i64.wrap (0 + 1) = 1 := rfl
    have g44 : g44n l0.length 0 (l0.length : Int) (l0.map rowP) = true ∧ w44n_0 l0.length 0 (l0.length : Int) (l0.map rowP) = l1.map rowP := by
      unfold g44n w44n_0 t44n i44na_0 v44na_0_m0
      rw [w1, hy]
      exact ⟨rfl, h3⟩
    have lw : IntKind.u64.wrap (l0.length : Int) = (l0.length : Int) := by
      simp only [IntKind.wrap, IntKind.signed, IntKind.bits]
      simp
      omega
    have hstep : stp31na l0.length 0 (l0.length : Int) (lenT (l0.length : Int)) true true (l0.map rowP) = .out (.x0 (l1.map rowP)) := by
      unfold stp31na
      have e : decide (IntKind.i64.wrap ((l0.length : Int) - 0) ≤ 12) = true := decide_eq_true (by rw [wrap64 (by omega) (by omega)]; omega)
      rw [e, g44.1, g44.2]
      rfl
    have g31 : g31n l0.length (l0.length : Int) (lenT (l0.length : Int)) (l0.map rowP) = true ∧ w31n_0 l0.length (l0.length : Int) (lenT (l0.length : Int)) (l0.map rowP) = l1.map rowP := by
      have hr31 : r31na l0.length 0 (l0.length : Int) (lenT (l0.length : Int)) true true (l0.map rowP) = some (.x0 (l1.map rowP)) := by
        unfold r31na
        exact run_out hstep
      unfold g31n w31n_0 t31n i31na_0 v31na_0_m0
      rw [hr31]
      exact ⟨rfl, rfl⟩
    unfold g17n w17n_0 t17n
    rw [lw, g31.1, g31.2]
    have e : (decide (0 ≤ (l0.length : Int)) && decide ((l0.length : Int) ≤ 12)) = true := by simp only [Bool.and_eq_true, decide_eq_true_eq]; omega
    rw [e]
    exact ⟨rfl, l1, h1, h2, rfl⟩
theorem srt_pair {l : PL} (h : Srt l l.length) : l.Pairwise (fun a b => ltK a.1 b.1) := by
  rw [List.pairwise_iff_getElem]
  intro i j hi hj hij
  have := h i j hij hj
  rwa [gP_at hi, gP_at hj] at this
theorem pair_uniq : ∀ {l1 l2 : PL}, l1.Pairwise (fun a b => ltK a.1 b.1) → l2.Pairwise (fun a b => ltK a.1 b.1) → l1.Perm l2 → l1 = l2
  | [], l2, _, _, hp => (List.nil_perm.1 hp).symm
  | a :: l1, [], _, _, hp => by have := hp.length_eq; simp at this
  | a :: l1, b :: l2, h1, h2, hp => by
    rw [List.pairwise_cons] at h1 h2
    have hab : a = b := by
      have ha : a ∈ b :: l2 := hp.mem_iff.1 (by simp)
      have hb : b ∈ a :: l1 := hp.mem_iff.2 (by simp)
      rcases List.mem_cons.1 ha with rfl | ha
      · rfl
      · rcases List.mem_cons.1 hb with rfl | hb
        · rfl
        · exact absurd (ltK_trans (h1.1 b hb) (h2.1 a ha)) (ltK_irrefl _)
    subst hab
    rw [pair_uniq h1.2 h2.2 hp.cons_inv]
end Go.Proofs.Ytfbfohkgajeopac

set_option maxRecDepth 100000
set_option linter.unusedVariables false
namespace Go.Proofs.Ytfbfohkgajeopac
open Go Go.Ev

noncomputable def c55 : Code := match Try.f26.body with | some c => c | _ => .skip
theorem lok55 : LOK Try.prog S0 (ro 26) (fun _ _ => none) 0 false c55 [] :=
  lok_lo (fun _ _ _ _ _ _ _ h _ => by cases h) c55 [] false (locate_nil _) (by kernel_rfl)
noncomputable def t55 (a b c : Int) : Tr ((Bool)) :=
  .cn (decide (b ≤ a)) (.lf (decide (a ≤ c))) (.lf (false))
noncomputable def g55 (a b c : Int) : Bool := (t55 a b c).g
noncomputable def w55_0 (a b c : Int) : Bool := (t55 a b c).val
theorem eq55 (a b c : Int) : evF Try.prog S0 (ro 26) (fun _ _ => none) Try.f26 [.i .i64 a, .i .i64 b, .i .i64 c] = (t55 a b c).opt (fun (x : (Bool)) => (.b x : AV)) := by kernel_rfl
theorem con55 (a b c : Int) (h : g55 a b c = true) : Con Try.prog 26 [.i .i64 a, .i .i64 b, .i .i64 c] [] (.b (w55_0 a b c)) [] :=
  con_of S0_ok mixed Try.func26 (c := c55) rfl (names 26 _ Try.func26) lok55 ((eq55 a b c).trans (Tr.sound _ _ h))
noncomputable def e55 (args : List AV) (rows : List Blk) : Option (Bool × AV × List Blk) := match args, rows with
  | [.i .i64 a, .i .i64 b, .i .i64 c], [] => some (g55 a b c, .b (w55_0 a b c), [])
  | _, _ => none
theorem e55_ok (args : List AV) (rows : List Blk) (pre : Bool) (v : AV) (rows' : List Blk) (h : e55 args rows = some (pre, v, rows')) (hp : pre = true) : Con Try.prog 26 args rows v rows' := by
  unfold e55 at h
  split at h
  · cases h; exact con55 _ _ _ hp
  · cases h
-- SPEC 55
end Go.Proofs.Ytfbfohkgajeopac

set_option maxRecDepth 100000
set_option linter.unusedVariables false
namespace Go.Proofs.Ytfbfohkgajeopac
open Go Go.Ev
end Go.Proofs.Ytfbfohkgajeopac
set_option maxRecDepth 100000
set_option linter.unusedVariables false
namespace Go.Proofs.Ytfbfohkgajeopac
open Go Go.Ev
end Go.Proofs.Ytfbfohkgajeopac
set_option maxRecDepth 100000
set_option linter.unusedVariables false
namespace Go.Proofs.Ytfbfohkgajeopac
open Go Go.Ev
theorem g55_true (a b c : Int) : g55 a b c = true := by
  unfold g55 t55
  cases decide (b ≤ a) <;> rfl
theorem w55_eq (a b c : Int) : w55_0 a b c = (decide (b ≤ a) && decide (a ≤ c)) := by
  unfold w55_0 t55
  cases decide (b ≤ a) <;> rfl
end Go.Proofs.Ytfbfohkgajeopac

set_option maxRecDepth 100000
set_option linter.unusedVariables false
namespace Go.Proofs.Ytfbfohkgajeopac
open Go Go.Ev
theorem WT_sl {a : AV} {e : TypeId} (h : WT Try.prog (.sl e) a) : ∃ es, a = .rs e es ∧ es.length ≤ 9223372036854775807 ∧ (∀ x, x ∈ es → x.length = (cts Try.prog e).length) ∧ (∀ x, x ∈ es → ∀ j, j < x.length → WT Try.prog ((cts Try.prog e).getD j .oth) (x.getD j .u)) := by
  cases h with
  | sl h1 h2 h3 => exact ⟨_, rfl, h1, h2, h3⟩
theorem ty_agg {a : AV} {t : TypeId} {c : List CT} (hA : Ev.isAgg Try.prog t = true) (hc : cts Try.prog t = c) (h : TyArg Try.prog t a) : ∃ bs, a = .agg bs ∧ WTs Try.prog c bs := by
  rcases h with ⟨_, as1, rfl, h⟩ | ⟨h, _⟩
  · exact ⟨as1, rfl, hc ▸ h⟩
  · rw [hA] at h; cases h
theorem WTs_cons {c : CT} {cs : List CT} {bs : List AV} (h : WTs Try.prog (c :: cs) bs) : ∃ a r, bs = a :: r ∧ WT Try.prog c a ∧ WTs Try.prog cs r := by
  obtain ⟨h1, h2⟩ := h
  cases bs with
  | nil => simp at h1
  | cons a r =>
    refine ⟨a, r, rfl, by simpa using h2 0 (by simp), by simpa using h1, fun j hj => ?_⟩
    simpa using h2 (j + 1) (by simpa using hj)
theorem WTs_nil {bs : List AV} (h : WTs Try.prog [] bs) : bs = [] := by simpa using h.1
theorem tyArgs_cons {t : TypeId} {ts : List TypeId} {bs : List AV} (h : TyArgs Try.prog (t :: ts) bs) : ∃ a r, bs = a :: r ∧ TyArg Try.prog t a ∧ TyArgs Try.prog ts r := by
  cases bs with
  | nil => cases h
  | cons a r => exact ⟨a, r, rfl, h.1, h.2⟩
theorem tyArgs_nil {bs : List AV} (h : TyArgs Try.prog [] bs) : bs = [] := by
  cases bs with
  | nil => rfl
  | cons a r => cases h
end Go.Proofs.Ytfbfohkgajeopac

set_option maxRecDepth 100000
set_option linter.unusedVariables false
namespace Go.Proofs.Ytfbfohkgajeopac
open Go Go.Ev

noncomputable def c28 : Code := match Try.f11.body with | some c => c | _ => .skip
noncomputable def lp28a : Code := loopAt c28 [true, true, false, true, false]
noncomputable def s28a (xs ys : List (List AV)) (t4 : Bool) (t5 : Int) : St :=
  { t := [(0, .rs 3 xs), (1, .rs 3 ys), (4, .b t4), (5, .i .i64 t5)], m := [], nx := 0, nt := 26 }
structure S28a where
  t5 : Int
inductive T28a where
  | x0 (t4' : Bool) (t5 : Int)
  | x1 (t5 : Int)
noncomputable def stp28a (xs ys : List (List AV)) (t4 : Bool) (t5 : Int) : Lp S28a T28a :=
  cond (decide (t5 < (↑xs.length : Int))) (cond (inb t5 xs.length) (cond (inb t5 ys.length) (cond (fI (xs.getD t5.toNat []) 0 != fI (ys.getD t5.toNat []) 0) (.out (.x0 false t5)) (.go ⟨IntKind.i64.wrap (t5 + 1)⟩)) (.bad)) (.bad)) (.out (.x1 t5))
noncomputable def o28a_0 (xs ys : List (List AV)) (t4 t4' : Bool) (t5 : Int) : St :=
  { t := [(0, .rs 3 xs), (1, .rs 3 ys), (4, .b t4'), (5, .i .i64 t5)], m := [], nx := 0, nt := 26 }
noncomputable def o28a_1 (xs ys : List (List AV)) (t4 : Bool) (t5 : Int) : St :=
  { t := [(0, .rs 3 xs), (1, .rs 3 ys), (4, .b t4), (5, .i .i64 t5)], m := [], nx := 0, nt := 26 }
noncomputable def ou28a (xs ys : List (List AV)) (t4 : Bool) : T28a → Ex × St
  | .x0 t4' t5 => (.ret, o28a_0 xs ys t4 t4' t5)
  | .x1 t5 => (.ext 0, o28a_1 xs ys t4 t5)
noncomputable def r28a (xs ys : List (List AV)) (t4 : Bool) (t5 : Int) : Option T28a := run (fun x => stp28a xs ys t4 x.t5) (⟨t5⟩ : S28a)
noncomputable def i28a_0 (xs ys : List (List AV)) (t4 : Bool) (t5 : Int) : Bool := match r28a xs ys t4 t5 with
  | some (.x0 _ _) => true
  | _ => false
noncomputable def v28a_0_t4' (xs ys : List (List AV)) (t4 : Bool) (t5 : Int) : Bool := match r28a xs ys t4 t5 with
  | some (.x0 t4' _) => t4'
  | _ => default
noncomputable def v28a_0_t5 (xs ys : List (List AV)) (t4 : Bool) (t5 : Int) : Int := match r28a xs ys t4 t5 with
  | some (.x0 _ t5) => t5
  | _ => default
noncomputable def i28a_1 (xs ys : List (List AV)) (t4 : Bool) (t5 : Int) : Bool := match r28a xs ys t4 t5 with
  | some (.x1 _) => true
  | _ => false
noncomputable def v28a_1_t5 (xs ys : List (List AV)) (t4 : Bool) (t5 : Int) : Int := match r28a xs ys t4 t5 with
  | some (.x1 t5) => t5
  | _ => default
noncomputable def l28a (st : St) : Option (List (Bool × Ex × St)) := match normW Try.prog [(0, none), (1, none), (4, none), (5, none)] 0 st with
  | some ([.rs 3 xs, .rs 3 ys, .b t4, .i .i64 t5], [], 0, 26) => some [(i28a_0 xs ys t4 t5, .ret, o28a_0 xs ys t4 (v28a_0_t4' xs ys t4 t5) (v28a_0_t5 xs ys t4 t5)), (i28a_1 xs ys t4 t5, .ext 0, o28a_1 xs ys t4 (v28a_1_t5 xs ys t4 t5))]
  | _ => none
noncomputable def L28 : LSpec := fun p st => match p with
  | [false, true, false, true, true] => l28a st
  | _ => none
theorem is28a_0 (xs ys : List (List AV)) (t4 : Bool) (t5 : Int) (h : i28a_0 xs ys t4 t5 = true) : r28a xs ys t4 t5 = some (.x0 (v28a_0_t4' xs ys t4 t5) (v28a_0_t5 xs ys t4 t5)) := by
  unfold i28a_0 at h
  unfold v28a_0_t4' v28a_0_t5
  generalize r28a xs ys t4 t5 = r at h ⊢
  rcases r with _ | y
  · cases h
  · cases y <;> first | rfl | cases h
theorem is28a_1 (xs ys : List (List AV)) (t4 : Bool) (t5 : Int) (h : i28a_1 xs ys t4 t5 = true) : r28a xs ys t4 t5 = some (.x1 (v28a_1_t5 xs ys t4 t5)) := by
  unfold i28a_1 at h
  unfold v28a_1_t5
  generalize r28a xs ys t4 t5 = r at h ⊢
  rcases r with _ | y
  · cases h
  · cases y <;> first | rfl | cases h
theorem round28a (xs ys : List (List AV)) (t4 : Bool) (t5 : Int) : round Try.prog S0 (ro 11) L28 lp28a [false, true, false, true, true] [(0, none), (1, none), (4, none), (5, none)] 0 (s28a xs ys t4 t5) =
    cond (decide (t5 < (↑xs.length : Int))) (cond (inb t5 xs.length) (cond (inb t5 ys.length) (cond (fI (xs.getD t5.toNat []) 0 != fI (ys.getD t5.toNat []) 0) (some (.ret, o28a_0 xs ys t4 false t5)) (some (.nrm, s28a xs ys t4 (IntKind.i64.wrap (t5 + 1))))) (none)) (none)) (some (.ext 0, o28a_1 xs ys t4 t5)) := by kernel_rfl
theorem rnd28a (xs ys : List (List AV)) (t4 : Bool) (x : S28a) : round Try.prog S0 (ro 11) L28 lp28a [false, true, false, true, true] [(0, none), (1, none), (4, none), (5, none)] 0 ((fun x => s28a xs ys t4 x.t5) x) = toR (fun x => s28a xs ys t4 x.t5) (ou28a xs ys t4) (stp28a xs ys t4 x.t5) := by
  refine (round28a _ _ _ _ ).trans ?_
  unfold stp28a
  simp only [toR_cond]
  rfl
theorem lok28a {st : St} {outs : List (Bool × Ex × St)} {e : Ex} {s : St} (hl : l28a st = some outs) (hch : Chosen outs e s) :
    ∃ keep nb, 0 ≤ nb ∧ LB Try.prog S0 (ro 11) L28 lp28a [false, true, false, true, true] keep nb st e s := by
  unfold l28a at hl
  split at hl
  · rename_i xs ys t4 t5 hno
    cases hl
    have hno := normW_norm hno
    refine ⟨_, _, ?_, .enter hno ?_⟩
    · decide
    have main := fun y h => LB_run (x := (⟨t5⟩ : S28a)) (y := y) (nb := 0) (fun y => by cases y <;> simp [ou28a]) (rnd28a xs ys t4) h
    obtain ⟨x, hx, hg, rfl, rfl⟩ := chosen_any hch
    simp only [List.mem_cons, List.not_mem_nil, or_false] at hx
    rcases hx with rfl | rfl
    · exact main _ (is28a_0 xs ys t4 t5 hg)
    · exact main _ (is28a_1 xs ys t4 t5 hg)
  · cases hl
theorem L28_ok (q : Pl) (c : Code) (hq : locate c28 q.reverse = some (.loop c)) (st : St) (outs : List (Bool × Ex × St)) (e : Ex) (s : St) (hl : L28 q st = some outs) (hch : Chosen outs e s) :
    ∃ keep nb, 0 ≤ nb ∧ LB Try.prog S0 (ro 11) L28 c q keep nb st e s := by
  unfold L28 at hl
  split at hl
  · have : locate c28 ([false, true, false, true, true] : Pl).reverse = some (.loop lp28a) := by kernel_rfl
    rw [this] at hq
    cases hq
    exact lok28a hl hch
  · cases hl
theorem lok28 : LOK Try.prog S0 (ro 11) L28 0 false c28 [] :=
  lok_lo L28_ok c28 [] false (locate_nil _) (by kernel_rfl)
noncomputable def t28 (xs ys : List (List AV)) : Tr ((Bool)) :=
  .cn ((↑xs.length : Int) != (↑ys.length : Int)) (.lf (false)) (.cn (i28a_0 xs ys false 0) (.lf (v28a_0_t4' xs ys false 0)) (.cn (i28a_1 xs ys false 0) (.lf (true)) (.nn)))
noncomputable def g28 (xs ys : List (List AV)) : Bool := (t28 xs ys).g
noncomputable def w28_0 (xs ys : List (List AV)) : Bool := (t28 xs ys).val
theorem eq28 (xs ys : List (List AV)) : evF Try.prog S0 (ro 11) L28 Try.f11 [.rs 3 xs, .rs 3 ys] = (t28 xs ys).opt (fun (x : (Bool)) => (.b x : AV)) := by kernel_rfl
theorem con28 (xs ys : List (List AV)) (h : g28 xs ys = true) : Con Try.prog 11 [.rs 3 xs, .rs 3 ys] [] (.b (w28_0 xs ys)) [] :=
  con_of S0_ok mixed Try.func11 (c := c28) rfl (names 11 _ Try.func11) lok28 ((eq28 xs ys).trans (Tr.sound _ _ h))
noncomputable def e28 (args : List AV) (rows : List Blk) : Option (Bool × AV × List Blk) := match args, rows with
  | [.rs 3 xs, .rs 3 ys], [] => some (g28 xs ys, .b (w28_0 xs ys), [])
  | _, _ => none
theorem e28_ok (args : List AV) (rows : List Blk) (pre : Bool) (v : AV) (rows' : List Blk) (h : e28 args rows = some (pre, v, rows')) (hp : pre = true) : Con Try.prog 11 args rows v rows' := by
  unfold e28 at h
  split at h
  · cases h; exact con28 _ _ hp
  · cases h
-- SPEC 28
end Go.Proofs.Ytfbfohkgajeopac

set_option maxRecDepth 100000
set_option linter.unusedVariables false
namespace Go.Proofs.Ytfbfohkgajeopac
open Go Go.Ev
def ones (f : Nat → Int) (N : Nat) : List (List AV) := (List.range N).map fun j => [.i .i64 (f j)]
theorem ones_len (f : Nat → Int) (N : Nat) : (ones f N).length = N := by simp [ones]
theorem ones_get {f : Nat → Int} {N k : Nat} (h : k < N) : (ones f N).getD k [] = [.i .i64 (f k)] := by
  simp [ones, List.getD_eq_getElem?_getD, h]
theorem ones_set {f : Nat → Int} {N k : Nat} {v : Int} (h : k < N) : (ones f N).set k [.i .i64 v] = ones (upd f k v) N := by
  apply List.ext_getElem
  · simp [ones]
  · intro i h1 h2
    have hi : i < N := by simpa [ones] using h1
    simp only [ones, List.getElem_set, List.getElem_map, List.getElem_range, upd]
    by_cases e : k = i
    · subst e; simp
    · simp [e, Ne.symm e]
theorem ones_zero (N : Nat) : List.replicate N [AV.i .i64 0] = ones (fun _ => 0) N := by
  apply List.ext_getElem
  · simp [ones]
  · intro i h1 h2
    simp only [ones, List.getElem_replicate, List.getElem_map]
theorem drop_mem {α : Type} {l : List α} {k : Nat} (d : α) (h : k < l.length) : l.getD k d ∈ l := by
  simp only [List.getD_eq_getElem?_getD, List.getElem?_eq_getElem h, Option.getD_some]
  exact List.getElem_mem h
theorem same_refl {xs : List (List AV)} (hx : xs.length < 9223372036854775807) : g28 xs xs = true ∧ w28_0 xs xs = true := by
  have run : ∃ y, r28a xs xs false 0 = some y ∧ y = .x1 (xs.length : Int) := by
    unfold r28a
    refine run_for (S := Unit) xs.length (fun k _ => (⟨(k : Int)⟩ : S28a)) (fun _ _ => True) (fun k f (y : T28a) => y = .x1 (xs.length : Int)) (fun k f hk hf => .inl ⟨(), ?_, trivial, fun y hy => hy⟩) (fun f hf => ⟨_, ?_, rfl⟩) 0 () (Nat.zero_le _) trivial
    · show stp28a xs xs false (k : Int) = _
      unfold stp28a
      have : (fI (xs.getD k []) 0 != fI (xs.getD k []) 0) = false := by simp
      simp only [lt_true hk, inb_true hk, cond_true, cond_false, Int.toNat_natCast, wrap_succ (show k < 9223372036854775807 by omega), this]
    · show stp28a xs xs false (xs.length : Int) = _
      unfold stp28a
      rw [lt_false]; rfl
  obtain ⟨y, h1, h2⟩ := run
  have h0 : ((xs.length : Int) != (xs.length : Int)) = false := by simp
  unfold g28 w28_0 t28 i28a_0 i28a_1
  rw [h0, h1, h2]
  exact ⟨rfl, rfl⟩
def rowAV (row : List Nat) : List (List AV) := row.map fun (i : Nat) => [.i .i64 (i : Int)]
theorem rowAV_len (row : List Nat) : (rowAV row).length = row.length := by simp [rowAV]
theorem rowAV_app (a b : List Nat) : rowAV (a ++ b) = rowAV a ++ rowAV b := List.map_append
end Go.Proofs.Ytfbfohkgajeopac

set_option maxRecDepth 100000
set_option linter.unusedVariables false
namespace Go.Proofs.Ytfbfohkgajeopac
open Go Go.Ev

noncomputable def c85 : Code := match Try.f56.body with | some c => c | _ => .skip
theorem lok85 : LOK Try.prog S0 (ro 56) (fun _ _ => none) 0 false c85 [] :=
  lok_lo (fun _ _ _ _ _ _ _ h _ => by cases h) c85 [] false (locate_nil _) (by kernel_rfl)
noncomputable def t85 (c : Int) : Tr ((Bool)) :=
  .cn (decide (c ≥ 97)) (.cn (decide (c ≤ 122)) (.lf (false)) (.cn (decide (c ≥ 48)) (.cn (decide (c ≤ 57)) (.lf (false)) (.lf (!c == 45))) (.lf (!c == 45)))) (.cn (decide (c ≥ 48)) (.cn (decide (c ≤ 57)) (.lf (false)) (.lf (!c == 45))) (.lf (!c == 45)))
noncomputable def g85 (c : Int) : Bool := (t85 c).g
noncomputable def w85_0 (c : Int) : Bool := (t85 c).val
theorem eq85 (c : Int) : evF Try.prog S0 (ro 56) (fun _ _ => none) Try.f56 [.i .i32 c] = (t85 c).opt (fun (x : (Bool)) => (.b x : AV)) := by kernel_rfl
theorem con85 (c : Int) (h : g85 c = true) : Con Try.prog 56 [.i .i32 c] [] (.b (w85_0 c)) [] :=
  con_of S0_ok mixed Try.func56 (c := c85) rfl (names 56 _ Try.func56) lok85 ((eq85 c).trans (Tr.sound _ _ h))
noncomputable def e85 (args : List AV) (rows : List Blk) : Option (Bool × AV × List Blk) := match args, rows with
  | [.i .i32 c], [] => some (g85 c, .b (w85_0 c), [])
  | _, _ => none
theorem e85_ok (args : List AV) (rows : List Blk) (pre : Bool) (v : AV) (rows' : List Blk) (h : e85 args rows = some (pre, v, rows')) (hp : pre = true) : Con Try.prog 56 args rows v rows' := by
  unfold e85 at h
  split at h
  · cases h; exact con85 _ hp
  · cases h
-- SPEC 85
end Go.Proofs.Ytfbfohkgajeopac

set_option maxRecDepth 100000
set_option linter.unusedVariables false
namespace Go.Proofs.Ytfbfohkgajeopac
open Go Go.Ev
noncomputable def SS1 : Ev.Spec := insS 56 e85 (S0)
theorem SS1_ok : SpecOK Try.prog SS1 := insS_ok e85_ok (S0_ok)
end Go.Proofs.Ytfbfohkgajeopac

set_option maxRecDepth 100000
set_option maxHeartbeats 0
set_option linter.unusedVariables false
namespace Go.Proofs.Ytfbfohkgajeopac
open Go Go.Ev

noncomputable def c94 : Code := match Try.f67.body with | some c => c | _ => .skip
noncomputable def lp94a : Code := loopAt c94 [true, false, true, false]
noncomputable def s94a (tr : Bool) (t6 : Int) (nm : ByteArray) (m2_1 : Nat) : St :=
  { t := [(1, .fn 56 []), (2, .b tr), (6, .i .i64 t6), (10, .it 2)], m := [(0, .dead), (1, .dead), (2, .si nm m2_1)], nx := 3, nt := 21 }
structure S94a where
  m2_1 : Nat
inductive T94a where
  | x0 (t6' : Int) (m2_1 : Nat)
  | x1 (m2_1 : Nat)
noncomputable def stp94a (tr : Bool) (t6 : Int) (nm : ByteArray) (m2_1 : Nat) : Lp S94a T94a :=
  cond (m2_1.blt nm.size) (cond (g85 (↑(Utf8.decode nm m2_1).fst : Int)) (cond (w85_0 (↑(Utf8.decode nm m2_1).fst : Int) == tr) (.out (.x0 (↑m2_1 : Int) (m2_1 + (Utf8.decode nm m2_1).snd))) (.go ⟨m2_1 + (Utf8.decode nm m2_1).snd⟩)) (.bad)) (.out (.x1 m2_1))
noncomputable def o94a_0 (tr : Bool) (t6 : Int) (nm : ByteArray) (t6' : Int) (m2_1 : Nat) : St :=
  { t := [(1, .fn 56 []), (2, .b tr), (6, .i .i64 t6'), (10, .it 2)], m := [(0, .dead), (1, .dead), (2, .si nm m2_1)], nx := 3, nt := 21 }
noncomputable def o94a_1 (tr : Bool) (t6 : Int) (nm : ByteArray) (m2_1 : Nat) : St :=
  { t := [(1, .fn 56 []), (2, .b tr), (6, .i .i64 t6), (10, .it 2)], m := [(0, .dead), (1, .dead), (2, .si nm m2_1)], nx := 3, nt := 21 }
noncomputable def ou94a (tr : Bool) (t6 : Int) (nm : ByteArray) : T94a → Ex × St
  | .x0 t6' m2_1 => (.ret, o94a_0 tr t6 nm t6' m2_1)
  | .x1 m2_1 => (.ext 0, o94a_1 tr t6 nm m2_1)
noncomputable def r94a (tr : Bool) (t6 : Int) (nm : ByteArray) (m2_1 : Nat) : Option T94a := run (fun x => stp94a tr t6 nm x.m2_1) (⟨m2_1⟩ : S94a)
noncomputable def i94a_0 (tr : Bool) (t6 : Int) (nm : ByteArray) (m2_1 : Nat) : Bool := match r94a tr t6 nm m2_1 with
  | some (.x0 _ _) => true
  | _ => false
noncomputable def v94a_0_t6' (tr : Bool) (t6 : Int) (nm : ByteArray) (m2_1 : Nat) : Int := match r94a tr t6 nm m2_1 with
  | some (.x0 t6' _) => t6'
  | _ => default
noncomputable def v94a_0_m2_1 (tr : Bool) (t6 : Int) (nm : ByteArray) (m2_1 : Nat) : Nat := match r94a tr t6 nm m2_1 with
  | some (.x0 _ m2_1) => m2_1
  | _ => default
noncomputable def i94a_1 (tr : Bool) (t6 : Int) (nm : ByteArray) (m2_1 : Nat) : Bool := match r94a tr t6 nm m2_1 with
  | some (.x1 _) => true
  | _ => false
noncomputable def v94a_1_m2_1 (tr : Bool) (t6 : Int) (nm : ByteArray) (m2_1 : Nat) : Nat := match r94a tr t6 nm m2_1 with
  | some (.x1 m2_1) => m2_1
  | _ => default
noncomputable def l94a (st : St) : Option (List (Bool × Ex × St)) := match normW Try.prog [(1, none), (2, none), (6, none), (10, none)] 3 st with
  | some ([.fn 56 [], .b tr, .i .i64 t6, .it 2], [(0, .dead), (1, .dead), (2, .si nm m2_1)], 3, 21) => some [(i94a_0 tr t6 nm m2_1, .ret, o94a_0 tr t6 nm (v94a_0_t6' tr t6 nm m2_1) (v94a_0_m2_1 tr t6 nm m2_1)), (i94a_1 tr t6 nm m2_1, .ext 0, o94a_1 tr t6 nm (v94a_1_m2_1 tr t6 nm m2_1))]
  | _ => none
noncomputable def L94 : LSpec := fun p st => match p with
  | [false, true, false, true] => l94a st
  | _ => none
theorem is94a_0 (tr : Bool) (t6 : Int) (nm : ByteArray) (m2_1 : Nat) (h : i94a_0 tr t6 nm m2_1 = true) : r94a tr t6 nm m2_1 = some (.x0 (v94a_0_t6' tr t6 nm m2_1) (v94a_0_m2_1 tr t6 nm m2_1)) := by
  unfold i94a_0 at h
  unfold v94a_0_t6' v94a_0_m2_1
  generalize r94a tr t6 nm m2_1 = r at h ⊢
  rcases r with _ | y
  · cases h
  · cases y <;> first | rfl | cases h
theorem is94a_1 (tr : Bool) (t6 : Int) (nm : ByteArray) (m2_1 : Nat) (h : i94a_1 tr t6 nm m2_1 = true) : r94a tr t6 nm m2_1 = some (.x1 (v94a_1_m2_1 tr t6 nm m2_1)) := by
  unfold i94a_1 at h
  unfold v94a_1_m2_1
  generalize r94a tr t6 nm m2_1 = r at h ⊢
  rcases r with _ | y
  · cases h
  · cases y <;> first | rfl | cases h
theorem round94a (tr : Bool) (t6 : Int) (nm : ByteArray) (m2_1 : Nat) : round Try.prog SS1 (ro 67) L94 lp94a [false, true, false, true] [(1, none), (2, none), (6, none), (10, none)] 3 (s94a tr t6 nm m2_1) =
    cond (m2_1.blt nm.size) (cond (g85 (↑(Utf8.decode nm m2_1).fst : Int)) (cond (w85_0 (↑(Utf8.decode nm m2_1).fst : Int) == tr) (some (.ret, o94a_0 tr t6 nm (↑m2_1 : Int) (m2_1 + (Utf8.decode nm m2_1).snd))) (some (.nrm, s94a tr t6 nm (m2_1 + (Utf8.decode nm m2_1).snd)))) (none)) (some (.ext 0, o94a_1 tr t6 nm m2_1)) := by kernel_rfl
theorem rnd94a (tr : Bool) (t6 : Int) (nm : ByteArray) (x : S94a) : round Try.prog SS1 (ro 67) L94 lp94a [false, true, false, true] [(1, none), (2, none), (6, none), (10, none)] 3 ((fun x => s94a tr t6 nm x.m2_1) x) = toR (fun x => s94a tr t6 nm x.m2_1) (ou94a tr t6 nm) (stp94a tr t6 nm x.m2_1) := by
  refine (round94a _ _ _ _ ).trans ?_
  unfold stp94a
  simp only [toR_cond]
  rfl
theorem lok94a {st : St} {outs : List (Bool × Ex × St)} {e : Ex} {s : St} (hl : l94a st = some outs) (hch : Chosen outs e s) :
    ∃ keep nb, 0 ≤ nb ∧ LB Try.prog SS1 (ro 67) L94 lp94a [false, true, false, true] keep nb st e s := by
  unfold l94a at hl
  split at hl
  · rename_i tr t6 nm m2_1 hno
    cases hl
    have hno := normW_norm hno
    refine ⟨_, _, ?_, .enter hno ?_⟩
    · decide
    have main := fun y h => LB_run (x := (⟨m2_1⟩ : S94a)) (y := y) (nb := 3) (fun y => by cases y <;> simp [ou94a]) (rnd94a tr t6 nm) h
    obtain ⟨x, hx, hg, rfl, rfl⟩ := chosen_any hch
    simp only [List.mem_cons, List.not_mem_nil, or_false] at hx
    rcases hx with rfl | rfl
    · exact main _ (is94a_0 tr t6 nm m2_1 hg)
    · exact main _ (is94a_1 tr t6 nm m2_1 hg)
  · cases hl
theorem L94_ok (q : Pl) (c : Code) (hq : locate c94 q.reverse = some (.loop c)) (st : St) (outs : List (Bool × Ex × St)) (e : Ex) (s : St) (hl : L94 q st = some outs) (hch : Chosen outs e s) :
    ∃ keep nb, 0 ≤ nb ∧ LB Try.prog SS1 (ro 67) L94 c q keep nb st e s := by
  unfold L94 at hl
  split at hl
  · have : locate c94 ([false, true, false, true] : Pl).reverse = some (.loop lp94a) := by kernel_rfl
    rw [this] at hq
    cases hq
    exact lok94a hl hch
  · cases hl
theorem lok94 : LOK Try.prog SS1 (ro 67) L94 0 false c94 [] :=
  lok_lo L94_ok c94 [] false (locate_nil _) (by kernel_rfl)
noncomputable def t94 (nm : ByteArray) (tr : Bool) : Tr ((Int)) :=
  .cn (i94a_0 tr 0 nm 0) (.lf (v94a_0_t6' tr 0 nm 0)) (.cn (i94a_1 tr 0 nm 0) (.lf (-1)) (.nn))
noncomputable def g94 (nm : ByteArray) (tr : Bool) : Bool := (t94 nm tr).g
noncomputable def w94_0 (nm : ByteArray) (tr : Bool) : Int := (t94 nm tr).val
theorem eq94 (nm : ByteArray) (tr : Bool) : evF Try.prog SS1 (ro 67) L94 Try.f67 [.s nm, .fn 56 [], .b tr] = (t94 nm tr).opt (fun (x : (Int)) => (.i .i64 x : AV)) := by kernel_rfl
theorem con94 (nm : ByteArray) (tr : Bool) (h : g94 nm tr = true) : Con Try.prog 67 [.s nm, .fn 56 [], .b tr] [] (.i .i64 (w94_0 nm tr)) [] :=
  con_of SS1_ok mixed Try.func67 (c := c94) rfl (names 67 _ Try.func67) lok94 ((eq94 nm tr).trans (Tr.sound _ _ h))
noncomputable def e94 (args : List AV) (rows : List Blk) : Option (Bool × AV × List Blk) := match args, rows with
  | [.s nm, .fn 56 [], .b tr], [] => some (g94 nm tr, .i .i64 (w94_0 nm tr), [])
  | _, _ => none
theorem e94_ok (args : List AV) (rows : List Blk) (pre : Bool) (v : AV) (rows' : List Blk) (h : e94 args rows = some (pre, v, rows')) (hp : pre = true) : Con Try.prog 67 args rows v rows' := by
  unfold e94 at h
  split at h
  · cases h; exact con94 _ _ hp
  · cases h
-- SPEC 94
end Go.Proofs.Ytfbfohkgajeopac

set_option maxRecDepth 100000
set_option linter.unusedVariables false
namespace Go.Proofs.Ytfbfohkgajeopac
open Go Go.Ev
noncomputable def SS2 : Ev.Spec := insS 67 e94 (S0)
theorem SS2_ok : SpecOK Try.prog SS2 := insS_ok e94_ok (S0_ok)
end Go.Proofs.Ytfbfohkgajeopac

set_option maxRecDepth 100000
set_option maxHeartbeats 0
set_option linter.unusedVariables false
namespace Go.Proofs.Ytfbfohkgajeopac
open Go Go.Ev

noncomputable def c91 : Code := match Try.f65.body with | some c => c | _ => .skip
theorem lok91 : LOK Try.prog SS2 (ro 65) (fun _ _ => none) 0 false c91 [] :=
  lok_lo (fun _ _ _ _ _ _ _ h _ => by cases h) c91 [] false (locate_nil _) (by kernel_rfl)
noncomputable def t91 (nm : ByteArray) : Tr ((Int)) :=
  .cn (g94 nm true) (.lf (w94_0 nm true)) (.nn)
noncomputable def g91 (nm : ByteArray) : Bool := (t91 nm).g
noncomputable def w91_0 (nm : ByteArray) : Int := (t91 nm).val
theorem eq91 (nm : ByteArray) : evF Try.prog SS2 (ro 65) (fun _ _ => none) Try.f65 [.s nm, .fn 56 []] = (t91 nm).opt (fun (x : (Int)) => (.i .i64 x : AV)) := by kernel_rfl
theorem con91 (nm : ByteArray) (h : g91 nm = true) : Con Try.prog 65 [.s nm, .fn 56 []] [] (.i .i64 (w91_0 nm)) [] :=
  con_of SS2_ok mixed Try.func65 (c := c91) rfl (names 65 _ Try.func65) lok91 ((eq91 nm).trans (Tr.sound _ _ h))
noncomputable def e91 (args : List AV) (rows : List Blk) : Option (Bool × AV × List Blk) := match args, rows with
  | [.s nm, .fn 56 []], [] => some (g91 nm, .i .i64 (w91_0 nm), [])
  | _, _ => none
theorem e91_ok (args : List AV) (rows : List Blk) (pre : Bool) (v : AV) (rows' : List Blk) (h : e91 args rows = some (pre, v, rows')) (hp : pre = true) : Con Try.prog 65 args rows v rows' := by
  unfold e91 at h
  split at h
  · cases h; exact con91 _ hp
  · cases h
-- SPEC 91
end Go.Proofs.Ytfbfohkgajeopac

set_option maxRecDepth 100000
set_option linter.unusedVariables false
namespace Go.Proofs.Ytfbfohkgajeopac
open Go Go.Ev
noncomputable def SS3 : Ev.Spec := insS 65 e91 (S0)
theorem SS3_ok : SpecOK Try.prog SS3 := insS_ok e91_ok (S0_ok)
end Go.Proofs.Ytfbfohkgajeopac

set_option maxRecDepth 100000
set_option maxHeartbeats 0
set_option linter.unusedVariables false
namespace Go.Proofs.Ytfbfohkgajeopac
open Go Go.Ev

noncomputable def c84 : Code := match Try.f55.body with | some c => c | _ => .skip
theorem lok84 : LOK Try.prog SS3 (ro 55) (fun _ _ => none) 0 false c84 [] :=
  lok_lo (fun _ _ _ _ _ _ _ h _ => by cases h) c84 [] false (locate_nil _) (by kernel_rfl)
noncomputable def t84 (nm : ByteArray) : Tr ((Bool)) :=
  .cn (g91 nm) (.lf (decide (w91_0 nm ≥ 0))) (.nn)
noncomputable def g84 (nm : ByteArray) : Bool := (t84 nm).g
noncomputable def w84_0 (nm : ByteArray) : Bool := (t84 nm).val
theorem eq84 (nm : ByteArray) : evF Try.prog SS3 (ro 55) (fun _ _ => none) Try.f55 [.s nm, .fn 56 []] = (t84 nm).opt (fun (x : (Bool)) => (.b x : AV)) := by kernel_rfl
theorem con84 (nm : ByteArray) (h : g84 nm = true) : Con Try.prog 55 [.s nm, .fn 56 []] [] (.b (w84_0 nm)) [] :=
  con_of SS3_ok mixed Try.func55 (c := c84) rfl (names 55 _ Try.func55) lok84 ((eq84 nm).trans (Tr.sound _ _ h))
noncomputable def e84 (args : List AV) (rows : List Blk) : Option (Bool × AV × List Blk) := match args, rows with
  | [.s nm, .fn 56 []], [] => some (g84 nm, .b (w84_0 nm), [])
  | _, _ => none
theorem e84_ok (args : List AV) (rows : List Blk) (pre : Bool) (v : AV) (rows' : List Blk) (h : e84 args rows = some (pre, v, rows')) (hp : pre = true) : Con Try.prog 55 args rows v rows' := by
  unfold e84 at h
  split at h
  · cases h; exact con84 _ hp
  · cases h
-- SPEC 84
end Go.Proofs.Ytfbfohkgajeopac

set_option maxRecDepth 100000
set_option linter.unusedVariables false
namespace Go.Proofs.Ytfbfohkgajeopac
open Go Go.Ev
noncomputable def SS4 : Ev.Spec := insS 55 e84 (S0)
theorem SS4_ok : SpecOK Try.prog SS4 := insS_ok e84_ok (S0_ok)
end Go.Proofs.Ytfbfohkgajeopac

set_option maxRecDepth 100000
set_option maxHeartbeats 0
set_option linter.unusedVariables false
namespace Go.Proofs.Ytfbfohkgajeopac
open Go Go.Ev

noncomputable def c61 : Code := match Try.f35.body with | some c => c | _ => .skip
theorem lok61 : LOK Try.prog SS4 (ro 35) (fun _ _ => none) 0 false c61 [] :=
  lok_lo (fun _ _ _ _ _ _ _ h _ => by cases h) c61 [] false (locate_nil _) (by kernel_rfl)
noncomputable def t61 (nm : ByteArray) : Tr ((Bool)) :=
  .cn (nm.toList == (⟨#[]⟩ : ByteArray).toList) (.lf (false)) (.cn (decide ((↑nm.size : Int) > 16)) (.lf (false)) (.cn (inb 0 nm.size) (.cn (decide ((↑(nm.data.toList.getD 0 0).toNat : Int) < 97)) (.lf (false)) (.cn (inb 0 nm.size) (.cn (decide ((↑(nm.data.toList.getD 0 0).toNat : Int) > 122)) (.lf (false)) (.cn (g84 nm) (.lf (!w84_0 nm)) (.nn))) (.nn))) (.nn)))
noncomputable def g61 (nm : ByteArray) : Bool := (t61 nm).g
noncomputable def w61_0 (nm : ByteArray) : Bool := (t61 nm).val
theorem eq61 (nm : ByteArray) : evF Try.prog SS4 (ro 35) (fun _ _ => none) Try.f35 [.s nm] = (t61 nm).opt (fun (x : (Bool)) => (.b x : AV)) := by kernel_rfl
theorem con61 (nm : ByteArray) (h : g61 nm = true) : Con Try.prog 35 [.s nm] [] (.b (w61_0 nm)) [] :=
  con_of SS4_ok mixed Try.func35 (c := c61) rfl (names 35 _ Try.func35) lok61 ((eq61 nm).trans (Tr.sound _ _ h))
noncomputable def e61 (args : List AV) (rows : List Blk) : Option (Bool × AV × List Blk) := match args, rows with
  | [.s nm], [] => some (g61 nm, .b (w61_0 nm), [])
  | _, _ => none
theorem e61_ok (args : List AV) (rows : List Blk) (pre : Bool) (v : AV) (rows' : List Blk) (h : e61 args rows = some (pre, v, rows')) (hp : pre = true) : Con Try.prog 35 args rows v rows' := by
  unfold e61 at h
  split at h
  · cases h; exact con61 _ hp
  · cases h
-- SPEC 61
end Go.Proofs.Ytfbfohkgajeopac

set_option maxRecDepth 100000
set_option linter.unusedVariables false
namespace Go.Proofs.Ytfbfohkgajeopac
open Go Go.Ev

noncomputable def c62 : Code := match Try.f36.body with | some c => c | _ => .skip
theorem lok62 : LOK Try.prog S0 (ro 36) (fun _ _ => none) 0 false c62 [] :=
  lok_lo (fun _ _ _ _ _ _ _ h _ => by cases h) c62 [] false (locate_nil _) (by kernel_rfl)
noncomputable def t62 (nm : ByteArray) (pa pb pc pd : Int) : Tr ((ByteArray) × (Int) × (Int) × (Int) × (Int)) :=
  .lf ({ data := #[] }, pa, pc, pb, 0)
noncomputable def g62 (nm : ByteArray) (pa pb pc pd : Int) : Bool := (t62 nm pa pb pc pd).g
noncomputable def w62_0 (nm : ByteArray) (pa pb pc pd : Int) : ByteArray := (t62 nm pa pb pc pd).val.1
noncomputable def w62_1 (nm : ByteArray) (pa pb pc pd : Int) : Int := (t62 nm pa pb pc pd).val.2.1
noncomputable def w62_2 (nm : ByteArray) (pa pb pc pd : Int) : Int := (t62 nm pa pb pc pd).val.2.2.1
noncomputable def w62_3 (nm : ByteArray) (pa pb pc pd : Int) : Int := (t62 nm pa pb pc pd).val.2.2.2.1
noncomputable def w62_4 (nm : ByteArray) (pa pb pc pd : Int) : Int := (t62 nm pa pb pc pd).val.2.2.2.2
theorem eq62 (nm : ByteArray) (pa pb pc pd : Int) : evF Try.prog S0 (ro 36) (fun _ _ => none) Try.f36 [.agg [.s nm, .i .i64 pa, .i .i64 pb, .i .i64 pc, .i .i64 pd]] = (t62 nm pa pb pc pd).opt (fun (x : (ByteArray) × (Int) × (Int) × (Int) × (Int)) => (.agg [.s x.1, .i .i64 x.2.1, .i .i64 x.2.2.1, .i .i64 x.2.2.2.1, .i .i64 x.2.2.2.2] : AV)) := by kernel_rfl
theorem con62 (nm : ByteArray) (pa pb pc pd : Int) (h : g62 nm pa pb pc pd = true) : Con Try.prog 36 [.agg [.s nm, .i .i64 pa, .i .i64 pb, .i .i64 pc, .i .i64 pd]] [] (.agg [.s (w62_0 nm pa pb pc pd), .i .i64 (w62_1 nm pa pb pc pd), .i .i64 (w62_2 nm pa pb pc pd), .i .i64 (w62_3 nm pa pb pc pd), .i .i64 (w62_4 nm pa pb pc pd)]) [] :=
  con_of S0_ok mixed Try.func36 (c := c62) rfl (names 36 _ Try.func36) lok62 ((eq62 nm pa pb pc pd).trans (Tr.sound _ _ h))
noncomputable def e62 (args : List AV) (rows : List Blk) : Option (Bool × AV × List Blk) := match args, rows with
  | [.agg [.s nm, .i .i64 pa, .i .i64 pb, .i .i64 pc, .i .i64 pd]], [] => some (g62 nm pa pb pc pd, .agg [.s (w62_0 nm pa pb pc pd), .i .i64 (w62_1 nm pa pb pc pd), .i .i64 (w62_2 nm pa pb pc pd), .i .i64 (w62_3 nm pa pb pc pd), .i .i64 (w62_4 nm pa pb pc pd)], [])
  | _, _ => none
theorem e62_ok (args : List AV) (rows : List Blk) (pre : Bool) (v : AV) (rows' : List Blk) (h : e62 args rows = some (pre, v, rows')) (hp : pre = true) : Con Try.prog 36 args rows v rows' := by
  unfold e62 at h
  split at h
  · cases h; exact con62 _ _ _ _ _ hp
  · cases h
-- SPEC 62
end Go.Proofs.Ytfbfohkgajeopac

set_option maxRecDepth 100000
set_option linter.unusedVariables false
namespace Go.Proofs.Ytfbfohkgajeopac
open Go Go.Ev

noncomputable def c63 : Code := match Try.f37.body with | some c => c | _ => .skip
theorem lok63 : LOK Try.prog S0 (ro 37) (fun _ _ => none) 0 false c63 [] :=
  lok_lo (fun _ _ _ _ _ _ _ h _ => by cases h) c63 [] false (locate_nil _) (by kernel_rfl)
noncomputable def t63 (nm : ByteArray) (pa pb pc pd : Int) : Tr ((ByteArray) × (Int) × (Int) × (Int) × (Int)) :=
  .lf ({ data := #[] }, pa, pb, pc, 0)
noncomputable def g63 (nm : ByteArray) (pa pb pc pd : Int) : Bool := (t63 nm pa pb pc pd).g
noncomputable def w63_0 (nm : ByteArray) (pa pb pc pd : Int) : ByteArray := (t63 nm pa pb pc pd).val.1
noncomputable def w63_1 (nm : ByteArray) (pa pb pc pd : Int) : Int := (t63 nm pa pb pc pd).val.2.1
noncomputable def w63_2 (nm : ByteArray) (pa pb pc pd : Int) : Int := (t63 nm pa pb pc pd).val.2.2.1
noncomputable def w63_3 (nm : ByteArray) (pa pb pc pd : Int) : Int := (t63 nm pa pb pc pd).val.2.2.2.1
noncomputable def w63_4 (nm : ByteArray) (pa pb pc pd : Int) : Int := (t63 nm pa pb pc pd).val.2.2.2.2
theorem eq63 (nm : ByteArray) (pa pb pc pd : Int) : evF Try.prog S0 (ro 37) (fun _ _ => none) Try.f37 [.agg [.s nm, .i .i64 pa, .i .i64 pb, .i .i64 pc, .i .i64 pd]] = (t63 nm pa pb pc pd).opt (fun (x : (ByteArray) × (Int) × (Int) × (Int) × (Int)) => (.agg [.s x.1, .i .i64 x.2.1, .i .i64 x.2.2.1, .i .i64 x.2.2.2.1, .i .i64 x.2.2.2.2] : AV)) := by kernel_rfl
theorem con63 (nm : ByteArray) (pa pb pc pd : Int) (h : g63 nm pa pb pc pd = true) : Con Try.prog 37 [.agg [.s nm, .i .i64 pa, .i .i64 pb, .i .i64 pc, .i .i64 pd]] [] (.agg [.s (w63_0 nm pa pb pc pd), .i .i64 (w63_1 nm pa pb pc pd), .i .i64 (w63_2 nm pa pb pc pd), .i .i64 (w63_3 nm pa pb pc pd), .i .i64 (w63_4 nm pa pb pc pd)]) [] :=
  con_of S0_ok mixed Try.func37 (c := c63) rfl (names 37 _ Try.func37) lok63 ((eq63 nm pa pb pc pd).trans (Tr.sound _ _ h))
noncomputable def e63 (args : List AV) (rows : List Blk) : Option (Bool × AV × List Blk) := match args, rows with
  | [.agg [.s nm, .i .i64 pa, .i .i64 pb, .i .i64 pc, .i .i64 pd]], [] => some (g63 nm pa pb pc pd, .agg [.s (w63_0 nm pa pb pc pd), .i .i64 (w63_1 nm pa pb pc pd), .i .i64 (w63_2 nm pa pb pc pd), .i .i64 (w63_3 nm pa pb pc pd), .i .i64 (w63_4 nm pa pb pc pd)], [])
  | _, _ => none
theorem e63_ok (args : List AV) (rows : List Blk) (pre : Bool) (v : AV) (rows' : List Blk) (h : e63 args rows = some (pre, v, rows')) (hp : pre = true) : Con Try.prog 37 args rows v rows' := by
  unfold e63 at h
  split at h
  · cases h; exact con63 _ _ _ _ _ hp
  · cases h
-- SPEC 63
end Go.Proofs.Ytfbfohkgajeopac

set_option maxRecDepth 100000
set_option linter.unusedVariables false
namespace Go.Proofs.Ytfbfohkgajeopac
open Go Go.Ev
noncomputable def SS5 : Ev.Spec := insS 37 e63 (insS 36 e62 (insS 35 e61 (insS 26 e55 (S0))))
theorem SS5_ok : SpecOK Try.prog SS5 := insS_ok e63_ok (insS_ok e62_ok (insS_ok e61_ok (insS_ok e55_ok (S0_ok))))
end Go.Proofs.Ytfbfohkgajeopac

set_option maxRecDepth 100000
set_option maxHeartbeats 0
set_option linter.unusedVariables false
namespace Go.Proofs.Ytfbfohkgajeopac
open Go Go.Ev

noncomputable def c29 : Code := match Try.f20.body with | some c => c | _ => .skip
noncomputable def lp29a : Code := loopAt c29 [true, true, true, false, true, false]
noncomputable def s29a (ra rb rc : Int) (ps : List (List AV)) (t2 : Int) (t33 : List (List AV)) (t34 t35 : Int) (m24 : List (AV × AV)) : St :=
  { t := [(1, .rp [.int .i64, .int .i64, .int .i64, .sl 39] [.i .i64 ra, .i .i64 rb, .i .i64 rc, .rs 39 ps] 0), (2, .i .i64 t2), (3, .mp 24), (33, .rs 39 t33), (34, .i .i64 t34), (35, .i .i64 t35)], m := [(0, .dead), (1, .dead), (2, .dead), (3, .dead), (4, .dead), (5, .dead), (6, .dead), (7, .dead), (8, .dead), (9, .dead), (10, .dead), (11, .dead), (12, .dead), (13, .dead), (14, .dead), (15, .dead), (16, .dead), (17, .dead), (18, .dead), (19, .dead), (20, .dead), (21, .dead), (22, .dead), (23, .dead), (24, .mp 9 4 m24)], nx := 25, nt := 104 }
structure S29a where
  t35 : Int
  m24 : List (AV × AV)
inductive T29a where
  | x0 (t2' : Int) (t35 : Int) (m24 : List (AV × AV))
  | x1 (t35 : Int) (m24 : List (AV × AV))
noncomputable def stp29a (ra rb rc : Int) (ps : List (List AV)) (t2 : Int) (t33 : List (List AV)) (t34 t35 : Int) (m24 : List (AV × AV)) : Lp S29a T29a :=
  cond (decide (t35 < t34)) (cond (inb t35 t33.length) (cond (g61 (fS (t33.getD t35.toNat []) 0)) (cond (!w61_0 (fS (t33.getD t35.toNat []) 0)) (.out (.x0 5 t35 m24)) (cond (toB ((mget (AV.s (fS (t33.getD t35.toNat []) 0)) m24).getD (AV.b false))) (.out (.x0 6 t35 m24)) (cond (g55 (fI (t33.getD t35.toNat []) 1) 1 2000) (cond (!w55_0 (fI (t33.getD t35.toNat []) 1) 1 2000) (.out (.x0 1 t35 m24)) (cond (g55 (fI (t33.getD t35.toNat []) 2) 0 9) (cond (!w55_0 (fI (t33.getD t35.toNat []) 2) 0 9) (.out (.x0 1 t35 m24)) (cond (g55 (fI (t33.getD t35.toNat []) 3) 0 9) (cond (!w55_0 (fI (t33.getD t35.toNat []) 3) 0 9) (.out (.x0 1 t35 m24)) (.go ⟨IntKind.i64.wrap (t35 + 1), mset (AV.s (fS (t33.getD t35.toNat []) 0)) (AV.b true) m24⟩)) (.bad))) (.bad))) (.bad)))) (.bad)) (.bad)) (.out (.x1 t35 m24))
noncomputable def o29a_0 (ra rb rc : Int) (ps : List (List AV)) (t2 : Int) (t33 : List (List AV)) (t34 t2' t35 : Int) (m24 : List (AV × AV)) : St :=
  { t := [(1, .rp [.int .i64, .int .i64, .int .i64, .sl 39] [.i .i64 ra, .i .i64 rb, .i .i64 rc, .rs 39 ps] 0), (2, .i .i64 t2'), (3, .mp 24), (33, .rs 39 t33), (34, .i .i64 t34), (35, .i .i64 t35)], m := [(0, .dead), (1, .dead), (2, .dead), (3, .dead), (4, .dead), (5, .dead), (6, .dead), (7, .dead), (8, .dead), (9, .dead), (10, .dead), (11, .dead), (12, .dead), (13, .dead), (14, .dead), (15, .dead), (16, .dead), (17, .dead), (18, .dead), (19, .dead), (20, .dead), (21, .dead), (22, .dead), (23, .dead), (24, .mp 9 4 m24)], nx := 25, nt := 104 }
noncomputable def o29a_1 (ra rb rc : Int) (ps : List (List AV)) (t2 : Int) (t33 : List (List AV)) (t34 t35 : Int) (m24 : List (AV × AV)) : St :=
  { t := [(1, .rp [.int .i64, .int .i64, .int .i64, .sl 39] [.i .i64 ra, .i .i64 rb, .i .i64 rc, .rs 39 ps] 0), (2, .i .i64 t2), (3, .mp 24), (33, .rs 39 t33), (34, .i .i64 t34), (35, .i .i64 t35)], m := [(0, .dead), (1, .dead), (2, .dead), (3, .dead), (4, .dead), (5, .dead), (6, .dead), (7, .dead), (8, .dead), (9, .dead), (10, .dead), (11, .dead), (12, .dead), (13, .dead), (14, .dead), (15, .dead), (16, .dead), (17, .dead), (18, .dead), (19, .dead), (20, .dead), (21, .dead), (22, .dead), (23, .dead), (24, .mp 9 4 m24)], nx := 25, nt := 104 }
noncomputable def ou29a (ra rb rc : Int) (ps : List (List AV)) (t2 : Int) (t33 : List (List AV)) (t34 : Int) : T29a → Ex × St
  | .x0 t2' t35 m24 => (.ret, o29a_0 ra rb rc ps t2 t33 t34 t2' t35 m24)
  | .x1 t35 m24 => (.ext 1, o29a_1 ra rb rc ps t2 t33 t34 t35 m24)
noncomputable def r29a (ra rb rc : Int) (ps : List (List AV)) (t2 : Int) (t33 : List (List AV)) (t34 t35 : Int) (m24 : List (AV × AV)) : Option T29a := run (fun x => stp29a ra rb rc ps t2 t33 t34 x.t35 x.m24) (⟨t35, m24⟩ : S29a)
noncomputable def i29a_0 (ra rb rc : Int) (ps : List (List AV)) (t2 : Int) (t33 : List (List AV)) (t34 t35 : Int) (m24 : List (AV × AV)) : Bool := match r29a ra rb rc ps t2 t33 t34 t35 m24 with
  | some (.x0 _ _ _) => true
  | _ => false
noncomputable def v29a_0_t2' (ra rb rc : Int) (ps : List (List AV)) (t2 : Int) (t33 : List (List AV)) (t34 t35 : Int) (m24 : List (AV × AV)) : Int := match r29a ra rb rc ps t2 t33 t34 t35 m24 with
  | some (.x0 t2' _ _) => t2'
  | _ => default
noncomputable def v29a_0_t35 (ra rb rc : Int) (ps : List (List AV)) (t2 : Int) (t33 : List (List AV)) (t34 t35 : Int) (m24 : List (AV × AV)) : Int := match r29a ra rb rc ps t2 t33 t34 t35 m24 with
  | some (.x0 _ t35 _) => t35
  | _ => default
noncomputable def v29a_0_m24 (ra rb rc : Int) (ps : List (List AV)) (t2 : Int) (t33 : List (List AV)) (t34 t35 : Int) (m24 : List (AV × AV)) : List (AV × AV) := match r29a ra rb rc ps t2 t33 t34 t35 m24 with
  | some (.x0 _ _ m24) => m24
  | _ => default
noncomputable def i29a_1 (ra rb rc : Int) (ps : List (List AV)) (t2 : Int) (t33 : List (List AV)) (t34 t35 : Int) (m24 : List (AV × AV)) : Bool := match r29a ra rb rc ps t2 t33 t34 t35 m24 with
  | some (.x1 _ _) => true
  | _ => false
noncomputable def v29a_1_t35 (ra rb rc : Int) (ps : List (List AV)) (t2 : Int) (t33 : List (List AV)) (t34 t35 : Int) (m24 : List (AV × AV)) : Int := match r29a ra rb rc ps t2 t33 t34 t35 m24 with
  | some (.x1 t35 _) => t35
  | _ => default
noncomputable def v29a_1_m24 (ra rb rc : Int) (ps : List (List AV)) (t2 : Int) (t33 : List (List AV)) (t34 t35 : Int) (m24 : List (AV × AV)) : List (AV × AV) := match r29a ra rb rc ps t2 t33 t34 t35 m24 with
  | some (.x1 _ m24) => m24
  | _ => default
noncomputable def l29a (st : St) : Option (List (Bool × Ex × St)) := match normW Try.prog [(1, none), (2, none), (3, none), (33, none), (34, none), (35, none)] 25 st with
  | some ([.rp [.int .i64, .int .i64, .int .i64, .sl 39] [.i .i64 ra, .i .i64 rb, .i .i64 rc, .rs 39 ps] 0, .i .i64 t2, .mp 24, .rs 39 t33, .i .i64 t34, .i .i64 t35], (0, .dead) :: (1, .dead) :: (2, .dead) :: (3, .dead) :: (4, .dead) :: (5, .dead) :: (6, .dead) :: (7, .dead) :: (8, .dead) :: (9, .dead) :: (10, .dead) :: (11, .dead) :: (12, .dead) :: (13, .dead) :: (14, .dead) :: (15, .dead) :: (16, .dead) :: (17, .dead) :: (18, .dead) :: (19, .dead) :: (20, .dead) :: (21, .dead) :: (22, .dead) :: (23, .dead) :: (24, .mp 9 4 m24) :: [], 25, 104) => some [(i29a_0 ra rb rc ps t2 t33 t34 t35 m24, .ret, o29a_0 ra rb rc ps t2 t33 t34 (v29a_0_t2' ra rb rc ps t2 t33 t34 t35 m24) (v29a_0_t35 ra rb rc ps t2 t33 t34 t35 m24) (v29a_0_m24 ra rb rc ps t2 t33 t34 t35 m24)), (i29a_1 ra rb rc ps t2 t33 t34 t35 m24, .ext 1, o29a_1 ra rb rc ps t2 t33 t34 (v29a_1_t35 ra rb rc ps t2 t33 t34 t35 m24) (v29a_1_m24 ra rb rc ps t2 t33 t34 t35 m24))]
  | _ => none
noncomputable def lp29b : Code := loopAt c29 [true, true, true, true, false, true, false]
noncomputable def s29b (ra rb rc : Int) (ps : List (List AV)) (t2 : Int) (t71 : List (List AV)) (t72 t73 : Int) : St :=
  { t := [(1, .rp [.int .i64, .int .i64, .int .i64, .sl 39] [.i .i64 ra, .i .i64 rb, .i .i64 rc, .rs 39 ps] 0), (2, .i .i64 t2), (71, .rs 39 t71), (72, .i .i64 t72), (73, .i .i64 t73)], m := [], nx := 0, nt := 104 }
structure S29b where
  t73 : Int
inductive T29b where
  | x0 (t2' : Int) (t73 : Int)
  | x1 (t73 : Int)
noncomputable def stp29b (ra rb rc : Int) (ps : List (List AV)) (t2 : Int) (t71 : List (List AV)) (t72 t73 : Int) : Lp S29b T29b :=
  cond (decide (t73 < t72)) (cond (inb t73 t71.length) (cond (g55 (fI (t71.getD t73.toNat []) 4) 0 (IntKind.i64.wrap ((↑ps.length : Int) - 1))) (cond (!w55_0 (fI (t71.getD t73.toNat []) 4) 0 (IntKind.i64.wrap ((↑ps.length : Int) - 1))) (.out (.x0 7 t73)) (cond (inb (fI (t71.getD t73.toNat []) 4) ps.length) (cond (fI (ps.getD (fI (t71.getD t73.toNat []) 4).toNat []) 4 != t73) (.out (.x0 10 t73)) (cond (!((w62_0 (fS (ps.getD (fI (t71.getD t73.toNat []) 4).toNat []) 0) (fI (ps.getD (fI (t71.getD t73.toNat []) 4).toNat []) 1) (fI (ps.getD (fI (t71.getD t73.toNat []) 4).toNat []) 2) (fI (ps.getD (fI (t71.getD t73.toNat []) 4).toNat []) 3) (fI (ps.getD (fI (t71.getD t73.toNat []) 4).toNat []) 4)).toList == (w63_0 (fS (t71.getD t73.toNat []) 0) (fI (t71.getD t73.toNat []) 1) (fI (t71.getD t73.toNat []) 2) (fI (t71.getD t73.toNat []) 3) (fI (t71.getD t73.toNat []) 4)).toList && (w62_1 (fS (ps.getD (fI (t71.getD t73.toNat []) 4).toNat []) 0) (fI (ps.getD (fI (t71.getD t73.toNat []) 4).toNat []) 1) (fI (ps.getD (fI (t71.getD t73.toNat []) 4).toNat []) 2) (fI (ps.getD (fI (t71.getD t73.toNat []) 4).toNat []) 3) (fI (ps.getD (fI (t71.getD t73.toNat []) 4).toNat []) 4) == w63_1 (fS (t71.getD t73.toNat []) 0) (fI (t71.getD t73.toNat []) 1) (fI (t71.getD t73.toNat []) 2) (fI (t71.getD t73.toNat []) 3) (fI (t71.getD t73.toNat []) 4) && (w62_2 (fS (ps.getD (fI (t71.getD t73.toNat []) 4).toNat []) 0) (fI (ps.getD (fI (t71.getD t73.toNat []) 4).toNat []) 1) (fI (ps.getD (fI (t71.getD t73.toNat []) 4).toNat []) 2) (fI (ps.getD (fI (t71.getD t73.toNat []) 4).toNat []) 3) (fI (ps.getD (fI (t71.getD t73.toNat []) 4).toNat []) 4) == w63_2 (fS (t71.getD t73.toNat []) 0) (fI (t71.getD t73.toNat []) 1) (fI (t71.getD t73.toNat []) 2) (fI (t71.getD t73.toNat []) 3) (fI (t71.getD t73.toNat []) 4) && (w62_3 (fS (ps.getD (fI (t71.getD t73.toNat []) 4).toNat []) 0) (fI (ps.getD (fI (t71.getD t73.toNat []) 4).toNat []) 1) (fI (ps.getD (fI (t71.getD t73.toNat []) 4).toNat []) 2) (fI (ps.getD (fI (t71.getD t73.toNat []) 4).toNat []) 3) (fI (ps.getD (fI (t71.getD t73.toNat []) 4).toNat []) 4) == w63_3 (fS (t71.getD t73.toNat []) 0) (fI (t71.getD t73.toNat []) 1) (fI (t71.getD t73.toNat []) 2) (fI (t71.getD t73.toNat []) 3) (fI (t71.getD t73.toNat []) 4) && true))))) (.out (.x0 10 t73)) (.go ⟨IntKind.i64.wrap (t73 + 1)⟩))) (.bad))) (.bad)) (.bad)) (.out (.x1 t73))
noncomputable def o29b_0 (ra rb rc : Int) (ps : List (List AV)) (t2 : Int) (t71 : List (List AV)) (t72 t2' t73 : Int) : St :=
  { t := [(1, .rp [.int .i64, .int .i64, .int .i64, .sl 39] [.i .i64 ra, .i .i64 rb, .i .i64 rc, .rs 39 ps] 0), (2, .i .i64 t2'), (71, .rs 39 t71), (72, .i .i64 t72), (73, .i .i64 t73)], m := [], nx := 0, nt := 104 }
noncomputable def o29b_1 (ra rb rc : Int) (ps : List (List AV)) (t2 : Int) (t71 : List (List AV)) (t72 t73 : Int) : St :=
  { t := [(1, .rp [.int .i64, .int .i64, .int .i64, .sl 39] [.i .i64 ra, .i .i64 rb, .i .i64 rc, .rs 39 ps] 0), (2, .i .i64 t2), (71, .rs 39 t71), (72, .i .i64 t72), (73, .i .i64 t73)], m := [], nx := 0, nt := 104 }
noncomputable def ou29b (ra rb rc : Int) (ps : List (List AV)) (t2 : Int) (t71 : List (List AV)) (t72 : Int) : T29b → Ex × St
  | .x0 t2' t73 => (.ret, o29b_0 ra rb rc ps t2 t71 t72 t2' t73)
  | .x1 t73 => (.ext 4, o29b_1 ra rb rc ps t2 t71 t72 t73)
noncomputable def r29b (ra rb rc : Int) (ps : List (List AV)) (t2 : Int) (t71 : List (List AV)) (t72 t73 : Int) : Option T29b := run (fun x => stp29b ra rb rc ps t2 t71 t72 x.t73) (⟨t73⟩ : S29b)
noncomputable def i29b_0 (ra rb rc : Int) (ps : List (List AV)) (t2 : Int) (t71 : List (List AV)) (t72 t73 : Int) : Bool := match r29b ra rb rc ps t2 t71 t72 t73 with
  | some (.x0 _ _) => true
  | _ => false
noncomputable def v29b_0_t2' (ra rb rc : Int) (ps : List (List AV)) (t2 : Int) (t71 : List (List AV)) (t72 t73 : Int) : Int := match r29b ra rb rc ps t2 t71 t72 t73 with
  | some (.x0 t2' _) => t2'
  | _ => default
noncomputable def v29b_0_t73 (ra rb rc : Int) (ps : List (List AV)) (t2 : Int) (t71 : List (List AV)) (t72 t73 : Int) : Int := match r29b ra rb rc ps t2 t71 t72 t73 with
  | some (.x0 _ t73) => t73
  | _ => default
noncomputable def i29b_1 (ra rb rc : Int) (ps : List (List AV)) (t2 : Int) (t71 : List (List AV)) (t72 t73 : Int) : Bool := match r29b ra rb rc ps t2 t71 t72 t73 with
  | some (.x1 _) => true
  | _ => false
noncomputable def v29b_1_t73 (ra rb rc : Int) (ps : List (List AV)) (t2 : Int) (t71 : List (List AV)) (t72 t73 : Int) : Int := match r29b ra rb rc ps t2 t71 t72 t73 with
  | some (.x1 t73) => t73
  | _ => default
noncomputable def l29b (st : St) : Option (List (Bool × Ex × St)) := match normW Try.prog [(1, none), (2, none), (71, none), (72, none), (73, none)] 0 st with
  | some ([.rp [.int .i64, .int .i64, .int .i64, .sl 39] [.i .i64 ra, .i .i64 rb, .i .i64 rc, .rs 39 ps] 0, .i .i64 t2, .rs 39 t71, .i .i64 t72, .i .i64 t73], [], 0, 104) => some [(i29b_0 ra rb rc ps t2 t71 t72 t73, .ret, o29b_0 ra rb rc ps t2 t71 t72 (v29b_0_t2' ra rb rc ps t2 t71 t72 t73) (v29b_0_t73 ra rb rc ps t2 t71 t72 t73)), (i29b_1 ra rb rc ps t2 t71 t72 t73, .ext 4, o29b_1 ra rb rc ps t2 t71 t72 (v29b_1_t73 ra rb rc ps t2 t71 t72 t73))]
  | _ => none
noncomputable def L29 : LSpec := fun p st => match p with
  | [false, true, false, true, true, true] => l29a st
  | [false, true, false, true, true, true, true] => l29b st
  | _ => none
theorem is29a_0 (ra rb rc : Int) (ps : List (List AV)) (t2 : Int) (t33 : List (List AV)) (t34 t35 : Int) (m24 : List (AV × AV)) (h : i29a_0 ra rb rc ps t2 t33 t34 t35 m24 = true) : r29a ra rb rc ps t2 t33 t34 t35 m24 = some (.x0 (v29a_0_t2' ra rb rc ps t2 t33 t34 t35 m24) (v29a_0_t35 ra rb rc ps t2 t33 t34 t35 m24) (v29a_0_m24 ra rb rc ps t2 t33 t34 t35 m24)) := by
  unfold i29a_0 at h
  unfold v29a_0_t2' v29a_0_t35 v29a_0_m24
  generalize r29a ra rb rc ps t2 t33 t34 t35 m24 = r at h ⊢
  rcases r with _ | y
  · cases h
  · cases y <;> first | rfl | cases h
theorem is29a_1 (ra rb rc : Int) (ps : List (List AV)) (t2 : Int) (t33 : List (List AV)) (t34 t35 : Int) (m24 : List (AV × AV)) (h : i29a_1 ra rb rc ps t2 t33 t34 t35 m24 = true) : r29a ra rb rc ps t2 t33 t34 t35 m24 = some (.x1 (v29a_1_t35 ra rb rc ps t2 t33 t34 t35 m24) (v29a_1_m24 ra rb rc ps t2 t33 t34 t35 m24)) := by
  unfold i29a_1 at h
  unfold v29a_1_t35 v29a_1_m24
  generalize r29a ra rb rc ps t2 t33 t34 t35 m24 = r at h ⊢
  rcases r with _ | y
  · cases h
  · cases y <;> first | rfl | cases h
theorem round29a (ra rb rc : Int) (ps : List (List AV)) (t2 : Int) (t33 : List (List AV)) (t34 t35 : Int) (m24 : List (AV × AV)) : round Try.prog SS5 (ro 20) L29 lp29a [false, true, false, true, true, true] [(1, none), (2, none), (3, none), (33, none), (34, none), (35, none)] 25 (s29a ra rb rc ps t2 t33 t34 t35 m24) =
    cond (decide (t35 < t34)) (cond (inb t35 t33.length) (cond (g61 (fS (t33.getD t35.toNat []) 0)) (cond (!w61_0 (fS (t33.getD t35.toNat []) 0)) (some (.ret, o29a_0 ra rb rc ps t2 t33 t34 5 t35 m24)) (cond (toB ((mget (AV.s (fS (t33.getD t35.toNat []) 0)) m24).getD (AV.b false))) (some (.ret, o29a_0 ra rb rc ps t2 t33 t34 6 t35 m24)) (cond (g55 (fI (t33.getD t35.toNat []) 1) 1 2000) (cond (!w55_0 (fI (t33.getD t35.toNat []) 1) 1 2000) (some (.ret, o29a_0 ra rb rc ps t2 t33 t34 1 t35 m24)) (cond (g55 (fI (t33.getD t35.toNat []) 2) 0 9) (cond (!w55_0 (fI (t33.getD t35.toNat []) 2) 0 9) (some (.ret, o29a_0 ra rb rc ps t2 t33 t34 1 t35 m24)) (cond (g55 (fI (t33.getD t35.toNat []) 3) 0 9) (cond (!w55_0 (fI (t33.getD t35.toNat []) 3) 0 9) (some (.ret, o29a_0 ra rb rc ps t2 t33 t34 1 t35 m24)) (some (.nrm, s29a ra rb rc ps t2 t33 t34 (IntKind.i64.wrap (t35 + 1)) (mset (AV.s (fS (t33.getD t35.toNat []) 0)) (AV.b true) m24)))) (none))) (none))) (none)))) (none)) (none)) (some (.ext 1, o29a_1 ra rb rc ps t2 t33 t34 t35 m24)) := by kernel_rfl
theorem rnd29a (ra rb rc : Int) (ps : List (List AV)) (t2 : Int) (t33 : List (List AV)) (t34 : Int) (x : S29a) : round Try.prog SS5 (ro 20) L29 lp29a [false, true, false, true, true, true] [(1, none), (2, none), (3, none), (33, none), (34, none), (35, none)] 25 ((fun x => s29a ra rb rc ps t2 t33 t34 x.t35 x.m24) x) = toR (fun x => s29a ra rb rc ps t2 t33 t34 x.t35 x.m24) (ou29a ra rb rc ps t2 t33 t34) (stp29a ra rb rc ps t2 t33 t34 x.t35 x.m24) := by
  refine (round29a _ _ _ _ _ _ _ _ _ ).trans ?_
  unfold stp29a
  simp only [toR_cond]
  rfl
theorem lok29a {st : St} {outs : List (Bool × Ex × St)} {e : Ex} {s : St} (hl : l29a st = some outs) (hch : Chosen outs e s) :
    ∃ keep nb, 0 ≤ nb ∧ LB Try.prog SS5 (ro 20) L29 lp29a [false, true, false, true, true, true] keep nb st e s := by
  unfold l29a at hl
  split at hl
  · rename_i ra rb rc ps t2 t33 t34 t35 m24 hno
    cases hl
    have hno := normW_norm hno
    refine ⟨_, _, ?_, .enter hno ?_⟩
    · decide
    have main := fun y h => LB_run (x := (⟨t35, m24⟩ : S29a)) (y := y) (nb := 25) (fun y => by cases y <;> simp [ou29a]) (rnd29a ra rb rc ps t2 t33 t34) h
    obtain ⟨x, hx, hg, rfl, rfl⟩ := chosen_any hch
    simp only [List.mem_cons, List.not_mem_nil, or_false] at hx
    rcases hx with rfl | rfl
    · exact main _ (is29a_0 ra rb rc ps t2 t33 t34 t35 m24 hg)
    · exact main _ (is29a_1 ra rb rc ps t2 t33 t34 t35 m24 hg)
  · cases hl
theorem is29b_0 (ra rb rc : Int) (ps : List (List AV)) (t2 : Int) (t71 : List (List AV)) (t72 t73 : Int) (h : i29b_0 ra rb rc ps t2 t71 t72 t73 = true) : r29b ra rb rc ps t2 t71 t72 t73 = some (.x0 (v29b_0_t2' ra rb rc ps t2 t71 t72 t73) (v29b_0_t73 ra rb rc ps t2 t71 t72 t73)) := by
  unfold i29b_0 at h
  unfold v29b_0_t2' v29b_0_t73
  generalize r29b ra rb rc ps t2 t71 t72 t73 = r at h ⊢
  rcases r with _ | y
  · cases h
  · cases y <;> first | rfl | cases h
theorem is29b_1 (ra rb rc : Int) (ps : List (List AV)) (t2 : Int) (t71 : List (List AV)) (t72 t73 : Int) (h : i29b_1 ra rb rc ps t2 t71 t72 t73 = true) : r29b ra rb rc ps t2 t71 t72 t73 = some (.x1 (v29b_1_t73 ra rb rc ps t2 t71 t72 t73)) := by
  unfold i29b_1 at h
  unfold v29b_1_t73
  generalize r29b ra rb rc ps t2 t71 t72 t73 = r at h ⊢
  rcases r with _ | y
  · cases h
  · cases y <;> first | rfl | cases h
theorem round29b (ra rb rc : Int) (ps : List (List AV)) (t2 : Int) (t71 : List (List AV)) (t72 t73 : Int) : round Try.prog SS5 (ro 20) L29 lp29b [false, true, false, true, true, true, true] [(1, none), (2, none), (71, none), (72, none), (73, none)] 0 (s29b ra rb rc ps t2 t71 t72 t73) =
    cond (decide (t73 < t72)) (cond (inb t73 t71.length) (cond (g55 (fI (t71.getD t73.toNat []) 4) 0 (IntKind.i64.wrap ((↑ps.length : Int) - 1))) (cond (!w55_0 (fI (t71.getD t73.toNat []) 4) 0 (IntKind.i64.wrap ((↑ps.length : Int) - 1))) (some (.ret, o29b_0 ra rb rc ps t2 t71 t72 7 t73)) (cond (inb (fI (t71.getD t73.toNat []) 4) ps.length) (cond (fI (ps.getD (fI (t71.getD t73.toNat []) 4).toNat []) 4 != t73) (some (.ret, o29b_0 ra rb rc ps t2 t71 t72 10 t73)) (cond (!((w62_0 (fS (ps.getD (fI (t71.getD t73.toNat []) 4).toNat []) 0) (fI (ps.getD (fI (t71.getD t73.toNat []) 4).toNat []) 1) (fI (ps.getD (fI (t71.getD t73.toNat []) 4).toNat []) 2) (fI (ps.getD (fI (t71.getD t73.toNat []) 4).toNat []) 3) (fI (ps.getD (fI (t71.getD t73.toNat []) 4).toNat []) 4)).toList == (w63_0 (fS (t71.getD t73.toNat []) 0) (fI (t71.getD t73.toNat []) 1) (fI (t71.getD t73.toNat []) 2) (fI (t71.getD t73.toNat []) 3) (fI (t71.getD t73.toNat []) 4)).toList && (w62_1 (fS (ps.getD (fI (t71.getD t73.toNat []) 4).toNat []) 0) (fI (ps.getD (fI (t71.getD t73.toNat []) 4).toNat []) 1) (fI (ps.getD (fI (t71.getD t73.toNat []) 4).toNat []) 2) (fI (ps.getD (fI (t71.getD t73.toNat []) 4).toNat []) 3) (fI (ps.getD (fI (t71.getD t73.toNat []) 4).toNat []) 4) == w63_1 (fS (t71.getD t73.toNat []) 0) (fI (t71.getD t73.toNat []) 1) (fI (t71.getD t73.toNat []) 2) (fI (t71.getD t73.toNat []) 3) (fI (t71.getD t73.toNat []) 4) && (w62_2 (fS (ps.getD (fI (t71.getD t73.toNat []) 4).toNat []) 0) (fI (ps.getD (fI (t71.getD t73.toNat []) 4).toNat []) 1) (fI (ps.getD (fI (t71.getD t73.toNat []) 4).toNat []) 2) (fI (ps.getD (fI (t71.getD t73.toNat []) 4).toNat []) 3) (fI (ps.getD (fI (t71.getD t73.toNat []) 4).toNat []) 4) == w63_2 (fS (t71.getD t73.toNat []) 0) (fI (t71.getD t73.toNat []) 1) (fI (t71.getD t73.toNat []) 2) (fI (t71.getD t73.toNat []) 3) (fI (t71.getD t73.toNat []) 4) && (w62_3 (fS (ps.getD (fI (t71.getD t73.toNat []) 4).toNat []) 0) (fI (ps.getD (fI (t71.getD t73.toNat []) 4).toNat []) 1) (fI (ps.getD (fI (t71.getD t73.toNat []) 4).toNat []) 2) (fI (ps.getD (fI (t71.getD t73.toNat []) 4).toNat []) 3) (fI (ps.getD (fI (t71.getD t73.toNat []) 4).toNat []) 4) == w63_3 (fS (t71.getD t73.toNat []) 0) (fI (t71.getD t73.toNat []) 1) (fI (t71.getD t73.toNat []) 2) (fI (t71.getD t73.toNat []) 3) (fI (t71.getD t73.toNat []) 4) && true))))) (some (.ret, o29b_0 ra rb rc ps t2 t71 t72 10 t73)) (some (.nrm, s29b ra rb rc ps t2 t71 t72 (IntKind.i64.wrap (t73 + 1)))))) (none))) (none)) (none)) (some (.ext 4, o29b_1 ra rb rc ps t2 t71 t72 t73)) := by kernel_rfl
theorem rnd29b (ra rb rc : Int) (ps : List (List AV)) (t2 : Int) (t71 : List (List AV)) (t72 : Int) (x : S29b) : round Try.prog SS5 (ro 20) L29 lp29b [false, true, false, true, true, true, true] [(1, none), (2, none), (71, none), (72, none), (73, none)] 0 ((fun x => s29b ra rb rc ps t2 t71 t72 x.t73) x) = toR (fun x => s29b ra rb rc ps t2 t71 t72 x.t73) (ou29b ra rb rc ps t2 t71 t72) (stp29b ra rb rc ps t2 t71 t72 x.t73) := by
  refine (round29b _ _ _ _ _ _ _ _ ).trans ?_
  unfold stp29b
  simp only [toR_cond]
  rfl
theorem lok29b {st : St} {outs : List (Bool × Ex × St)} {e : Ex} {s : St} (hl : l29b st = some outs) (hch : Chosen outs e s) :
    ∃ keep nb, 0 ≤ nb ∧ LB Try.prog SS5 (ro 20) L29 lp29b [false, true, false, true, true, true, true] keep nb st e s := by
  unfold l29b at hl
  split at hl
  · rename_i ra rb rc ps t2 t71 t72 t73 hno
    cases hl
    have hno := normW_norm hno
    refine ⟨_, _, ?_, .enter hno ?_⟩
    · decide
    have main := fun y h => LB_run (x := (⟨t73⟩ : S29b)) (y := y) (nb := 0) (fun y => by cases y <;> simp [ou29b]) (rnd29b ra rb rc ps t2 t71 t72) h
    obtain ⟨x, hx, hg, rfl, rfl⟩ := chosen_any hch
    simp only [List.mem_cons, List.not_mem_nil, or_false] at hx
    rcases hx with rfl | rfl
    · exact main _ (is29b_0 ra rb rc ps t2 t71 t72 t73 hg)
    · exact main _ (is29b_1 ra rb rc ps t2 t71 t72 t73 hg)
  · cases hl
theorem L29_ok (q : Pl) (c : Code) (hq : locate c29 q.reverse = some (.loop c)) (st : St) (outs : List (Bool × Ex × St)) (e : Ex) (s : St) (hl : L29 q st = some outs) (hch : Chosen outs e s) :
    ∃ keep nb, 0 ≤ nb ∧ LB Try.prog SS5 (ro 20) L29 c q keep nb st e s := by
  unfold L29 at hl
  split at hl
  · have : locate c29 ([false, true, false, true, true, true] : Pl).reverse = some (.loop lp29a) := by kernel_rfl
    rw [this] at hq
    cases hq
    exact lok29a hl hch
  · have : locate c29 ([false, true, false, true, true, true, true] : Pl).reverse = some (.loop lp29b) := by kernel_rfl
    rw [this] at hq
    cases hq
    exact lok29b hl hch
  · cases hl
theorem lok29 : LOK Try.prog SS5 (ro 20) L29 0 false c29 [] :=
  lok_lo L29_ok c29 [] false (locate_nil _) (by kernel_rfl)
noncomputable def t29 (ra rb rc : Int) (ps : List (List AV)) : Tr ((Int)) :=
  .cn (g55 ra 0 2000) (.cn (!w55_0 ra 0 2000) (.lf (1)) (.cn (g55 rb 0 9) (.cn (!w55_0 rb 0 9) (.lf (1)) (.cn (g55 rc 0 9) (.cn (!w55_0 rc 0 9) (.lf (1)) (.cn (decide ((↑ps.length : Int) > 10)) (.lf (3)) (.cn (i29a_0 ra rb rc ps 0 ps (↑ps.length : Int) 0 []) (.lf (v29a_0_t2' ra rb rc ps 0 ps (↑ps.length : Int) 0 [])) (.cn (i29a_1 ra rb rc ps 0 ps (↑ps.length : Int) 0 []) (.cn (i29b_0 ra rb rc ps 0 ps (↑ps.length : Int) 0) (.lf (v29b_0_t2' ra rb rc ps 0 ps (↑ps.length : Int) 0)) (.cn (i29b_1 ra rb rc ps 0 ps (↑ps.length : Int) 0) (.lf (0)) (.nn))) (.nn))))) (.nn))) (.nn))) (.nn)
noncomputable def g29 (ra rb rc : Int) (ps : List (List AV)) : Bool := (t29 ra rb rc ps).g
noncomputable def w29_0 (ra rb rc : Int) (ps : List (List AV)) : Int := (t29 ra rb rc ps).val
theorem eq29 (ra rb rc : Int) (ps : List (List AV)) : evF Try.prog SS5 (ro 20) L29 Try.f20 [.agg [.i .i64 ra, .i .i64 rb, .i .i64 rc, .rs 39 ps]] = (t29 ra rb rc ps).opt (fun (x : (Int)) => (.i .i64 x : AV)) := by kernel_rfl
theorem con29 (ra rb rc : Int) (ps : List (List AV)) (h : g29 ra rb rc ps = true) : Con Try.prog 20 [.agg [.i .i64 ra, .i .i64 rb, .i .i64 rc, .rs 39 ps]] [] (.i .i64 (w29_0 ra rb rc ps)) [] :=
  con_of SS5_ok mixed Try.func20 (c := c29) rfl (names 20 _ Try.func20) lok29 ((eq29 ra rb rc ps).trans (Tr.sound _ _ h))
noncomputable def e29 (args : List AV) (rows : List Blk) : Option (Bool × AV × List Blk) := match args, rows with
  | [.agg [.i .i64 ra, .i .i64 rb, .i .i64 rc, .rs 39 ps]], [] => some (g29 ra rb rc ps, .i .i64 (w29_0 ra rb rc ps), [])
  | _, _ => none
theorem e29_ok (args : List AV) (rows : List Blk) (pre : Bool) (v : AV) (rows' : List Blk) (h : e29 args rows = some (pre, v, rows')) (hp : pre = true) : Con Try.prog 20 args rows v rows' := by
  unfold e29 at h
  split at h
  · cases h; exact con29 _ _ _ _ hp
  · cases h
-- SPEC 29
end Go.Proofs.Ytfbfohkgajeopac

set_option maxRecDepth 100000
set_option linter.unusedVariables false
namespace Go.Proofs.Ytfbfohkgajeopac
open Go Go.Ev

noncomputable def c51 : Code := match Try.f25.body with | some c => c | _ => .skip
theorem lok51 : LOK Try.prog S0 (ro 25) (fun _ _ => none) 0 false c51 [] :=
  lok_lo (fun _ _ _ _ _ _ _ h _ => by cases h) c51 [] false (locate_nil _) (by kernel_rfl)
noncomputable def t51 (cs : List (List AV)) (q0 q1 : Int) : Tr ((Int)) :=
  .cn (inb q0 cs.length) (.cn (inb q1 10) (.cn (ctsAt (cts Try.prog 94) (0 + q1.toNat * 1) (cts Try.prog 3)) (.lf (toI ((cs.getD q0.toNat []).getD (0 + q1.toNat * 1) AV.u))) (.nn)) (.nn)) (.nn)
noncomputable def g51 (cs : List (List AV)) (q0 q1 : Int) : Bool := (t51 cs q0 q1).g
noncomputable def w51_0 (cs : List (List AV)) (q0 q1 : Int) : Int := (t51 cs q0 q1).val
theorem eq51 (cs : List (List AV)) (q0 q1 : Int) : evF Try.prog S0 (ro 25) (fun _ _ => none) Try.f25 [.rs 94 cs, .agg [.i .i64 q0, .i .i64 q1]] = (t51 cs q0 q1).opt (fun (x : (Int)) => (.i .i64 x : AV)) := by kernel_rfl
theorem con51 (cs : List (List AV)) (q0 q1 : Int) (h : g51 cs q0 q1 = true) : Con Try.prog 25 [.rs 94 cs, .agg [.i .i64 q0, .i .i64 q1]] [] (.i .i64 (w51_0 cs q0 q1)) [] :=
  con_of S0_ok mixed Try.func25 (c := c51) rfl (names 25 _ Try.func25) lok51 ((eq51 cs q0 q1).trans (Tr.sound _ _ h))
noncomputable def e51 (args : List AV) (rows : List Blk) : Option (Bool × AV × List Blk) := match args, rows with
  | [.rs 94 cs, .agg [.i .i64 q0, .i .i64 q1]], [] => some (g51 cs q0 q1, .i .i64 (w51_0 cs q0 q1), [])
  | _, _ => none
theorem e51_ok (args : List AV) (rows : List Blk) (pre : Bool) (v : AV) (rows' : List Blk) (h : e51 args rows = some (pre, v, rows')) (hp : pre = true) : Con Try.prog 25 args rows v rows' := by
  unfold e51 at h
  split at h
  · cases h; exact con51 _ _ _ hp
  · cases h
-- SPEC 51
end Go.Proofs.Ytfbfohkgajeopac

set_option maxRecDepth 100000
set_option linter.unusedVariables false
namespace Go.Proofs.Ytfbfohkgajeopac
open Go Go.Ev

noncomputable def c52 : Code := match Try.f23.body with | some c => c | _ => .skip
theorem lok52 : LOK Try.prog S0 (ro 23) (fun _ _ => none) 0 false c52 [] :=
  lok_lo (fun _ _ _ _ _ _ _ h _ => by cases h) c52 [] false (locate_nil _) (by kernel_rfl)
noncomputable def t52 (ra rb rc : Int) (ps : List (List AV)) : Tr ((Int) × (Int)) :=
  .lf (ra, rb)
noncomputable def g52 (ra rb rc : Int) (ps : List (List AV)) : Bool := (t52 ra rb rc ps).g
noncomputable def w52_0 (ra rb rc : Int) (ps : List (List AV)) : Int := (t52 ra rb rc ps).val.1
noncomputable def w52_1 (ra rb rc : Int) (ps : List (List AV)) : Int := (t52 ra rb rc ps).val.2
theorem eq52 (ra rb rc : Int) (ps : List (List AV)) : evF Try.prog S0 (ro 23) (fun _ _ => none) Try.f23 [.agg [.i .i64 ra, .i .i64 rb, .i .i64 rc, .rs 39 ps]] = (t52 ra rb rc ps).opt (fun (x : (Int) × (Int)) => (.agg [.i .i64 x.1, .i .i64 x.2] : AV)) := by kernel_rfl
theorem con52 (ra rb rc : Int) (ps : List (List AV)) (h : g52 ra rb rc ps = true) : Con Try.prog 23 [.agg [.i .i64 ra, .i .i64 rb, .i .i64 rc, .rs 39 ps]] [] (.agg [.i .i64 (w52_0 ra rb rc ps), .i .i64 (w52_1 ra rb rc ps)]) [] :=
  con_of S0_ok mixed Try.func23 (c := c52) rfl (names 23 _ Try.func23) lok52 ((eq52 ra rb rc ps).trans (Tr.sound _ _ h))
noncomputable def e52 (args : List AV) (rows : List Blk) : Option (Bool × AV × List Blk) := match args, rows with
  | [.agg [.i .i64 ra, .i .i64 rb, .i .i64 rc, .rs 39 ps]], [] => some (g52 ra rb rc ps, .agg [.i .i64 (w52_0 ra rb rc ps), .i .i64 (w52_1 ra rb rc ps)], [])
  | _, _ => none
theorem e52_ok (args : List AV) (rows : List Blk) (pre : Bool) (v : AV) (rows' : List Blk) (h : e52 args rows = some (pre, v, rows')) (hp : pre = true) : Con Try.prog 23 args rows v rows' := by
  unfold e52 at h
  split at h
  · cases h; exact con52 _ _ _ _ hp
  · cases h
-- SPEC 52
end Go.Proofs.Ytfbfohkgajeopac

set_option maxRecDepth 100000
set_option linter.unusedVariables false
namespace Go.Proofs.Ytfbfohkgajeopac
open Go Go.Ev

noncomputable def c71 : Code := match Try.f24.body with | some c => c | _ => .skip
theorem lok71 : LOK Try.prog S0 (ro 24) (fun _ _ => none) 0 false c71 [] :=
  lok_lo (fun _ _ _ _ _ _ _ h _ => by cases h) c71 [] false (locate_nil _) (by kernel_rfl)
noncomputable def t71 (q0 q1 : Int) (nm : ByteArray) (pa pb pc pd : Int) : Tr ((Int) × (Int) × (Bool)) :=
  .cn (pb == q1) (.lf (IntKind.i64.wrap (q0 - pa), pc, decide (pa ≤ q0))) (.lf (IntKind.i64.wrap (q0 - pa), pc, false))
noncomputable def g71 (q0 q1 : Int) (nm : ByteArray) (pa pb pc pd : Int) : Bool := (t71 q0 q1 nm pa pb pc pd).g
noncomputable def w71_0 (q0 q1 : Int) (nm : ByteArray) (pa pb pc pd : Int) : Int := (t71 q0 q1 nm pa pb pc pd).val.1
noncomputable def w71_1 (q0 q1 : Int) (nm : ByteArray) (pa pb pc pd : Int) : Int := (t71 q0 q1 nm pa pb pc pd).val.2.1
noncomputable def w71_2 (q0 q1 : Int) (nm : ByteArray) (pa pb pc pd : Int) : Bool := (t71 q0 q1 nm pa pb pc pd).val.2.2
theorem eq71 (q0 q1 : Int) (nm : ByteArray) (pa pb pc pd : Int) : evF Try.prog S0 (ro 24) (fun _ _ => none) Try.f24 [.agg [.i .i64 q0, .i .i64 q1], .agg [.s nm, .i .i64 pa, .i .i64 pb, .i .i64 pc, .i .i64 pd]] = (t71 q0 q1 nm pa pb pc pd).opt (fun (x : (Int) × (Int) × (Bool)) => (.tup [.agg [.i .i64 x.1, .i .i64 x.2.1], .b x.2.2] : AV)) := by kernel_rfl
theorem con71 (q0 q1 : Int) (nm : ByteArray) (pa pb pc pd : Int) (h : g71 q0 q1 nm pa pb pc pd = true) : Con Try.prog 24 [.agg [.i .i64 q0, .i .i64 q1], .agg [.s nm, .i .i64 pa, .i .i64 pb, .i .i64 pc, .i .i64 pd]] [] (.tup [.agg [.i .i64 (w71_0 q0 q1 nm pa pb pc pd), .i .i64 (w71_1 q0 q1 nm pa pb pc pd)], .b (w71_2 q0 q1 nm pa pb pc pd)]) [] :=
  con_of S0_ok mixed Try.func24 (c := c71) rfl (names 24 _ Try.func24) lok71 ((eq71 q0 q1 nm pa pb pc pd).trans (Tr.sound _ _ h))
noncomputable def e71 (args : List AV) (rows : List Blk) : Option (Bool × AV × List Blk) := match args, rows with
  | [.agg [.i .i64 q0, .i .i64 q1], .agg [.s nm, .i .i64 pa, .i .i64 pb, .i .i64 pc, .i .i64 pd]], [] => some (g71 q0 q1 nm pa pb pc pd, .tup [.agg [.i .i64 (w71_0 q0 q1 nm pa pb pc pd), .i .i64 (w71_1 q0 q1 nm pa pb pc pd)], .b (w71_2 q0 q1 nm pa pb pc pd)], [])
  | _, _ => none
theorem e71_ok (args : List AV) (rows : List Blk) (pre : Bool) (v : AV) (rows' : List Blk) (h : e71 args rows = some (pre, v, rows')) (hp : pre = true) : Con Try.prog 24 args rows v rows' := by
  unfold e71 at h
  split at h
  · cases h; exact con71 _ _ _ _ _ _ _ hp
  · cases h
-- SPEC 71
end Go.Proofs.Ytfbfohkgajeopac

set_option maxRecDepth 100000
set_option linter.unusedVariables false
namespace Go.Proofs.Ytfbfohkgajeopac
open Go Go.Ev
noncomputable def SS6 : Ev.Spec := insS 24 e71 (S0)
theorem SS6_ok : SpecOK Try.prog SS6 := insS_ok e71_ok (S0_ok)
end Go.Proofs.Ytfbfohkgajeopac
