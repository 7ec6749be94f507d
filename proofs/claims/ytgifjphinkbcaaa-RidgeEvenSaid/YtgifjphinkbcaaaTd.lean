/-
  The law RidgeEven of the roofer's ridges answers true whatever Ridge it is handed; no conditions.
-/
import Derived.Test.YtgifjphinkbcaaaTc
import Derived.KernelRfl
import Derived.Test.YtgifjphinkbcaaaProg
import Derived.Test.YtgifjphinkbcaaaTa
set_option linter.unusedVariables false
namespace Go.Proofs.Ytgifjphinkbcaaa
open Go Go.Ev
def roTab : List (Nat × List Nat) := [(3, [7, 8]), (4, [4]), (14, [9, 11]), (16, [9]), (17, [15]), (24, [5]), (26, [9]), (29, [5, 7, 8]), (31, [1, 2]), (33, [4, 7, 8]), (34, [22]), (35, [25]), (37, [6, 7, 11]), (38, [9]), (40, [8, 11, 12]), (41, [12]), (42, [9, 13, 14]), (43, [13, 14]), (45, [5, 6, 8, 9]), (46, [14]), (47, [16]), (48, [0]), (49, [0]), (52, [2]), (56, [5, 7, 8]), (62, [2]), (63, [2]), (64, [5]), (65, [8]), (68, [8]), (70, [3]), (71, [4]), (72, [5, 6, 7, 8, 9]), (76, [6, 7]), (77, [2, 3, 5]), (80, [12]), (81, [6, 7, 12]), (87, [6, 10]), (88, [5])]
def lookN : List (Nat × List Nat) → Nat → List Nat
  | [], _ => []
  | (k, l) :: r, f => cond (Nat.beq k f) l (lookN r f)
def ro (f : FuncId) (t : Nat) : Bool := !(lookN roTab f).any (Nat.beq t)
theorem mixed : Try.prog.follows .mixedOrders = true := by kernel_rfl
theorem names0 : (Try.prog.funcs.toList.all fun fn => !(fn.name == "runtime.NumGoroutine")) = true := by kernel_rfl
theorem names (f : FuncId) (fn : Func) (h : Try.prog.funcs[f]? = some fn) : (fn.name == "runtime.NumGoroutine") = false := by
  have := List.all_eq_true.1 names0 fn (Array.mem_toList_iff.2 (Array.mem_of_getElem? h))
  simpa using this
def S0 : Ev.Spec := fun _ _ _ => none
theorem S0_ok : SpecOK Try.prog S0 := fun _ _ _ _ _ _ h => by cases h
end Go.Proofs.Ytgifjphinkbcaaa

set_option maxRecDepth 100000
set_option linter.unusedVariables false
namespace Go.Proofs.Ytgifjphinkbcaaa
open Go Go.Ev
/-! ### Memo: what the closure of Even and its memo give one another -/
abbrev PS := List (List AV)
abbrev Mp := List (AV × AV)
abbrev FT := Int → Int → Int → PS → Int → Int → Int → PS → Int → Int → Mp → Int × Mp
abbrev GT := Int → Int → Int → PS → Int → Int → Int → PS → Int → Int → Mp → Bool
def rpRi (ra rb rc : Int) (ps : PS) : AV := .rp [.int .i64, .int .i64, .int .i64, .sl 31] [.i .i64 ra, .i .i64 rb, .i .i64 rc, .rs 31 ps] 0
def fn68 (ra rb rc : Int) (ps : PS) : AV := .fn 68 [.rp [.int .i64, .int .i64, .int .i64, .sl 31] [.i .i64 ra, .i .i64 rb, .i .i64 rc, .rs 31 ps] 0, .p 0 0 0, .p 1 0 0]
def rowsE (ra rb rc : Int) (ps : PS) (m : Mp) : List Blk := [.row 94 [[.mp 2]], .row 76 [[fn68 ra rb rc ps]], .mp 78 3 m]
/-- Of the closure. -/
class LF where
  F : FT
  G : GT
  ok : ∀ ra rb rc ps ra' rb' rc' ps' w p m, G ra rb rc ps ra' rb' rc' ps' w p m = true → Con Try.prog 68 [.agg [.i .i64 w, .i .i64 p], rpRi ra rb rc ps, .p 0 0 0, .p 1 0 0] (rowsE ra' rb' rc' ps' m) (.i .i64 (F ra rb rc ps ra' rb' rc' ps' w p m).1) (rowsE ra' rb' rc' ps' (F ra rb rc ps ra' rb' rc' ps' w p m).2)
/-- Of get. -/
class LG where
  F : FT
  G : GT
  ok : ∀ ra rb rc ps ra' rb' rc' ps' w p m, G ra rb rc ps ra' rb' rc' ps' w p m = true → Con Try.prog 69 [.p 0 0 0, .agg [.i .i64 w, .i .i64 p], fn68 ra rb rc ps] (rowsE ra' rb' rc' ps' m) (.i .i64 (F ra rb rc ps ra' rb' rc' ps' w p m).1) (rowsE ra' rb' rc' ps' (F ra rb rc ps ra' rb' rc' ps' w p m).2)
noncomputable def eLF [LF] (args : List AV) (rows : List Blk) : Option (Bool × AV × List Blk) := match args, rows with
  | [.agg [.i .i64 w, .i .i64 p], .rp [.int .i64, .int .i64, .int .i64, .sl 31] [.i .i64 ra, .i .i64 rb, .i .i64 rc, .rs 31 ps] 0, .p 0 0 0, .p 1 0 0],
    [.row 94 [[.mp 2]], .row 76 [[.fn 68 [.rp [.int .i64, .int .i64, .int .i64, .sl 31] [.i .i64 ra', .i .i64 rb', .i .i64 rc', .rs 31 ps'] 0, .p 0 0 0, .p 1 0 0]]], .mp 78 3 m] =>
    some (LF.G ra rb rc ps ra' rb' rc' ps' w p m, .i .i64 (LF.F ra rb rc ps ra' rb' rc' ps' w p m).1, [.row 94 [[.mp 2]], .row 76 [[.fn 68 [.rp [.int .i64, .int .i64, .int .i64, .sl 31] [.i .i64 ra', .i .i64 rb', .i .i64 rc', .rs 31 ps'] 0, .p 0 0 0, .p 1 0 0]]], .mp 78 3 (LF.F ra rb rc ps ra' rb' rc' ps' w p m).2])
  | _, _ => none
theorem eLF_ok [LF] (args : List AV) (rows : List Blk) (pre : Bool) (v : AV) (rows' : List Blk) (h : eLF args rows = some (pre, v, rows')) (hp : pre = true) : Con Try.prog 68 args rows v rows' := by
  unfold eLF at h
  split at h
  · cases h; exact LF.ok _ _ _ _ _ _ _ _ _ _ _ hp
  · cases h
noncomputable def eLG [LG] (args : List AV) (rows : List Blk) : Option (Bool × AV × List Blk) := match args, rows with
  | [.p 0 0 0, .agg [.i .i64 w, .i .i64 p], .fn 68 [.rp [.int .i64, .int .i64, .int .i64, .sl 31] [.i .i64 ra, .i .i64 rb, .i .i64 rc, .rs 31 ps] 0, .p 0 0 0, .p 1 0 0]],
    [.row 94 [[.mp 2]], .row 76 [[.fn 68 [.rp [.int .i64, .int .i64, .int .i64, .sl 31] [.i .i64 ra', .i .i64 rb', .i .i64 rc', .rs 31 ps'] 0, .p 0 0 0, .p 1 0 0]]], .mp 78 3 m] =>
    some (LG.G ra rb rc ps ra' rb' rc' ps' w p m, .i .i64 (LG.F ra rb rc ps ra' rb' rc' ps' w p m).1, [.row 94 [[.mp 2]], .row 76 [[.fn 68 [.rp [.int .i64, .int .i64, .int .i64, .sl 31] [.i .i64 ra', .i .i64 rb', .i .i64 rc', .rs 31 ps'] 0, .p 0 0 0, .p 1 0 0]]], .mp 78 3 (LG.F ra rb rc ps ra' rb' rc' ps' w p m).2])
  | _, _ => none
theorem eLG_ok [LG] (args : List AV) (rows : List Blk) (pre : Bool) (v : AV) (rows' : List Blk) (h : eLG args rows = some (pre, v, rows')) (hp : pre = true) : Con Try.prog 69 args rows v rows' := by
  unfold eLG at h
  split at h
  · cases h; exact LG.ok _ _ _ _ _ _ _ _ _ _ _ hp
  · cases h
noncomputable def SLF [LF] : Ev.Spec := insS 68 eLF S0
theorem SLF_ok [LF] : SpecOK Try.prog SLF := insS_ok eLF_ok S0_ok
noncomputable def SLG [LG] : Ev.Spec := insS 69 eLG S0
theorem SLG_ok [LG] : SpecOK Try.prog SLG := insS_ok eLG_ok S0_ok
end Go.Proofs.Ytgifjphinkbcaaa

set_option maxRecDepth 100000
set_option maxHeartbeats 1000000
set_option linter.unusedVariables false
namespace Go.Proofs.Ytgifjphinkbcaaa
open Go Go.Ev
variable [LG]

/-! ### Even$1 -/
noncomputable def c68 : Code := match Try.f68.body with | some c => c | _ => .skip
noncomputable def lp68a : Code := loopAt c68 [true, true, true, false, true, false]
noncomputable def s68a (w : Int) (p : Int) (t5 : Int) (t6 : Int) (ps : List (List AV)) (t19 : Int) (t20 : Int) (m1_0 : Int) (m1_1 : Int) (m1_2 : Int) (m1_3 : List (List AV)) (m : List (AV × AV)) : St :=
  { t := [(2, .p 0 0 0), (3, .p 1 0 0), (4, .rp [.int .i64, .int .i64] [.i .i64 w, .i .i64 p] 0), (5, .i .i64 t5), (6, .i .i64 t6), (18, .rs 31 ps), (19, .i .i64 t19), (20, .i .i64 t20)], m := [(0, .row 94 [[.mp 2]]), (1, .row 76 [[.fn 68 [.rp [.int .i64, .int .i64, .int .i64, .sl 31] [.i .i64 m1_0, .i .i64 m1_1, .i .i64 m1_2, .rs 31 m1_3] 0, .p 0 0 0, .p 1 0 0]]]), (2, .mp 78 3 m)], nx := 3, nt := 50 }
structure S68a where
  t6 : Int
  t20 : Int
  m : List (AV × AV)
inductive T68a where
  | x0 (t6 : Int) (t20 : Int) (m2 : List (AV × AV))
noncomputable def stp68a (w : Int) (p : Int) (t5 : Int) (ps : List (List AV)) (t19 : Int) (m1_0 : Int) (m1_1 : Int) (m1_2 : Int) (m1_3 : List (List AV)) (t6 : Int) (t20 : Int) (m : List (AV × AV)) : Lp S68a T68a :=
  cond (decide (t20 < t19)) (cond (inb t20 ps.length) (cond (fI (ps.getD t20.toNat []) 3 == p) (cond (decide (fI (ps.getD t20.toNat []) 1 ≤ w)) (cond (LG.G m1_0 m1_1 m1_2 m1_3 m1_0 m1_1 m1_2 m1_3 (IntKind.i64.wrap (w - fI (ps.getD t20.toNat []) 1)) (fI (ps.getD t20.toNat []) 2) m && true) (.go ⟨IntKind.i64.wrap (t6 + (LG.F m1_0 m1_1 m1_2 m1_3 m1_0 m1_1 m1_2 m1_3 (IntKind.i64.wrap (w - fI (ps.getD t20.toNat []) 1)) (fI (ps.getD t20.toNat []) 2) m).fst), IntKind.i64.wrap (t20 + 1), (LG.F m1_0 m1_1 m1_2 m1_3 m1_0 m1_1 m1_2 m1_3 (IntKind.i64.wrap (w - fI (ps.getD t20.toNat []) 1)) (fI (ps.getD t20.toNat []) 2) m).snd⟩) (.bad)) (.go ⟨t6, IntKind.i64.wrap (t20 + 1), m⟩)) (.go ⟨t6, IntKind.i64.wrap (t20 + 1), m⟩)) (.bad)) (.out (.x0 t6 t20 m))
noncomputable def o68a_0 (w : Int) (p : Int) (t5 : Int) (ps : List (List AV)) (t19 : Int) (m1_0 : Int) (m1_1 : Int) (m1_2 : Int) (m1_3 : List (List AV)) (t6 : Int) (t20 : Int) (m2 : List (AV × AV)) : St :=
  { t := [(2, .p 0 0 0), (3, .p 1 0 0), (4, .rp [.int .i64, .int .i64] [.i .i64 w, .i .i64 p] 0), (5, .i .i64 t5), (6, .i .i64 t6), (18, .rs 31 ps), (19, .i .i64 t19), (20, .i .i64 t20)], m := [(0, .row 94 [[.mp 2]]), (1, .row 76 [[.fn 68 [.rp [.int .i64, .int .i64, .int .i64, .sl 31] [.i .i64 m1_0, .i .i64 m1_1, .i .i64 m1_2, .rs 31 m1_3] 0, .p 0 0 0, .p 1 0 0]]]), (2, .mp 78 3 m2)], nx := 3, nt := 50 }
noncomputable def ou68a (w : Int) (p : Int) (t5 : Int) (ps : List (List AV)) (t19 : Int) (m1_0 : Int) (m1_1 : Int) (m1_2 : Int) (m1_3 : List (List AV)) : T68a → Ex × St
  | .x0 t6 t20 m2 => (.ext 0, o68a_0 w p t5 ps t19 m1_0 m1_1 m1_2 m1_3 t6 t20 m2)
noncomputable def r68a (w : Int) (p : Int) (t5 : Int) (ps : List (List AV)) (t19 : Int) (m1_0 : Int) (m1_1 : Int) (m1_2 : Int) (m1_3 : List (List AV)) (t6 : Int) (t20 : Int) (m : List (AV × AV)) : Option T68a := run (fun x => stp68a w p t5 ps t19 m1_0 m1_1 m1_2 m1_3 x.t6 x.t20 x.m) (⟨t6, t20, m⟩ : S68a)
noncomputable def i68a_0 (w : Int) (p : Int) (t5 : Int) (ps : List (List AV)) (t19 : Int) (m1_0 : Int) (m1_1 : Int) (m1_2 : Int) (m1_3 : List (List AV)) (t6 : Int) (t20 : Int) (m : List (AV × AV)) : Bool := match r68a w p t5 ps t19 m1_0 m1_1 m1_2 m1_3 t6 t20 m with
  | some (.x0 _ _ _) => true
  | _ => false
noncomputable def v68a_0_t6 (w : Int) (p : Int) (t5 : Int) (ps : List (List AV)) (t19 : Int) (m1_0 : Int) (m1_1 : Int) (m1_2 : Int) (m1_3 : List (List AV)) (t6 : Int) (t20 : Int) (m : List (AV × AV)) : Int := match r68a w p t5 ps t19 m1_0 m1_1 m1_2 m1_3 t6 t20 m with
  | some (.x0 t6 _ _) => t6
  | _ => default
noncomputable def v68a_0_t20 (w : Int) (p : Int) (t5 : Int) (ps : List (List AV)) (t19 : Int) (m1_0 : Int) (m1_1 : Int) (m1_2 : Int) (m1_3 : List (List AV)) (t6 : Int) (t20 : Int) (m : List (AV × AV)) : Int := match r68a w p t5 ps t19 m1_0 m1_1 m1_2 m1_3 t6 t20 m with
  | some (.x0 _ t20 _) => t20
  | _ => default
noncomputable def v68a_0_m2 (w : Int) (p : Int) (t5 : Int) (ps : List (List AV)) (t19 : Int) (m1_0 : Int) (m1_1 : Int) (m1_2 : Int) (m1_3 : List (List AV)) (t6 : Int) (t20 : Int) (m : List (AV × AV)) : List (AV × AV) := match r68a w p t5 ps t19 m1_0 m1_1 m1_2 m1_3 t6 t20 m with
  | some (.x0 _ _ m2) => m2
  | _ => default
noncomputable def l68a (st : St) : Option (List (Bool × Ex × St)) := match normW Try.prog [(2, none), (3, none), (4, none), (5, none), (6, none), (18, none), (19, none), (20, none)] 3 st with
  | some ([.p 0 0 0, .p 1 0 0, .rp [.int .i64, .int .i64] [.i .i64 w, .i .i64 p] 0, .i .i64 t5, .i .i64 t6, .rs 31 ps, .i .i64 t19, .i .i64 t20], [(0, .row 94 [[.mp 2]]), (1, .row 76 [[.fn 68 [.rp [.int .i64, .int .i64, .int .i64, .sl 31] [.i .i64 m1_0, .i .i64 m1_1, .i .i64 m1_2, .rs 31 m1_3] 0, .p 0 0 0, .p 1 0 0]]]), (2, .mp 78 3 m)], 3, 50) => some [(i68a_0 w p t5 ps t19 m1_0 m1_1 m1_2 m1_3 t6 t20 m, .ext 0, o68a_0 w p t5 ps t19 m1_0 m1_1 m1_2 m1_3 (v68a_0_t6 w p t5 ps t19 m1_0 m1_1 m1_2 m1_3 t6 t20 m) (v68a_0_t20 w p t5 ps t19 m1_0 m1_1 m1_2 m1_3 t6 t20 m) (v68a_0_m2 w p t5 ps t19 m1_0 m1_1 m1_2 m1_3 t6 t20 m))]
  | _ => none
noncomputable def L68 : LSpec := fun p st => match p with
  | [false, true, false, true, true, true] => l68a st
  | _ => none
theorem is68a_0 (w : Int) (p : Int) (t5 : Int) (ps : List (List AV)) (t19 : Int) (m1_0 : Int) (m1_1 : Int) (m1_2 : Int) (m1_3 : List (List AV)) (t6 : Int) (t20 : Int) (m : List (AV × AV)) (h : i68a_0 w p t5 ps t19 m1_0 m1_1 m1_2 m1_3 t6 t20 m = true) : r68a w p t5 ps t19 m1_0 m1_1 m1_2 m1_3 t6 t20 m = some (.x0 (v68a_0_t6 w p t5 ps t19 m1_0 m1_1 m1_2 m1_3 t6 t20 m) (v68a_0_t20 w p t5 ps t19 m1_0 m1_1 m1_2 m1_3 t6 t20 m) (v68a_0_m2 w p t5 ps t19 m1_0 m1_1 m1_2 m1_3 t6 t20 m)) := by
  unfold i68a_0 at h
  unfold v68a_0_t6 v68a_0_t20 v68a_0_m2
  generalize r68a w p t5 ps t19 m1_0 m1_1 m1_2 m1_3 t6 t20 m = r at h ⊢
  rcases r with _ | y
  · cases h
  · cases y <;> first | rfl | cases h
theorem round68a (w : Int) (p : Int) (t5 : Int) (t6 : Int) (ps : List (List AV)) (t19 : Int) (t20 : Int) (m1_0 : Int) (m1_1 : Int) (m1_2 : Int) (m1_3 : List (List AV)) (m : List (AV × AV)) : round Try.prog SLG (ro 68) L68 lp68a [false, true, false, true, true, true] [(2, none), (3, none), (4, none), (5, none), (6, none), (18, none), (19, none), (20, none)] 3 (s68a w p t5 t6 ps t19 t20 m1_0 m1_1 m1_2 m1_3 m) =
    cond (decide (t20 < t19)) (cond (inb t20 ps.length) (cond (fI (ps.getD t20.toNat []) 3 == p) (cond (decide (fI (ps.getD t20.toNat []) 1 ≤ w)) (cond (LG.G m1_0 m1_1 m1_2 m1_3 m1_0 m1_1 m1_2 m1_3 (IntKind.i64.wrap (w - fI (ps.getD t20.toNat []) 1)) (fI (ps.getD t20.toNat []) 2) m && true) (some (.nrm, s68a w p t5 (IntKind.i64.wrap (t6 + (LG.F m1_0 m1_1 m1_2 m1_3 m1_0 m1_1 m1_2 m1_3 (IntKind.i64.wrap (w - fI (ps.getD t20.toNat []) 1)) (fI (ps.getD t20.toNat []) 2) m).fst)) ps t19 (IntKind.i64.wrap (t20 + 1)) m1_0 m1_1 m1_2 m1_3 ((LG.F m1_0 m1_1 m1_2 m1_3 m1_0 m1_1 m1_2 m1_3 (IntKind.i64.wrap (w - fI (ps.getD t20.toNat []) 1)) (fI (ps.getD t20.toNat []) 2) m).snd))) (none)) (some (.nrm, s68a w p t5 t6 ps t19 (IntKind.i64.wrap (t20 + 1)) m1_0 m1_1 m1_2 m1_3 m))) (some (.nrm, s68a w p t5 t6 ps t19 (IntKind.i64.wrap (t20 + 1)) m1_0 m1_1 m1_2 m1_3 m))) (none)) (some (.ext 0, o68a_0 w p t5 ps t19 m1_0 m1_1 m1_2 m1_3 t6 t20 m)) := by kernel_rfl
theorem rnd68a (w : Int) (p : Int) (t5 : Int) (ps : List (List AV)) (t19 : Int) (m1_0 : Int) (m1_1 : Int) (m1_2 : Int) (m1_3 : List (List AV)) (x : S68a) : round Try.prog SLG (ro 68) L68 lp68a [false, true, false, true, true, true] [(2, none), (3, none), (4, none), (5, none), (6, none), (18, none), (19, none), (20, none)] 3 ((fun x => s68a w p t5 x.t6 ps t19 x.t20 m1_0 m1_1 m1_2 m1_3 x.m) x) = toR (fun x => s68a w p t5 x.t6 ps t19 x.t20 m1_0 m1_1 m1_2 m1_3 x.m) (ou68a w p t5 ps t19 m1_0 m1_1 m1_2 m1_3) (stp68a w p t5 ps t19 m1_0 m1_1 m1_2 m1_3 x.t6 x.t20 x.m) := by
  refine (round68a _ _ _ _ _ _ _ _ _ _ _ _ ).trans ?_
  unfold stp68a
  simp only [toR_cond]
  rfl
theorem lok68a {st : St} {outs : List (Bool × Ex × St)} {e : Ex} {s : St} (hl : l68a st = some outs) (hch : Chosen outs e s) :
    ∃ keep nb, 3 ≤ nb ∧ LB Try.prog SLG (ro 68) L68 lp68a [false, true, false, true, true, true] keep nb st e s := by
  unfold l68a at hl
  split at hl
  · rename_i w p t5 t6 ps t19 t20 m1_0 m1_1 m1_2 m1_3 m hno
    cases hl
    have hno := normW_norm hno
    refine ⟨_, _, ?_, .enter hno ?_⟩
    · decide
    have main := fun y h => LB_run (x := (⟨t6, t20, m⟩ : S68a)) (y := y) (nb := 3) (fun y => by cases y <;> simp [ou68a]) (rnd68a w p t5 ps t19 m1_0 m1_1 m1_2 m1_3) h
    obtain ⟨x, hx, hg, rfl, rfl⟩ := chosen_any hch
    simp only [List.mem_cons, List.not_mem_nil, or_false] at hx
    subst hx
    exact main _ (is68a_0 w p t5 ps t19 m1_0 m1_1 m1_2 m1_3 t6 t20 m hg)
  · cases hl
theorem L68_ok (q : Pl) (c : Code) (hq : locate c68 q.reverse = some (.loop c)) (st : St) (outs : List (Bool × Ex × St)) (e : Ex) (s : St) (hl : L68 q st = some outs) (hch : Chosen outs e s) :
    ∃ keep nb, 3 ≤ nb ∧ LB Try.prog SLG (ro 68) L68 c q keep nb st e s := by
  unfold L68 at hl
  split at hl
  · have : locate c68 ([false, true, false, true, true, true] : Pl).reverse = some (.loop lp68a) := by kernel_rfl
    rw [this] at hq
    cases hq
    exact lok68a hl hch
  · cases hl
theorem lok68 : LOK Try.prog SLG (ro 68) L68 3 false c68 [] :=
  lok_lo L68_ok c68 [] false (locate_nil _) (by kernel_rfl)
noncomputable def t68 (ra rb rc : Int) (ps : List (List AV)) (ra' rb' rc' : Int) (ps' : List (List AV)) (w p : Int) (m : List (AV × AV)) : Tr ((Int) × (Int) × (Int) × (Int) × (List (List AV)) × (List (AV × AV))) :=
  .cn (w == 0) (.cn (p == rb) (.lf (1, ra', rb', rc', ps', m)) (.lf (0, ra', rb', rc', ps', m))) (.cn (i68a_0 w p 0 ps (↑ps.length : Int) ra' rb' rc' ps' 0 0 m) (.lf (v68a_0_t6 w p 0 ps (↑ps.length : Int) ra' rb' rc' ps' 0 0 m, ra', rb', rc', ps', v68a_0_m2 w p 0 ps (↑ps.length : Int) ra' rb' rc' ps' 0 0 m)) (.nn))
noncomputable def g68 (ra rb rc : Int) (ps : List (List AV)) (ra' rb' rc' : Int) (ps' : List (List AV)) (w p : Int) (m : List (AV × AV)) : Bool := (t68 ra rb rc ps ra' rb' rc' ps' w p m).g
noncomputable def w68_0 (ra rb rc : Int) (ps : List (List AV)) (ra' rb' rc' : Int) (ps' : List (List AV)) (w p : Int) (m : List (AV × AV)) : Int := (t68 ra rb rc ps ra' rb' rc' ps' w p m).val.1
noncomputable def w68_1 (ra rb rc : Int) (ps : List (List AV)) (ra' rb' rc' : Int) (ps' : List (List AV)) (w p : Int) (m : List (AV × AV)) : Int := (t68 ra rb rc ps ra' rb' rc' ps' w p m).val.2.1
noncomputable def w68_2 (ra rb rc : Int) (ps : List (List AV)) (ra' rb' rc' : Int) (ps' : List (List AV)) (w p : Int) (m : List (AV × AV)) : Int := (t68 ra rb rc ps ra' rb' rc' ps' w p m).val.2.2.1
noncomputable def w68_3 (ra rb rc : Int) (ps : List (List AV)) (ra' rb' rc' : Int) (ps' : List (List AV)) (w p : Int) (m : List (AV × AV)) : Int := (t68 ra rb rc ps ra' rb' rc' ps' w p m).val.2.2.2.1
noncomputable def w68_4 (ra rb rc : Int) (ps : List (List AV)) (ra' rb' rc' : Int) (ps' : List (List AV)) (w p : Int) (m : List (AV × AV)) : List (List AV) := (t68 ra rb rc ps ra' rb' rc' ps' w p m).val.2.2.2.2.1
noncomputable def w68_5 (ra rb rc : Int) (ps : List (List AV)) (ra' rb' rc' : Int) (ps' : List (List AV)) (w p : Int) (m : List (AV × AV)) : List (AV × AV) := (t68 ra rb rc ps ra' rb' rc' ps' w p m).val.2.2.2.2.2
theorem eq68 (ra rb rc : Int) (ps : List (List AV)) (ra' rb' rc' : Int) (ps' : List (List AV)) (w p : Int) (m : List (AV × AV)) : evM Try.prog SLG (ro 68) L68 Try.f68 [.agg [.i .i64 w, .i .i64 p], .rp [.int .i64, .int .i64, .int .i64, .sl 31] [.i .i64 ra, .i .i64 rb, .i .i64 rc, .rs 31 ps] 0, .p 0 0 0, .p 1 0 0] [.row 94 [[.mp 2]], .row 76 [[.fn 68 [.rp [.int .i64, .int .i64, .int .i64, .sl 31] [.i .i64 ra', .i .i64 rb', .i .i64 rc', .rs 31 ps'] 0, .p 0 0 0, .p 1 0 0]]], .mp 78 3 m] = (t68 ra rb rc ps ra' rb' rc' ps' w p m).opt (fun (x : (Int) × (Int) × (Int) × (Int) × (List (List AV)) × (List (AV × AV))) => ((.i .i64 x.1, [.row 94 [[.mp 2]], .row 76 [[.fn 68 [.rp [.int .i64, .int .i64, .int .i64, .sl 31] [.i .i64 x.2.1, .i .i64 x.2.2.1, .i .i64 x.2.2.2.1, .rs 31 x.2.2.2.2.1] 0, .p 0 0 0, .p 1 0 0]]], .mp 78 3 x.2.2.2.2.2]) : AV × List Blk)) := by kernel_rfl
theorem con68 (ra rb rc : Int) (ps : List (List AV)) (ra' rb' rc' : Int) (ps' : List (List AV)) (w p : Int) (m : List (AV × AV)) (h : g68 ra rb rc ps ra' rb' rc' ps' w p m = true) : Con Try.prog 68 [.agg [.i .i64 w, .i .i64 p], .rp [.int .i64, .int .i64, .int .i64, .sl 31] [.i .i64 ra, .i .i64 rb, .i .i64 rc, .rs 31 ps] 0, .p 0 0 0, .p 1 0 0] [.row 94 [[.mp 2]], .row 76 [[.fn 68 [.rp [.int .i64, .int .i64, .int .i64, .sl 31] [.i .i64 ra', .i .i64 rb', .i .i64 rc', .rs 31 ps'] 0, .p 0 0 0, .p 1 0 0]]], .mp 78 3 m] (.i .i64 (w68_0 ra rb rc ps ra' rb' rc' ps' w p m)) [.row 94 [[.mp 2]], .row 76 [[.fn 68 [.rp [.int .i64, .int .i64, .int .i64, .sl 31] [.i .i64 (w68_1 ra rb rc ps ra' rb' rc' ps' w p m), .i .i64 (w68_2 ra rb rc ps ra' rb' rc' ps' w p m), .i .i64 (w68_3 ra rb rc ps ra' rb' rc' ps' w p m), .rs 31 (w68_4 ra rb rc ps ra' rb' rc' ps' w p m)] 0, .p 0 0 0, .p 1 0 0]]], .mp 78 3 (w68_5 ra rb rc ps ra' rb' rc' ps' w p m)] :=
  con_ofM SLG_ok mixed Try.func68 (c := c68) rfl (names 68 _ Try.func68) lok68 ((eq68 ra rb rc ps ra' rb' rc' ps' w p m).trans (Tr.sound _ _ h))
noncomputable def e68 (args : List AV) (rows : List Blk) : Option (Bool × AV × List Blk) := match args, rows with
  | [.agg [.i .i64 w, .i .i64 p], .rp [.int .i64, .int .i64, .int .i64, .sl 31] [.i .i64 ra, .i .i64 rb, .i .i64 rc, .rs 31 ps] 0, .p 0 0 0, .p 1 0 0], [.row 94 [[.mp 2]], .row 76 [[.fn 68 [.rp [.int .i64, .int .i64, .int .i64, .sl 31] [.i .i64 ra', .i .i64 rb', .i .i64 rc', .rs 31 ps'] 0, .p 0 0 0, .p 1 0 0]]], .mp 78 3 m] => some (g68 ra rb rc ps ra' rb' rc' ps' w p m, .i .i64 (w68_0 ra rb rc ps ra' rb' rc' ps' w p m), [.row 94 [[.mp 2]], .row 76 [[.fn 68 [.rp [.int .i64, .int .i64, .int .i64, .sl 31] [.i .i64 (w68_1 ra rb rc ps ra' rb' rc' ps' w p m), .i .i64 (w68_2 ra rb rc ps ra' rb' rc' ps' w p m), .i .i64 (w68_3 ra rb rc ps ra' rb' rc' ps' w p m), .rs 31 (w68_4 ra rb rc ps ra' rb' rc' ps' w p m)] 0, .p 0 0 0, .p 1 0 0]]], .mp 78 3 (w68_5 ra rb rc ps ra' rb' rc' ps' w p m)])
  | _, _ => none
theorem e68_ok (args : List AV) (rows : List Blk) (pre : Bool) (v : AV) (rows' : List Blk) (h : e68 args rows = some (pre, v, rows')) (hp : pre = true) : Con Try.prog 68 args rows v rows' := by
  unfold e68 at h
  split at h
  · cases h; exact con68 _ _ _ _ _ _ _ _ _ _ _ hp
  · cases h
-- SPEC 68
end Go.Proofs.Ytgifjphinkbcaaa

set_option maxRecDepth 100000
set_option maxHeartbeats 1000000
set_option linter.unusedVariables false
namespace Go.Proofs.Ytgifjphinkbcaaa
open Go Go.Ev
variable [LF]

/-! ### memo.get -/
noncomputable def c69 : Code := match Try.f69.body with | some c => c | _ => .skip
theorem lok69 : LOK Try.prog SLF (ro 69) (fun _ _ => none) 3 false c69 [] :=
  lok_lo (fun _ _ _ _ _ _ _ h _ => by cases h) c69 [] false (locate_nil _) (by kernel_rfl)
noncomputable def t69 (ra rb rc : Int) (ps : List (List AV)) (ra' rb' rc' : Int) (ps' : List (List AV)) (w p : Int) (m : List (AV × AV)) : Tr ((Int) × (Int) × (Int) × (Int) × (List (List AV)) × (List (AV × AV))) :=
  .cn (!mhas (AV.agg [AV.i IntKind.i64 w, AV.i IntKind.i64 p]) m) (.cn (LF.G ra rb rc ps ra' rb' rc' ps' w p m && true) (.lf ((LF.F ra rb rc ps ra' rb' rc' ps' w p m).fst, ra', rb', rc', ps', mset (AV.agg [AV.i IntKind.i64 w, AV.i IntKind.i64 p]) (AV.i IntKind.i64 (LF.F ra rb rc ps ra' rb' rc' ps' w p m).fst) (LF.F ra rb rc ps ra' rb' rc' ps' w p m).snd)) (.nn)) (.lf (toI ((mget (AV.agg [AV.i IntKind.i64 w, AV.i IntKind.i64 p]) m).getD (AV.i IntKind.i64 0)), ra', rb', rc', ps', m))
noncomputable def g69 (ra rb rc : Int) (ps : List (List AV)) (ra' rb' rc' : Int) (ps' : List (List AV)) (w p : Int) (m : List (AV × AV)) : Bool := (t69 ra rb rc ps ra' rb' rc' ps' w p m).g
noncomputable def w69_0 (ra rb rc : Int) (ps : List (List AV)) (ra' rb' rc' : Int) (ps' : List (List AV)) (w p : Int) (m : List (AV × AV)) : Int := (t69 ra rb rc ps ra' rb' rc' ps' w p m).val.1
noncomputable def w69_1 (ra rb rc : Int) (ps : List (List AV)) (ra' rb' rc' : Int) (ps' : List (List AV)) (w p : Int) (m : List (AV × AV)) : Int := (t69 ra rb rc ps ra' rb' rc' ps' w p m).val.2.1
noncomputable def w69_2 (ra rb rc : Int) (ps : List (List AV)) (ra' rb' rc' : Int) (ps' : List (List AV)) (w p : Int) (m : List (AV × AV)) : Int := (t69 ra rb rc ps ra' rb' rc' ps' w p m).val.2.2.1
noncomputable def w69_3 (ra rb rc : Int) (ps : List (List AV)) (ra' rb' rc' : Int) (ps' : List (List AV)) (w p : Int) (m : List (AV × AV)) : Int := (t69 ra rb rc ps ra' rb' rc' ps' w p m).val.2.2.2.1
noncomputable def w69_4 (ra rb rc : Int) (ps : List (List AV)) (ra' rb' rc' : Int) (ps' : List (List AV)) (w p : Int) (m : List (AV × AV)) : List (List AV) := (t69 ra rb rc ps ra' rb' rc' ps' w p m).val.2.2.2.2.1
noncomputable def w69_5 (ra rb rc : Int) (ps : List (List AV)) (ra' rb' rc' : Int) (ps' : List (List AV)) (w p : Int) (m : List (AV × AV)) : List (AV × AV) := (t69 ra rb rc ps ra' rb' rc' ps' w p m).val.2.2.2.2.2
theorem eq69 (ra rb rc : Int) (ps : List (List AV)) (ra' rb' rc' : Int) (ps' : List (List AV)) (w p : Int) (m : List (AV × AV)) : evM Try.prog SLF (ro 69) (fun _ _ => none) Try.f69 [.p 0 0 0, .agg [.i .i64 w, .i .i64 p], .fn 68 [.rp [.int .i64, .int .i64, .int .i64, .sl 31] [.i .i64 ra, .i .i64 rb, .i .i64 rc, .rs 31 ps] 0, .p 0 0 0, .p 1 0 0]] [.row 94 [[.mp 2]], .row 76 [[.fn 68 [.rp [.int .i64, .int .i64, .int .i64, .sl 31] [.i .i64 ra', .i .i64 rb', .i .i64 rc', .rs 31 ps'] 0, .p 0 0 0, .p 1 0 0]]], .mp 78 3 m] = (t69 ra rb rc ps ra' rb' rc' ps' w p m).opt (fun (x : (Int) × (Int) × (Int) × (Int) × (List (List AV)) × (List (AV × AV))) => ((.i .i64 x.1, [.row 94 [[.mp 2]], .row 76 [[.fn 68 [.rp [.int .i64, .int .i64, .int .i64, .sl 31] [.i .i64 x.2.1, .i .i64 x.2.2.1, .i .i64 x.2.2.2.1, .rs 31 x.2.2.2.2.1] 0, .p 0 0 0, .p 1 0 0]]], .mp 78 3 x.2.2.2.2.2]) : AV × List Blk)) := by kernel_rfl
theorem con69 (ra rb rc : Int) (ps : List (List AV)) (ra' rb' rc' : Int) (ps' : List (List AV)) (w p : Int) (m : List (AV × AV)) (h : g69 ra rb rc ps ra' rb' rc' ps' w p m = true) : Con Try.prog 69 [.p 0 0 0, .agg [.i .i64 w, .i .i64 p], .fn 68 [.rp [.int .i64, .int .i64, .int .i64, .sl 31] [.i .i64 ra, .i .i64 rb, .i .i64 rc, .rs 31 ps] 0, .p 0 0 0, .p 1 0 0]] [.row 94 [[.mp 2]], .row 76 [[.fn 68 [.rp [.int .i64, .int .i64, .int .i64, .sl 31] [.i .i64 ra', .i .i64 rb', .i .i64 rc', .rs 31 ps'] 0, .p 0 0 0, .p 1 0 0]]], .mp 78 3 m] (.i .i64 (w69_0 ra rb rc ps ra' rb' rc' ps' w p m)) [.row 94 [[.mp 2]], .row 76 [[.fn 68 [.rp [.int .i64, .int .i64, .int .i64, .sl 31] [.i .i64 (w69_1 ra rb rc ps ra' rb' rc' ps' w p m), .i .i64 (w69_2 ra rb rc ps ra' rb' rc' ps' w p m), .i .i64 (w69_3 ra rb rc ps ra' rb' rc' ps' w p m), .rs 31 (w69_4 ra rb rc ps ra' rb' rc' ps' w p m)] 0, .p 0 0 0, .p 1 0 0]]], .mp 78 3 (w69_5 ra rb rc ps ra' rb' rc' ps' w p m)] :=
  con_ofM SLF_ok mixed Try.func69 (c := c69) rfl (names 69 _ Try.func69) lok69 ((eq69 ra rb rc ps ra' rb' rc' ps' w p m).trans (Tr.sound _ _ h))
noncomputable def e69 (args : List AV) (rows : List Blk) : Option (Bool × AV × List Blk) := match args, rows with
  | [.p 0 0 0, .agg [.i .i64 w, .i .i64 p], .fn 68 [.rp [.int .i64, .int .i64, .int .i64, .sl 31] [.i .i64 ra, .i .i64 rb, .i .i64 rc, .rs 31 ps] 0, .p 0 0 0, .p 1 0 0]], [.row 94 [[.mp 2]], .row 76 [[.fn 68 [.rp [.int .i64, .int .i64, .int .i64, .sl 31] [.i .i64 ra', .i .i64 rb', .i .i64 rc', .rs 31 ps'] 0, .p 0 0 0, .p 1 0 0]]], .mp 78 3 m] => some (g69 ra rb rc ps ra' rb' rc' ps' w p m, .i .i64 (w69_0 ra rb rc ps ra' rb' rc' ps' w p m), [.row 94 [[.mp 2]], .row 76 [[.fn 68 [.rp [.int .i64, .int .i64, .int .i64, .sl 31] [.i .i64 (w69_1 ra rb rc ps ra' rb' rc' ps' w p m), .i .i64 (w69_2 ra rb rc ps ra' rb' rc' ps' w p m), .i .i64 (w69_3 ra rb rc ps ra' rb' rc' ps' w p m), .rs 31 (w69_4 ra rb rc ps ra' rb' rc' ps' w p m)] 0, .p 0 0 0, .p 1 0 0]]], .mp 78 3 (w69_5 ra rb rc ps ra' rb' rc' ps' w p m)])
  | _, _ => none
theorem e69_ok (args : List AV) (rows : List Blk) (pre : Bool) (v : AV) (rows' : List Blk) (h : e69 args rows = some (pre, v, rows')) (hp : pre = true) : Con Try.prog 69 args rows v rows' := by
  unfold e69 at h
  split at h
  · cases h; exact con69 _ _ _ _ _ _ _ _ _ _ _ hp
  · cases h
-- SPEC 69
end Go.Proofs.Ytgifjphinkbcaaa

set_option maxRecDepth 100000
set_option linter.unusedVariables false
namespace Go.Proofs.Ytgifjphinkbcaaa
open Go Go.Ev

/-! ### thatchlaw06.Great -/
noncomputable def c18 : Code := match Try.f18.body with | some c => c | _ => .skip
noncomputable def lp18a : Code := loopAt c18 [true, true, false, true, false]
noncomputable def s18a (ra : Int) (rb : Int) (rc : Int) (ps : List (List AV)) (t2 : Bool) (t3 : Int) (t4 : Int) : St :=
  { t := [(1, .rp [.int .i64, .int .i64, .int .i64, .sl 31] [.i .i64 ra, .i .i64 rb, .i .i64 rc, .rs 31 ps] 0), (2, .b t2), (3, .i .i64 t3), (4, .i .i64 t4)], m := [], nx := 0, nt := 43 }
structure S18a where
  t3 : Int
  t4 : Int
inductive T18a where
  | x0 (t3 : Int) (t4 : Int)
noncomputable def stp18a (ra : Int) (rb : Int) (rc : Int) (ps : List (List AV)) (t2 : Bool) (t3 : Int) (t4 : Int) : Lp S18a T18a :=
  cond (decide (t4 < (↑ps.length : Int))) (cond (decide (t4 ≤ 30)) (cond (inb t4 ps.length) (.go ⟨IntKind.i64.wrap (t3 + (↑(fS (ps.getD t4.toNat []) 0).size : Int)), IntKind.i64.wrap (t4 + 1)⟩) (.bad)) (.out (.x0 t3 t4))) (.out (.x0 t3 t4))
noncomputable def o18a_0 (ra : Int) (rb : Int) (rc : Int) (ps : List (List AV)) (t2 : Bool) (t3 : Int) (t4 : Int) : St :=
  { t := [(1, .rp [.int .i64, .int .i64, .int .i64, .sl 31] [.i .i64 ra, .i .i64 rb, .i .i64 rc, .rs 31 ps] 0), (2, .b t2), (3, .i .i64 t3), (4, .i .i64 t4)], m := [], nx := 0, nt := 43 }
noncomputable def ou18a (ra : Int) (rb : Int) (rc : Int) (ps : List (List AV)) (t2 : Bool) : T18a → Ex × St
  | .x0 t3 t4 => (.ext 0, o18a_0 ra rb rc ps t2 t3 t4)
noncomputable def r18a (ra : Int) (rb : Int) (rc : Int) (ps : List (List AV)) (t2 : Bool) (t3 : Int) (t4 : Int) : Option T18a := run (fun x => stp18a ra rb rc ps t2 x.t3 x.t4) (⟨t3, t4⟩ : S18a)
noncomputable def i18a_0 (ra : Int) (rb : Int) (rc : Int) (ps : List (List AV)) (t2 : Bool) (t3 : Int) (t4 : Int) : Bool := match r18a ra rb rc ps t2 t3 t4 with
  | some (.x0 _ _) => true
  | _ => false
noncomputable def v18a_0_t3 (ra : Int) (rb : Int) (rc : Int) (ps : List (List AV)) (t2 : Bool) (t3 : Int) (t4 : Int) : Int := match r18a ra rb rc ps t2 t3 t4 with
  | some (.x0 t3 _) => t3
  | _ => default
noncomputable def v18a_0_t4 (ra : Int) (rb : Int) (rc : Int) (ps : List (List AV)) (t2 : Bool) (t3 : Int) (t4 : Int) : Int := match r18a ra rb rc ps t2 t3 t4 with
  | some (.x0 _ t4) => t4
  | _ => default
noncomputable def l18a (st : St) : Option (List (Bool × Ex × St)) := match normW Try.prog [(1, none), (2, none), (3, none), (4, none)] 0 st with
  | some ([.rp [.int .i64, .int .i64, .int .i64, .sl 31] [.i .i64 ra, .i .i64 rb, .i .i64 rc, .rs 31 ps] 0, .b t2, .i .i64 t3, .i .i64 t4], [], 0, 43) => some [(i18a_0 ra rb rc ps t2 t3 t4, .ext 0, o18a_0 ra rb rc ps t2 (v18a_0_t3 ra rb rc ps t2 t3 t4) (v18a_0_t4 ra rb rc ps t2 t3 t4))]
  | _ => none
noncomputable def L18 : LSpec := fun p st => match p with
  | [false, true, false, true, true] => l18a st
  | _ => none
theorem is18a_0 (ra : Int) (rb : Int) (rc : Int) (ps : List (List AV)) (t2 : Bool) (t3 : Int) (t4 : Int) (h : i18a_0 ra rb rc ps t2 t3 t4 = true) : r18a ra rb rc ps t2 t3 t4 = some (.x0 (v18a_0_t3 ra rb rc ps t2 t3 t4) (v18a_0_t4 ra rb rc ps t2 t3 t4)) := by
  unfold i18a_0 at h
  unfold v18a_0_t3 v18a_0_t4
  generalize r18a ra rb rc ps t2 t3 t4 = r at h ⊢
  rcases r with _ | y
  · cases h
  · cases y <;> first | rfl | cases h
theorem round18a (ra : Int) (rb : Int) (rc : Int) (ps : List (List AV)) (t2 : Bool) (t3 : Int) (t4 : Int) : round Try.prog S0 (ro 18) L18 lp18a [false, true, false, true, true] [(1, none), (2, none), (3, none), (4, none)] 0 (s18a ra rb rc ps t2 t3 t4) =
    cond (decide (t4 < (↑ps.length : Int))) (cond (decide (t4 ≤ 30)) (cond (inb t4 ps.length) (some (.nrm, s18a ra rb rc ps t2 (IntKind.i64.wrap (t3 + (↑(fS (ps.getD t4.toNat []) 0).size : Int))) (IntKind.i64.wrap (t4 + 1)))) (none)) (some (.ext 0, o18a_0 ra rb rc ps t2 t3 t4))) (some (.ext 0, o18a_0 ra rb rc ps t2 t3 t4)) := by kernel_rfl
theorem rnd18a (ra : Int) (rb : Int) (rc : Int) (ps : List (List AV)) (t2 : Bool) (x : S18a) : round Try.prog S0 (ro 18) L18 lp18a [false, true, false, true, true] [(1, none), (2, none), (3, none), (4, none)] 0 ((fun x => s18a ra rb rc ps t2 x.t3 x.t4) x) = toR (fun x => s18a ra rb rc ps t2 x.t3 x.t4) (ou18a ra rb rc ps t2) (stp18a ra rb rc ps t2 x.t3 x.t4) := by
  refine (round18a _ _ _ _ _ _ _ ).trans ?_
  unfold stp18a
  simp only [toR_cond]
  rfl
theorem lok18a {st : St} {outs : List (Bool × Ex × St)} {e : Ex} {s : St} (hl : l18a st = some outs) (hch : Chosen outs e s) :
    ∃ keep nb, 0 ≤ nb ∧ LB Try.prog S0 (ro 18) L18 lp18a [false, true, false, true, true] keep nb st e s := by
  unfold l18a at hl
  split at hl
  · rename_i ra rb rc ps t2 t3 t4 hno
    cases hl
    have hno := normW_norm hno
    refine ⟨_, _, ?_, .enter hno ?_⟩
    · decide
    have main := fun y h => LB_run (x := (⟨t3, t4⟩ : S18a)) (y := y) (nb := 0) (fun y => by cases y <;> simp [ou18a]) (rnd18a ra rb rc ps t2) h
    obtain ⟨x, hx, hg, rfl, rfl⟩ := chosen_any hch
    simp only [List.mem_cons, List.not_mem_nil, or_false] at hx
    subst hx
    exact main _ (is18a_0 ra rb rc ps t2 t3 t4 hg)
  · cases hl
theorem L18_ok (q : Pl) (c : Code) (hq : locate c18 q.reverse = some (.loop c)) (st : St) (outs : List (Bool × Ex × St)) (e : Ex) (s : St) (hl : L18 q st = some outs) (hch : Chosen outs e s) :
    ∃ keep nb, 0 ≤ nb ∧ LB Try.prog S0 (ro 18) L18 c q keep nb st e s := by
  unfold L18 at hl
  split at hl
  · have : locate c18 ([false, true, false, true, true] : Pl).reverse = some (.loop lp18a) := by kernel_rfl
    rw [this] at hq
    cases hq
    exact lok18a hl hch
  · cases hl
theorem lok18 : LOK Try.prog S0 (ro 18) L18 0 false c18 [] :=
  lok_lo L18_ok c18 [] false (locate_nil _) (by kernel_rfl)
noncomputable def t18 (ra rb rc : Int) (ps : List (List AV)) : Tr ((Bool)) :=
  .cn (i18a_0 ra rb rc ps false 0 0) (.cn (decide (ra > 300)) (.cn (decide (ra ≤ 2000)) (.lf (true)) (.cn (decide ((↑ps.length : Int) > 30)) (.lf (true)) (.lf (decide (v18a_0_t3 ra rb rc ps false 0 0 > 2000))))) (.cn (decide ((↑ps.length : Int) > 30)) (.lf (true)) (.lf (decide (v18a_0_t3 ra rb rc ps false 0 0 > 2000))))) (.nn)
noncomputable def g18 (ra rb rc : Int) (ps : List (List AV)) : Bool := (t18 ra rb rc ps).g
noncomputable def w18_0 (ra rb rc : Int) (ps : List (List AV)) : Bool := (t18 ra rb rc ps).val
theorem eq18 (ra rb rc : Int) (ps : List (List AV)) : evF Try.prog S0 (ro 18) L18 Try.f18 [.agg [.i .i64 ra, .i .i64 rb, .i .i64 rc, .rs 31 ps]] = (t18 ra rb rc ps).opt (fun (x : (Bool)) => (.b x : AV)) := by kernel_rfl
theorem con18 (ra rb rc : Int) (ps : List (List AV)) (h : g18 ra rb rc ps = true) : Con Try.prog 18 [.agg [.i .i64 ra, .i .i64 rb, .i .i64 rc, .rs 31 ps]] [] (.b (w18_0 ra rb rc ps)) [] :=
  con_of S0_ok mixed Try.func18 (c := c18) rfl (names 18 _ Try.func18) lok18 ((eq18 ra rb rc ps).trans (Tr.sound _ _ h))
noncomputable def e18 (args : List AV) (rows : List Blk) : Option (Bool × AV × List Blk) := match args, rows with
  | [.agg [.i .i64 ra, .i .i64 rb, .i .i64 rc, .rs 31 ps]], [] => some (g18 ra rb rc ps, .b (w18_0 ra rb rc ps), [])
  | _, _ => none
theorem e18_ok (args : List AV) (rows : List Blk) (pre : Bool) (v : AV) (rows' : List Blk) (h : e18 args rows = some (pre, v, rows')) (hp : pre = true) : Con Try.prog 18 args rows v rows' := by
  unfold e18 at h
  split at h
  · cases h; exact con18 _ _ _ _ hp
  · cases h
-- SPEC 18
end Go.Proofs.Ytgifjphinkbcaaa

set_option maxRecDepth 100000
set_option linter.unusedVariables false
namespace Go.Proofs.Ytgifjphinkbcaaa
open Go Go.Ev

/-! ### ridge.in -/
noncomputable def c55 : Code := match Try.f55.body with | some c => c | _ => .skip
theorem lok55 : LOK Try.prog S0 (ro 55) (fun _ _ => none) 0 false c55 [] :=
  lok_lo (fun _ _ _ _ _ _ _ h _ => by cases h) c55 [] false (locate_nil _) (by kernel_rfl)
noncomputable def t55 (a b c : Int) : Tr ((Bool)) :=
  .cn (decide (b ≤ a)) (.lf (decide (a ≤ c))) (.lf (false))
noncomputable def g55 (a b c : Int) : Bool := (t55 a b c).g
noncomputable def w55_0 (a b c : Int) : Bool := (t55 a b c).val
theorem eq55 (a b c : Int) : evF Try.prog S0 (ro 55) (fun _ _ => none) Try.f55 [.i .i64 a, .i .i64 b, .i .i64 c] = (t55 a b c).opt (fun (x : (Bool)) => (.b x : AV)) := by kernel_rfl
theorem con55 (a b c : Int) (h : g55 a b c = true) : Con Try.prog 55 [.i .i64 a, .i .i64 b, .i .i64 c] [] (.b (w55_0 a b c)) [] :=
  con_of S0_ok mixed Try.func55 (c := c55) rfl (names 55 _ Try.func55) lok55 ((eq55 a b c).trans (Tr.sound _ _ h))
noncomputable def e55 (args : List AV) (rows : List Blk) : Option (Bool × AV × List Blk) := match args, rows with
  | [.i .i64 a, .i .i64 b, .i .i64 c], [] => some (g55 a b c, .b (w55_0 a b c), [])
  | _, _ => none
theorem e55_ok (args : List AV) (rows : List Blk) (pre : Bool) (v : AV) (rows' : List Blk) (h : e55 args rows = some (pre, v, rows')) (hp : pre = true) : Con Try.prog 55 args rows v rows' := by
  unfold e55 at h
  split at h
  · cases h; exact con55 _ _ _ hp
  · cases h
-- SPEC 55
end Go.Proofs.Ytgifjphinkbcaaa

set_option maxRecDepth 100000
set_option linter.unusedVariables false
namespace Go.Proofs.Ytgifjphinkbcaaa
open Go Go.Ev

/-! ### ref.in -/
noncomputable def c57 : Code := match Try.f57.body with | some c => c | _ => .skip
theorem lok57 : LOK Try.prog S0 (ro 57) (fun _ _ => none) 0 false c57 [] :=
  lok_lo (fun _ _ _ _ _ _ _ h _ => by cases h) c57 [] false (locate_nil _) (by kernel_rfl)
noncomputable def t57 (a b c : Int) : Tr ((Bool)) :=
  .cn (decide (a ≥ b)) (.lf (decide (a ≤ c))) (.lf (false))
noncomputable def g57 (a b c : Int) : Bool := (t57 a b c).g
noncomputable def w57_0 (a b c : Int) : Bool := (t57 a b c).val
theorem eq57 (a b c : Int) : evF Try.prog S0 (ro 57) (fun _ _ => none) Try.f57 [.i .i64 a, .i .i64 b, .i .i64 c] = (t57 a b c).opt (fun (x : (Bool)) => (.b x : AV)) := by kernel_rfl
theorem con57 (a b c : Int) (h : g57 a b c = true) : Con Try.prog 57 [.i .i64 a, .i .i64 b, .i .i64 c] [] (.b (w57_0 a b c)) [] :=
  con_of S0_ok mixed Try.func57 (c := c57) rfl (names 57 _ Try.func57) lok57 ((eq57 a b c).trans (Tr.sound _ _ h))
noncomputable def e57 (args : List AV) (rows : List Blk) : Option (Bool × AV × List Blk) := match args, rows with
  | [.i .i64 a, .i .i64 b, .i .i64 c], [] => some (g57 a b c, .b (w57_0 a b c), [])
  | _, _ => none
theorem e57_ok (args : List AV) (rows : List Blk) (pre : Bool) (v : AV) (rows' : List Blk) (h : e57 args rows = some (pre, v, rows')) (hp : pre = true) : Con Try.prog 57 args rows v rows' := by
  unfold e57 at h
  split at h
  · cases h; exact con57 _ _ _ hp
  · cases h
-- SPEC 57
end Go.Proofs.Ytgifjphinkbcaaa

set_option maxRecDepth 100000
set_option linter.unusedVariables false
namespace Go.Proofs.Ytgifjphinkbcaaa
open Go Go.Ev

/-! ### ref01.In -/
noncomputable def c86 : Code := match Try.f86.body with | some c => c | _ => .skip
theorem lok86 : LOK Try.prog S0 (ro 86) (fun _ _ => none) 0 false c86 [] :=
  lok_lo (fun _ _ _ _ _ _ _ h _ => by cases h) c86 [] false (locate_nil _) (by kernel_rfl)
noncomputable def t86 (a b c : Int) : Tr ((Bool)) :=
  .cn (decide (a ≥ b)) (.lf (decide (a ≤ c))) (.lf (false))
noncomputable def g86 (a b c : Int) : Bool := (t86 a b c).g
noncomputable def w86_0 (a b c : Int) : Bool := (t86 a b c).val
theorem eq86 (a b c : Int) : evF Try.prog S0 (ro 86) (fun _ _ => none) Try.f86 [.i .i64 a, .i .i64 b, .i .i64 c] = (t86 a b c).opt (fun (x : (Bool)) => (.b x : AV)) := by kernel_rfl
theorem con86 (a b c : Int) (h : g86 a b c = true) : Con Try.prog 86 [.i .i64 a, .i .i64 b, .i .i64 c] [] (.b (w86_0 a b c)) [] :=
  con_of S0_ok mixed Try.func86 (c := c86) rfl (names 86 _ Try.func86) lok86 ((eq86 a b c).trans (Tr.sound _ _ h))
noncomputable def e86 (args : List AV) (rows : List Blk) : Option (Bool × AV × List Blk) := match args, rows with
  | [.i .i64 a, .i .i64 b, .i .i64 c], [] => some (g86 a b c, .b (w86_0 a b c), [])
  | _, _ => none
theorem e86_ok (args : List AV) (rows : List Blk) (pre : Bool) (v : AV) (rows' : List Blk) (h : e86 args rows = some (pre, v, rows')) (hp : pre = true) : Con Try.prog 86 args rows v rows' := by
  unfold e86 at h
  split at h
  · cases h; exact con86 _ _ _ hp
  · cases h
-- SPEC 86
end Go.Proofs.Ytgifjphinkbcaaa

set_option maxRecDepth 100000
set_option linter.unusedVariables false
namespace Go.Proofs.Ytgifjphinkbcaaa
open Go Go.Ev

/-! ### Example -/
noncomputable def c48 : Code := match Try.f48.body with | some c => c | _ => .skip
theorem lok48 : LOK Try.prog S0 (ro 48) (fun _ _ => none) 0 false c48 [] :=
  lok_lo (fun _ _ _ _ _ _ _ h _ => by cases h) c48 [] false (locate_nil _) (by kernel_rfl)
noncomputable def t48  : Tr ((Int) × (Int) × (Int) × (List (List AV))) :=
  .lf (5, 0, 0, [[AV.s { data := #[111, 110, 101] }, AV.i IntKind.i64 1, AV.i IntKind.i64 0, AV.i IntKind.i64 0, AV.i IntKind.i64 0], [AV.s { data := #[116, 119, 111] }, AV.i IntKind.i64 2, AV.i IntKind.i64 0, AV.i IntKind.i64 0, AV.i IntKind.i64 1], [AV.s { data := #[117, 112] }, AV.i IntKind.i64 1, AV.i IntKind.i64 0, AV.i IntKind.i64 1, AV.i IntKind.i64 3], [AV.s { data := #[100, 111, 119, 110] }, AV.i IntKind.i64 1, AV.i IntKind.i64 1, AV.i IntKind.i64 0, AV.i IntKind.i64 2]])
noncomputable def g48  : Bool := (t48 ).g
noncomputable def w48_0  : Int := (t48 ).val.1
noncomputable def w48_1  : Int := (t48 ).val.2.1
noncomputable def w48_2  : Int := (t48 ).val.2.2.1
noncomputable def w48_3  : List (List AV) := (t48 ).val.2.2.2
theorem eq48  : evF Try.prog S0 (ro 48) (fun _ _ => none) Try.f48 [] = (t48 ).opt (fun (x : (Int) × (Int) × (Int) × (List (List AV))) => (.agg [.i .i64 x.1, .i .i64 x.2.1, .i .i64 x.2.2.1, .rs 31 x.2.2.2] : AV)) := by kernel_rfl
theorem con48  (h : g48  = true) : Con Try.prog 48 [] [] (.agg [.i .i64 (w48_0 ), .i .i64 (w48_1 ), .i .i64 (w48_2 ), .rs 31 (w48_3 )]) [] :=
  con_of S0_ok mixed Try.func48 (c := c48) rfl (names 48 _ Try.func48) lok48 ((eq48 ).trans (Tr.sound _ _ h))
noncomputable def e48 (args : List AV) (rows : List Blk) : Option (Bool × AV × List Blk) := match args, rows with
  | [], [] => some (g48 , .agg [.i .i64 (w48_0 ), .i .i64 (w48_1 ), .i .i64 (w48_2 ), .rs 31 (w48_3 )], [])
  | _, _ => none
theorem e48_ok (args : List AV) (rows : List Blk) (pre : Bool) (v : AV) (rows' : List Blk) (h : e48 args rows = some (pre, v, rows')) (hp : pre = true) : Con Try.prog 48 args rows v rows' := by
  unfold e48 at h
  split at h
  · cases h; exact con48 hp
  · cases h
-- SPEC 48
end Go.Proofs.Ytgifjphinkbcaaa

set_option maxRecDepth 100000
set_option linter.unusedVariables false
namespace Go.Proofs.Ytgifjphinkbcaaa
open Go Go.Ev

/-! ### Rods -/
noncomputable def c49 : Code := match Try.f49.body with | some c => c | _ => .skip
theorem lok49 : LOK Try.prog S0 (ro 49) (fun _ _ => none) 0 false c49 [] :=
  lok_lo (fun _ _ _ _ _ _ _ h _ => by cases h) c49 [] false (locate_nil _) (by kernel_rfl)
noncomputable def t49  : Tr ((Int) × (Int) × (List (List AV))) :=
  .lf (10, 1, [[AV.i IntKind.i64 5, AV.i IntKind.i64 2], [AV.i IntKind.i64 3, AV.i IntKind.i64 2], [AV.i IntKind.i64 2, AV.i IntKind.i64 1]])
noncomputable def g49  : Bool := (t49 ).g
noncomputable def w49_0  : Int := (t49 ).val.1
noncomputable def w49_1  : Int := (t49 ).val.2.1
noncomputable def w49_2  : List (List AV) := (t49 ).val.2.2
theorem eq49  : evF Try.prog S0 (ro 49) (fun _ _ => none) Try.f49 [] = (t49 ).opt (fun (x : (Int) × (Int) × (List (List AV))) => (.agg [.i .i64 x.1, .i .i64 x.2.1, .rs 64 x.2.2] : AV)) := by kernel_rfl
theorem con49  (h : g49  = true) : Con Try.prog 49 [] [] (.agg [.i .i64 (w49_0 ), .i .i64 (w49_1 ), .rs 64 (w49_2 )]) [] :=
  con_of S0_ok mixed Try.func49 (c := c49) rfl (names 49 _ Try.func49) lok49 ((eq49 ).trans (Tr.sound _ _ h))
noncomputable def e49 (args : List AV) (rows : List Blk) : Option (Bool × AV × List Blk) := match args, rows with
  | [], [] => some (g49 , .agg [.i .i64 (w49_0 ), .i .i64 (w49_1 ), .rs 64 (w49_2 )], [])
  | _, _ => none
theorem e49_ok (args : List AV) (rows : List Blk) (pre : Bool) (v : AV) (rows' : List Blk) (h : e49 args rows = some (pre, v, rows')) (hp : pre = true) : Con Try.prog 49 args rows v rows' := by
  unfold e49 at h
  split at h
  · cases h; exact con49 hp
  · cases h
-- SPEC 49
end Go.Proofs.Ytgifjphinkbcaaa

set_option maxRecDepth 100000
set_option linter.unusedVariables false
namespace Go.Proofs.Ytgifjphinkbcaaa
open Go Go.Ev

/-! ### turned -/
noncomputable def c62 : Code := match Try.f62.body with | some c => c | _ => .skip
theorem lok62 : LOK Try.prog S0 (ro 62) (fun _ _ => none) 0 false c62 [] :=
  lok_lo (fun _ _ _ _ _ _ _ h _ => by cases h) c62 [] false (locate_nil _) (by kernel_rfl)
noncomputable def t62 (nm : ByteArray) (pa pb pc pd : Int) : Tr ((ByteArray) × (Int) × (Int) × (Int) × (Int)) :=
  .lf ({ data := #[] }, pa, pc, pb, 0)
noncomputable def g62 (nm : ByteArray) (pa pb pc pd : Int) : Bool := (t62 nm pa pb pc pd).g
noncomputable def w62_0 (nm : ByteArray) (pa pb pc pd : Int) : ByteArray := (t62 nm pa pb pc pd).val.1
noncomputable def w62_1 (nm : ByteArray) (pa pb pc pd : Int) : Int := (t62 nm pa pb pc pd).val.2.1
noncomputable def w62_2 (nm : ByteArray) (pa pb pc pd : Int) : Int := (t62 nm pa pb pc pd).val.2.2.1
noncomputable def w62_3 (nm : ByteArray) (pa pb pc pd : Int) : Int := (t62 nm pa pb pc pd).val.2.2.2.1
noncomputable def w62_4 (nm : ByteArray) (pa pb pc pd : Int) : Int := (t62 nm pa pb pc pd).val.2.2.2.2
theorem eq62 (nm : ByteArray) (pa pb pc pd : Int) : evF Try.prog S0 (ro 62) (fun _ _ => none) Try.f62 [.agg [.s nm, .i .i64 pa, .i .i64 pb, .i .i64 pc, .i .i64 pd]] = (t62 nm pa pb pc pd).opt (fun (x : (ByteArray) × (Int) × (Int) × (Int) × (Int)) => (.agg [.s x.1, .i .i64 x.2.1, .i .i64 x.2.2.1, .i .i64 x.2.2.2.1, .i .i64 x.2.2.2.2] : AV)) := by kernel_rfl
theorem con62 (nm : ByteArray) (pa pb pc pd : Int) (h : g62 nm pa pb pc pd = true) : Con Try.prog 62 [.agg [.s nm, .i .i64 pa, .i .i64 pb, .i .i64 pc, .i .i64 pd]] [] (.agg [.s (w62_0 nm pa pb pc pd), .i .i64 (w62_1 nm pa pb pc pd), .i .i64 (w62_2 nm pa pb pc pd), .i .i64 (w62_3 nm pa pb pc pd), .i .i64 (w62_4 nm pa pb pc pd)]) [] :=
  con_of S0_ok mixed Try.func62 (c := c62) rfl (names 62 _ Try.func62) lok62 ((eq62 nm pa pb pc pd).trans (Tr.sound _ _ h))
noncomputable def e62 (args : List AV) (rows : List Blk) : Option (Bool × AV × List Blk) := match args, rows with
  | [.agg [.s nm, .i .i64 pa, .i .i64 pb, .i .i64 pc, .i .i64 pd]], [] => some (g62 nm pa pb pc pd, .agg [.s (w62_0 nm pa pb pc pd), .i .i64 (w62_1 nm pa pb pc pd), .i .i64 (w62_2 nm pa pb pc pd), .i .i64 (w62_3 nm pa pb pc pd), .i .i64 (w62_4 nm pa pb pc pd)], [])
  | _, _ => none
theorem e62_ok (args : List AV) (rows : List Blk) (pre : Bool) (v : AV) (rows' : List Blk) (h : e62 args rows = some (pre, v, rows')) (hp : pre = true) : Con Try.prog 62 args rows v rows' := by
  unfold e62 at h
  split at h
  · cases h; exact con62 _ _ _ _ _ hp
  · cases h
-- SPEC 62
end Go.Proofs.Ytgifjphinkbcaaa

set_option maxRecDepth 100000
set_option linter.unusedVariables false
namespace Go.Proofs.Ytgifjphinkbcaaa
open Go Go.Ev

/-! ### bare -/
noncomputable def c63 : Code := match Try.f63.body with | some c => c | _ => .skip
theorem lok63 : LOK Try.prog S0 (ro 63) (fun _ _ => none) 0 false c63 [] :=
  lok_lo (fun _ _ _ _ _ _ _ h _ => by cases h) c63 [] false (locate_nil _) (by kernel_rfl)
noncomputable def t63 (nm : ByteArray) (pa pb pc pd : Int) : Tr ((ByteArray) × (Int) × (Int) × (Int) × (Int)) :=
  .lf ({ data := #[] }, pa, pb, pc, 0)
noncomputable def g63 (nm : ByteArray) (pa pb pc pd : Int) : Bool := (t63 nm pa pb pc pd).g
noncomputable def w63_0 (nm : ByteArray) (pa pb pc pd : Int) : ByteArray := (t63 nm pa pb pc pd).val.1
noncomputable def w63_1 (nm : ByteArray) (pa pb pc pd : Int) : Int := (t63 nm pa pb pc pd).val.2.1
noncomputable def w63_2 (nm : ByteArray) (pa pb pc pd : Int) : Int := (t63 nm pa pb pc pd).val.2.2.1
noncomputable def w63_3 (nm : ByteArray) (pa pb pc pd : Int) : Int := (t63 nm pa pb pc pd).val.2.2.2.1
noncomputable def w63_4 (nm : ByteArray) (pa pb pc pd : Int) : Int := (t63 nm pa pb pc pd).val.2.2.2.2
theorem eq63 (nm : ByteArray) (pa pb pc pd : Int) : evF Try.prog S0 (ro 63) (fun _ _ => none) Try.f63 [.agg [.s nm, .i .i64 pa, .i .i64 pb, .i .i64 pc, .i .i64 pd]] = (t63 nm pa pb pc pd).opt (fun (x : (ByteArray) × (Int) × (Int) × (Int) × (Int)) => (.agg [.s x.1, .i .i64 x.2.1, .i .i64 x.2.2.1, .i .i64 x.2.2.2.1, .i .i64 x.2.2.2.2] : AV)) := by kernel_rfl
theorem con63 (nm : ByteArray) (pa pb pc pd : Int) (h : g63 nm pa pb pc pd = true) : Con Try.prog 63 [.agg [.s nm, .i .i64 pa, .i .i64 pb, .i .i64 pc, .i .i64 pd]] [] (.agg [.s (w63_0 nm pa pb pc pd), .i .i64 (w63_1 nm pa pb pc pd), .i .i64 (w63_2 nm pa pb pc pd), .i .i64 (w63_3 nm pa pb pc pd), .i .i64 (w63_4 nm pa pb pc pd)]) [] :=
  con_of S0_ok mixed Try.func63 (c := c63) rfl (names 63 _ Try.func63) lok63 ((eq63 nm pa pb pc pd).trans (Tr.sound _ _ h))
noncomputable def e63 (args : List AV) (rows : List Blk) : Option (Bool × AV × List Blk) := match args, rows with
  | [.agg [.s nm, .i .i64 pa, .i .i64 pb, .i .i64 pc, .i .i64 pd]], [] => some (g63 nm pa pb pc pd, .agg [.s (w63_0 nm pa pb pc pd), .i .i64 (w63_1 nm pa pb pc pd), .i .i64 (w63_2 nm pa pb pc pd), .i .i64 (w63_3 nm pa pb pc pd), .i .i64 (w63_4 nm pa pb pc pd)], [])
  | _, _ => none
theorem e63_ok (args : List AV) (rows : List Blk) (pre : Bool) (v : AV) (rows' : List Blk) (h : e63 args rows = some (pre, v, rows')) (hp : pre = true) : Con Try.prog 63 args rows v rows' := by
  unfold e63 at h
  split at h
  · cases h; exact con63 _ _ _ _ _ hp
  · cases h
-- SPEC 63
end Go.Proofs.Ytgifjphinkbcaaa

set_option maxRecDepth 100000
set_option linter.unusedVariables false
namespace Go.Proofs.Ytgifjphinkbcaaa
open Go Go.Ev

/-! ### whole -/
noncomputable def c52 : Code := match Try.f52.body with | some c => c | _ => .skip
theorem lok52 : LOK Try.prog S0 (ro 52) (fun _ _ => none) 0 false c52 [] :=
  lok_lo (fun _ _ _ _ _ _ _ h _ => by cases h) c52 [] false (locate_nil _) (by kernel_rfl)
noncomputable def t52 (ra rb rc : Int) (ps : List (List AV)) : Tr ((Int) × (Int)) :=
  .lf (ra, rb)
noncomputable def g52 (ra rb rc : Int) (ps : List (List AV)) : Bool := (t52 ra rb rc ps).g
noncomputable def w52_0 (ra rb rc : Int) (ps : List (List AV)) : Int := (t52 ra rb rc ps).val.1
noncomputable def w52_1 (ra rb rc : Int) (ps : List (List AV)) : Int := (t52 ra rb rc ps).val.2
theorem eq52 (ra rb rc : Int) (ps : List (List AV)) : evF Try.prog S0 (ro 52) (fun _ _ => none) Try.f52 [.agg [.i .i64 ra, .i .i64 rb, .i .i64 rc, .rs 31 ps]] = (t52 ra rb rc ps).opt (fun (x : (Int) × (Int)) => (.agg [.i .i64 x.1, .i .i64 x.2] : AV)) := by kernel_rfl
theorem con52 (ra rb rc : Int) (ps : List (List AV)) (h : g52 ra rb rc ps = true) : Con Try.prog 52 [.agg [.i .i64 ra, .i .i64 rb, .i .i64 rc, .rs 31 ps]] [] (.agg [.i .i64 (w52_0 ra rb rc ps), .i .i64 (w52_1 ra rb rc ps)]) [] :=
  con_of S0_ok mixed Try.func52 (c := c52) rfl (names 52 _ Try.func52) lok52 ((eq52 ra rb rc ps).trans (Tr.sound _ _ h))
noncomputable def e52 (args : List AV) (rows : List Blk) : Option (Bool × AV × List Blk) := match args, rows with
  | [.agg [.i .i64 ra, .i .i64 rb, .i .i64 rc, .rs 31 ps]], [] => some (g52 ra rb rc ps, .agg [.i .i64 (w52_0 ra rb rc ps), .i .i64 (w52_1 ra rb rc ps)], [])
  | _, _ => none
theorem e52_ok (args : List AV) (rows : List Blk) (pre : Bool) (v : AV) (rows' : List Blk) (h : e52 args rows = some (pre, v, rows')) (hp : pre = true) : Con Try.prog 52 args rows v rows' := by
  unfold e52 at h
  split at h
  · cases h; exact con52 _ _ _ _ hp
  · cases h
-- SPEC 52
end Go.Proofs.Ytgifjphinkbcaaa

set_option maxRecDepth 100000
set_option linter.unusedVariables false
namespace Go.Proofs.Ytgifjphinkbcaaa
open Go Go.Ev

/-! ### isName$1 -/
noncomputable def c85 : Code := match Try.f85.body with | some c => c | _ => .skip
theorem lok85 : LOK Try.prog S0 (ro 85) (fun _ _ => none) 0 false c85 [] :=
  lok_lo (fun _ _ _ _ _ _ _ h _ => by cases h) c85 [] false (locate_nil _) (by kernel_rfl)
noncomputable def t85 (c : Int) : Tr ((Bool)) :=
  .cn (decide (c ≥ 97)) (.cn (decide (c ≤ 122)) (.lf (false)) (.cn (decide (c ≥ 48)) (.cn (decide (c ≤ 57)) (.lf (false)) (.lf (!c == 45))) (.lf (!c == 45)))) (.cn (decide (c ≥ 48)) (.cn (decide (c ≤ 57)) (.lf (false)) (.lf (!c == 45))) (.lf (!c == 45)))
noncomputable def g85 (c : Int) : Bool := (t85 c).g
noncomputable def w85_0 (c : Int) : Bool := (t85 c).val
theorem eq85 (c : Int) : evF Try.prog S0 (ro 85) (fun _ _ => none) Try.f85 [.i .i32 c] = (t85 c).opt (fun (x : (Bool)) => (.b x : AV)) := by kernel_rfl
theorem con85 (c : Int) (h : g85 c = true) : Con Try.prog 85 [.i .i32 c] [] (.b (w85_0 c)) [] :=
  con_of S0_ok mixed Try.func85 (c := c85) rfl (names 85 _ Try.func85) lok85 ((eq85 c).trans (Tr.sound _ _ h))
noncomputable def e85 (args : List AV) (rows : List Blk) : Option (Bool × AV × List Blk) := match args, rows with
  | [.i .i32 c], [] => some (g85 c, .b (w85_0 c), [])
  | _, _ => none
theorem e85_ok (args : List AV) (rows : List Blk) (pre : Bool) (v : AV) (rows' : List Blk) (h : e85 args rows = some (pre, v, rows')) (hp : pre = true) : Con Try.prog 85 args rows v rows' := by
  unfold e85 at h
  split at h
  · cases h; exact con85 _ hp
  · cases h
-- SPEC 85
end Go.Proofs.Ytgifjphinkbcaaa

set_option maxRecDepth 100000
set_option linter.unusedVariables false
namespace Go.Proofs.Ytgifjphinkbcaaa
open Go Go.Ev

/-! ### SameInts -/
noncomputable def c28 : Code := match Try.f28.body with | some c => c | _ => .skip
noncomputable def lp28a : Code := loopAt c28 [true, true, false, true, false]
noncomputable def s28a (xs : List (List AV)) (ys : List (List AV)) (t4 : Bool) (t5 : Int) : St :=
  { t := [(0, .rs 3 xs), (1, .rs 3 ys), (4, .b t4), (5, .i .i64 t5)], m := [], nx := 0, nt := 26 }
structure S28a where
  t5 : Int
inductive T28a where
  | x0 (t4' : Bool) (t5 : Int)
  | x1 (t5 : Int)
noncomputable def stp28a (xs : List (List AV)) (ys : List (List AV)) (t4 : Bool) (t5 : Int) : Lp S28a T28a :=
  cond (decide (t5 < (↑xs.length : Int))) (cond (inb t5 xs.length) (cond (inb t5 ys.length) (cond (fI (xs.getD t5.toNat []) 0 != fI (ys.getD t5.toNat []) 0) (.out (.x0 false t5)) (.go ⟨IntKind.i64.wrap (t5 + 1)⟩)) (.bad)) (.bad)) (.out (.x1 t5))
noncomputable def o28a_0 (xs : List (List AV)) (ys : List (List AV)) (t4 : Bool) (t4' : Bool) (t5 : Int) : St :=
  { t := [(0, .rs 3 xs), (1, .rs 3 ys), (4, .b t4'), (5, .i .i64 t5)], m := [], nx := 0, nt := 26 }
noncomputable def o28a_1 (xs : List (List AV)) (ys : List (List AV)) (t4 : Bool) (t5 : Int) : St :=
  { t := [(0, .rs 3 xs), (1, .rs 3 ys), (4, .b t4), (5, .i .i64 t5)], m := [], nx := 0, nt := 26 }
noncomputable def ou28a (xs : List (List AV)) (ys : List (List AV)) (t4 : Bool) : T28a → Ex × St
  | .x0 t4' t5 => (.ret, o28a_0 xs ys t4 t4' t5)
  | .x1 t5 => (.ext 0, o28a_1 xs ys t4 t5)
noncomputable def r28a (xs : List (List AV)) (ys : List (List AV)) (t4 : Bool) (t5 : Int) : Option T28a := run (fun x => stp28a xs ys t4 x.t5) (⟨t5⟩ : S28a)
noncomputable def i28a_0 (xs : List (List AV)) (ys : List (List AV)) (t4 : Bool) (t5 : Int) : Bool := match r28a xs ys t4 t5 with
  | some (.x0 _ _) => true
  | _ => false
noncomputable def v28a_0_t4' (xs : List (List AV)) (ys : List (List AV)) (t4 : Bool) (t5 : Int) : Bool := match r28a xs ys t4 t5 with
  | some (.x0 t4' _) => t4'
  | _ => default
noncomputable def v28a_0_t5 (xs : List (List AV)) (ys : List (List AV)) (t4 : Bool) (t5 : Int) : Int := match r28a xs ys t4 t5 with
  | some (.x0 _ t5) => t5
  | _ => default
noncomputable def i28a_1 (xs : List (List AV)) (ys : List (List AV)) (t4 : Bool) (t5 : Int) : Bool := match r28a xs ys t4 t5 with
  | some (.x1 _) => true
  | _ => false
noncomputable def v28a_1_t5 (xs : List (List AV)) (ys : List (List AV)) (t4 : Bool) (t5 : Int) : Int := match r28a xs ys t4 t5 with
  | some (.x1 t5) => t5
  | _ => default
noncomputable def l28a (st : St) : Option (List (Bool × Ex × St)) := match normW Try.prog [(0, none), (1, none), (4, none), (5, none)] 0 st with
  | some ([.rs 3 xs, .rs 3 ys, .b t4, .i .i64 t5], [], 0, 26) => some [(i28a_0 xs ys t4 t5, .ret, o28a_0 xs ys t4 (v28a_0_t4' xs ys t4 t5) (v28a_0_t5 xs ys t4 t5)), (i28a_1 xs ys t4 t5, .ext 0, o28a_1 xs ys t4 (v28a_1_t5 xs ys t4 t5))]
  | _ => none
noncomputable def L28 : LSpec := fun p st => match p with
  | [false, true, false, true, true] => l28a st
  | _ => none
theorem is28a_0 (xs : List (List AV)) (ys : List (List AV)) (t4 : Bool) (t5 : Int) (h : i28a_0 xs ys t4 t5 = true) : r28a xs ys t4 t5 = some (.x0 (v28a_0_t4' xs ys t4 t5) (v28a_0_t5 xs ys t4 t5)) := by
  unfold i28a_0 at h
  unfold v28a_0_t4' v28a_0_t5
  generalize r28a xs ys t4 t5 = r at h ⊢
  rcases r with _ | y
  · cases h
  · cases y <;> first | rfl | cases h
theorem is28a_1 (xs : List (List AV)) (ys : List (List AV)) (t4 : Bool) (t5 : Int) (h : i28a_1 xs ys t4 t5 = true) : r28a xs ys t4 t5 = some (.x1 (v28a_1_t5 xs ys t4 t5)) := by
  unfold i28a_1 at h
  unfold v28a_1_t5
  generalize r28a xs ys t4 t5 = r at h ⊢
  rcases r with _ | y
  · cases h
  · cases y <;> first | rfl | cases h
theorem round28a (xs : List (List AV)) (ys : List (List AV)) (t4 : Bool) (t5 : Int) : round Try.prog S0 (ro 28) L28 lp28a [false, true, false, true, true] [(0, none), (1, none), (4, none), (5, none)] 0 (s28a xs ys t4 t5) =
    cond (decide (t5 < (↑xs.length : Int))) (cond (inb t5 xs.length) (cond (inb t5 ys.length) (cond (fI (xs.getD t5.toNat []) 0 != fI (ys.getD t5.toNat []) 0) (some (.ret, o28a_0 xs ys t4 false t5)) (some (.nrm, s28a xs ys t4 (IntKind.i64.wrap (t5 + 1))))) (none)) (none)) (some (.ext 0, o28a_1 xs ys t4 t5)) := by kernel_rfl
theorem rnd28a (xs : List (List AV)) (ys : List (List AV)) (t4 : Bool) (x : S28a) : round Try.prog S0 (ro 28) L28 lp28a [false, true, false, true, true] [(0, none), (1, none), (4, none), (5, none)] 0 ((fun x => s28a xs ys t4 x.t5) x) = toR (fun x => s28a xs ys t4 x.t5) (ou28a xs ys t4) (stp28a xs ys t4 x.t5) := by
  refine (round28a _ _ _ _ ).trans ?_
  unfold stp28a
  simp only [toR_cond]
  rfl
theorem lok28a {st : St} {outs : List (Bool × Ex × St)} {e : Ex} {s : St} (hl : l28a st = some outs) (hch : Chosen outs e s) :
    ∃ keep nb, 0 ≤ nb ∧ LB Try.prog S0 (ro 28) L28 lp28a [false, true, false, true, true] keep nb st e s := by
  unfold l28a at hl
  split at hl
  · rename_i xs ys t4 t5 hno
    cases hl
    have hno := normW_norm hno
    refine ⟨_, _, ?_, .enter hno ?_⟩
    · decide
    have main := fun y h => LB_run (x := (⟨t5⟩ : S28a)) (y := y) (nb := 0) (fun y => by cases y <;> simp [ou28a]) (rnd28a xs ys t4) h
    obtain ⟨x, hx, hg, rfl, rfl⟩ := chosen_any hch
    simp only [List.mem_cons, List.not_mem_nil, or_false] at hx
    rcases hx with rfl | rfl
    · exact main _ (is28a_0 xs ys t4 t5 hg)
    · exact main _ (is28a_1 xs ys t4 t5 hg)
  · cases hl
theorem L28_ok (q : Pl) (c : Code) (hq : locate c28 q.reverse = some (.loop c)) (st : St) (outs : List (Bool × Ex × St)) (e : Ex) (s : St) (hl : L28 q st = some outs) (hch : Chosen outs e s) :
    ∃ keep nb, 0 ≤ nb ∧ LB Try.prog S0 (ro 28) L28 c q keep nb st e s := by
  unfold L28 at hl
  split at hl
  · have : locate c28 ([false, true, false, true, true] : Pl).reverse = some (.loop lp28a) := by kernel_rfl
    rw [this] at hq
    cases hq
    exact lok28a hl hch
  · cases hl
theorem lok28 : LOK Try.prog S0 (ro 28) L28 0 false c28 [] :=
  lok_lo L28_ok c28 [] false (locate_nil _) (by kernel_rfl)
noncomputable def t28 (xs ys : List (List AV)) : Tr ((Bool)) :=
  .cn ((↑xs.length : Int) != (↑ys.length : Int)) (.lf (false)) (.cn (i28a_0 xs ys false 0) (.lf (v28a_0_t4' xs ys false 0)) (.cn (i28a_1 xs ys false 0) (.lf (true)) (.nn)))
noncomputable def g28 (xs ys : List (List AV)) : Bool := (t28 xs ys).g
noncomputable def w28_0 (xs ys : List (List AV)) : Bool := (t28 xs ys).val
theorem eq28 (xs ys : List (List AV)) : evF Try.prog S0 (ro 28) L28 Try.f28 [.rs 3 xs, .rs 3 ys] = (t28 xs ys).opt (fun (x : (Bool)) => (.b x : AV)) := by kernel_rfl
theorem con28 (xs ys : List (List AV)) (h : g28 xs ys = true) : Con Try.prog 28 [.rs 3 xs, .rs 3 ys] [] (.b (w28_0 xs ys)) [] :=
  con_of S0_ok mixed Try.func28 (c := c28) rfl (names 28 _ Try.func28) lok28 ((eq28 xs ys).trans (Tr.sound _ _ h))
noncomputable def e28 (args : List AV) (rows : List Blk) : Option (Bool × AV × List Blk) := match args, rows with
  | [.rs 3 xs, .rs 3 ys], [] => some (g28 xs ys, .b (w28_0 xs ys), [])
  | _, _ => none
theorem e28_ok (args : List AV) (rows : List Blk) (pre : Bool) (v : AV) (rows' : List Blk) (h : e28 args rows = some (pre, v, rows')) (hp : pre = true) : Con Try.prog 28 args rows v rows' := by
  unfold e28 at h
  split at h
  · cases h; exact con28 _ _ hp
  · cases h
-- SPEC 28
end Go.Proofs.Ytgifjphinkbcaaa

set_option maxRecDepth 100000
set_option linter.unusedVariables false
namespace Go.Proofs.Ytgifjphinkbcaaa
open Go Go.Ev

/-! ### swapped -/
noncomputable def c31 : Code := match Try.f31.body with | some c => c | _ => .skip
theorem lok31 : LOK Try.prog S0 (ro 31) (fun _ _ => none) 0 false c31 [] :=
  lok_lo (fun _ _ _ _ _ _ _ h _ => by cases h) c31 [] false (locate_nil _) (by kernel_rfl)
noncomputable def t31 (ra rb rc : Int) (ps : List (List AV)) : Tr ((Int) × (Int) × (Int) × (List (List AV))) :=
  .lf (ra, rc, rb, ps)
noncomputable def g31 (ra rb rc : Int) (ps : List (List AV)) : Bool := (t31 ra rb rc ps).g
noncomputable def w31_0 (ra rb rc : Int) (ps : List (List AV)) : Int := (t31 ra rb rc ps).val.1
noncomputable def w31_1 (ra rb rc : Int) (ps : List (List AV)) : Int := (t31 ra rb rc ps).val.2.1
noncomputable def w31_2 (ra rb rc : Int) (ps : List (List AV)) : Int := (t31 ra rb rc ps).val.2.2.1
noncomputable def w31_3 (ra rb rc : Int) (ps : List (List AV)) : List (List AV) := (t31 ra rb rc ps).val.2.2.2
theorem eq31 (ra rb rc : Int) (ps : List (List AV)) : evF Try.prog S0 (ro 31) (fun _ _ => none) Try.f31 [.agg [.i .i64 ra, .i .i64 rb, .i .i64 rc, .rs 31 ps]] = (t31 ra rb rc ps).opt (fun (x : (Int) × (Int) × (Int) × (List (List AV))) => (.agg [.i .i64 x.1, .i .i64 x.2.1, .i .i64 x.2.2.1, .rs 31 x.2.2.2] : AV)) := by kernel_rfl
theorem con31 (ra rb rc : Int) (ps : List (List AV)) (h : g31 ra rb rc ps = true) : Con Try.prog 31 [.agg [.i .i64 ra, .i .i64 rb, .i .i64 rc, .rs 31 ps]] [] (.agg [.i .i64 (w31_0 ra rb rc ps), .i .i64 (w31_1 ra rb rc ps), .i .i64 (w31_2 ra rb rc ps), .rs 31 (w31_3 ra rb rc ps)]) [] :=
  con_of S0_ok mixed Try.func31 (c := c31) rfl (names 31 _ Try.func31) lok31 ((eq31 ra rb rc ps).trans (Tr.sound _ _ h))
noncomputable def e31 (args : List AV) (rows : List Blk) : Option (Bool × AV × List Blk) := match args, rows with
  | [.agg [.i .i64 ra, .i .i64 rb, .i .i64 rc, .rs 31 ps]], [] => some (g31 ra rb rc ps, .agg [.i .i64 (w31_0 ra rb rc ps), .i .i64 (w31_1 ra rb rc ps), .i .i64 (w31_2 ra rb rc ps), .rs 31 (w31_3 ra rb rc ps)], [])
  | _, _ => none
theorem e31_ok (args : List AV) (rows : List Blk) (pre : Bool) (v : AV) (rows' : List Blk) (h : e31 args rows = some (pre, v, rows')) (hp : pre = true) : Con Try.prog 31 args rows v rows' := by
  unfold e31 at h
  split at h
  · cases h; exact con31 _ _ _ _ hp
  · cases h
-- SPEC 31
end Go.Proofs.Ytgifjphinkbcaaa

set_option maxRecDepth 100000
set_option linter.unusedVariables false
namespace Go.Proofs.Ytgifjphinkbcaaa
open Go Go.Ev

/-! ### gap.next -/
noncomputable def c71 : Code := match Try.f71.body with | some c => c | _ => .skip
theorem lok71 : LOK Try.prog S0 (ro 71) (fun _ _ => none) 0 false c71 [] :=
  lok_lo (fun _ _ _ _ _ _ _ h _ => by cases h) c71 [] false (locate_nil _) (by kernel_rfl)
noncomputable def t71 (q0 q1 : Int) (nm : ByteArray) (pa pb pc pd : Int) : Tr ((Int) × (Int) × (Bool)) :=
  .cn (pb == q1) (.lf (IntKind.i64.wrap (q0 - pa), pc, decide (pa ≤ q0))) (.lf (IntKind.i64.wrap (q0 - pa), pc, false))
noncomputable def g71 (q0 q1 : Int) (nm : ByteArray) (pa pb pc pd : Int) : Bool := (t71 q0 q1 nm pa pb pc pd).g
noncomputable def w71_0 (q0 q1 : Int) (nm : ByteArray) (pa pb pc pd : Int) : Int := (t71 q0 q1 nm pa pb pc pd).val.1
noncomputable def w71_1 (q0 q1 : Int) (nm : ByteArray) (pa pb pc pd : Int) : Int := (t71 q0 q1 nm pa pb pc pd).val.2.1
noncomputable def w71_2 (q0 q1 : Int) (nm : ByteArray) (pa pb pc pd : Int) : Bool := (t71 q0 q1 nm pa pb pc pd).val.2.2
theorem eq71 (q0 q1 : Int) (nm : ByteArray) (pa pb pc pd : Int) : evF Try.prog S0 (ro 71) (fun _ _ => none) Try.f71 [.agg [.i .i64 q0, .i .i64 q1], .agg [.s nm, .i .i64 pa, .i .i64 pb, .i .i64 pc, .i .i64 pd]] = (t71 q0 q1 nm pa pb pc pd).opt (fun (x : (Int) × (Int) × (Bool)) => (.tup [.agg [.i .i64 x.1, .i .i64 x.2.1], .b x.2.2] : AV)) := by kernel_rfl
theorem con71 (q0 q1 : Int) (nm : ByteArray) (pa pb pc pd : Int) (h : g71 q0 q1 nm pa pb pc pd = true) : Con Try.prog 71 [.agg [.i .i64 q0, .i .i64 q1], .agg [.s nm, .i .i64 pa, .i .i64 pb, .i .i64 pc, .i .i64 pd]] [] (.tup [.agg [.i .i64 (w71_0 q0 q1 nm pa pb pc pd), .i .i64 (w71_1 q0 q1 nm pa pb pc pd)], .b (w71_2 q0 q1 nm pa pb pc pd)]) [] :=
  con_of S0_ok mixed Try.func71 (c := c71) rfl (names 71 _ Try.func71) lok71 ((eq71 q0 q1 nm pa pb pc pd).trans (Tr.sound _ _ h))
noncomputable def e71 (args : List AV) (rows : List Blk) : Option (Bool × AV × List Blk) := match args, rows with
  | [.agg [.i .i64 q0, .i .i64 q1], .agg [.s nm, .i .i64 pa, .i .i64 pb, .i .i64 pc, .i .i64 pd]], [] => some (g71 q0 q1 nm pa pb pc pd, .tup [.agg [.i .i64 (w71_0 q0 q1 nm pa pb pc pd), .i .i64 (w71_1 q0 q1 nm pa pb pc pd)], .b (w71_2 q0 q1 nm pa pb pc pd)], [])
  | _, _ => none
theorem e71_ok (args : List AV) (rows : List Blk) (pre : Bool) (v : AV) (rows' : List Blk) (h : e71 args rows = some (pre, v, rows')) (hp : pre = true) : Con Try.prog 71 args rows v rows' := by
  unfold e71 at h
  split at h
  · cases h; exact con71 _ _ _ _ _ _ _ hp
  · cases h
-- SPEC 71
end Go.Proofs.Ytgifjphinkbcaaa

set_option maxRecDepth 100000
set_option linter.unusedVariables false
namespace Go.Proofs.Ytgifjphinkbcaaa
open Go Go.Ev

/-! ### counts.of -/
noncomputable def c51 : Code := match Try.f51.body with | some c => c | _ => .skip
theorem lok51 : LOK Try.prog S0 (ro 51) (fun _ _ => none) 0 false c51 [] :=
  lok_lo (fun _ _ _ _ _ _ _ h _ => by cases h) c51 [] false (locate_nil _) (by kernel_rfl)
noncomputable def t51 (cs : List (List AV)) (q0 q1 : Int) : Tr ((Int)) :=
  .cn (inb q0 cs.length) (.cn (inb q1 10) (.cn (ctsAt (cts Try.prog 91) (0 + q1.toNat * 1) (cts Try.prog 3)) (.lf (toI ((cs.getD q0.toNat []).getD (0 + q1.toNat * 1) AV.u))) (.nn)) (.nn)) (.nn)
noncomputable def g51 (cs : List (List AV)) (q0 q1 : Int) : Bool := (t51 cs q0 q1).g
noncomputable def w51_0 (cs : List (List AV)) (q0 q1 : Int) : Int := (t51 cs q0 q1).val
theorem eq51 (cs : List (List AV)) (q0 q1 : Int) : evF Try.prog S0 (ro 51) (fun _ _ => none) Try.f51 [.rs 91 cs, .agg [.i .i64 q0, .i .i64 q1]] = (t51 cs q0 q1).opt (fun (x : (Int)) => (.i .i64 x : AV)) := by kernel_rfl
theorem con51 (cs : List (List AV)) (q0 q1 : Int) (h : g51 cs q0 q1 = true) : Con Try.prog 51 [.rs 91 cs, .agg [.i .i64 q0, .i .i64 q1]] [] (.i .i64 (w51_0 cs q0 q1)) [] :=
  con_of S0_ok mixed Try.func51 (c := c51) rfl (names 51 _ Try.func51) lok51 ((eq51 cs q0 q1).trans (Tr.sound _ _ h))
noncomputable def e51 (args : List AV) (rows : List Blk) : Option (Bool × AV × List Blk) := match args, rows with
  | [.rs 91 cs, .agg [.i .i64 q0, .i .i64 q1]], [] => some (g51 cs q0 q1, .i .i64 (w51_0 cs q0 q1), [])
  | _, _ => none
theorem e51_ok (args : List AV) (rows : List Blk) (pre : Bool) (v : AV) (rows' : List Blk) (h : e51 args rows = some (pre, v, rows')) (hp : pre = true) : Con Try.prog 51 args rows v rows' := by
  unfold e51 at h
  split at h
  · cases h; exact con51 _ _ _ hp
  · cases h
-- SPEC 51
end Go.Proofs.Ytgifjphinkbcaaa

set_option maxRecDepth 100000
set_option linter.unusedVariables false
namespace Go.Proofs.Ytgifjphinkbcaaa
open Go Go.Ev

/-! ### patterns -/
noncomputable def c75 : Code := match Try.f75.body with | some c => c | _ => .skip
theorem lok75 : LOK Try.prog S0 (ro 75) (fun _ _ => none) 0 false c75 [] :=
  lok_lo (fun _ _ _ _ _ _ _ h _ => by cases h) c75 [] false (locate_nil _) (by kernel_rfl)
noncomputable def t75 (da db : Int) (cs : List (List AV)) (q0 q1 q2 q3 q4 q5 q6 q7 : Int) : Tr ((Int) × (Int) × (List (List AV)) × (Int) × (Int) × (Int) × (Int) × (Int) × (Int) × (Int) × (Int)) :=
  .lf (da, db, cs, q0, q1, q2, q3, q4, q5, q6, q7)
noncomputable def g75 (da db : Int) (cs : List (List AV)) (q0 q1 q2 q3 q4 q5 q6 q7 : Int) : Bool := (t75 da db cs q0 q1 q2 q3 q4 q5 q6 q7).g
noncomputable def w75_0 (da db : Int) (cs : List (List AV)) (q0 q1 q2 q3 q4 q5 q6 q7 : Int) : Int := (t75 da db cs q0 q1 q2 q3 q4 q5 q6 q7).val.1
noncomputable def w75_1 (da db : Int) (cs : List (List AV)) (q0 q1 q2 q3 q4 q5 q6 q7 : Int) : Int := (t75 da db cs q0 q1 q2 q3 q4 q5 q6 q7).val.2.1
noncomputable def w75_2 (da db : Int) (cs : List (List AV)) (q0 q1 q2 q3 q4 q5 q6 q7 : Int) : List (List AV) := (t75 da db cs q0 q1 q2 q3 q4 q5 q6 q7).val.2.2.1
noncomputable def w75_3 (da db : Int) (cs : List (List AV)) (q0 q1 q2 q3 q4 q5 q6 q7 : Int) : Int := (t75 da db cs q0 q1 q2 q3 q4 q5 q6 q7).val.2.2.2.1
noncomputable def w75_4 (da db : Int) (cs : List (List AV)) (q0 q1 q2 q3 q4 q5 q6 q7 : Int) : Int := (t75 da db cs q0 q1 q2 q3 q4 q5 q6 q7).val.2.2.2.2.1
noncomputable def w75_5 (da db : Int) (cs : List (List AV)) (q0 q1 q2 q3 q4 q5 q6 q7 : Int) : Int := (t75 da db cs q0 q1 q2 q3 q4 q5 q6 q7).val.2.2.2.2.2.1
noncomputable def w75_6 (da db : Int) (cs : List (List AV)) (q0 q1 q2 q3 q4 q5 q6 q7 : Int) : Int := (t75 da db cs q0 q1 q2 q3 q4 q5 q6 q7).val.2.2.2.2.2.2.1
noncomputable def w75_7 (da db : Int) (cs : List (List AV)) (q0 q1 q2 q3 q4 q5 q6 q7 : Int) : Int := (t75 da db cs q0 q1 q2 q3 q4 q5 q6 q7).val.2.2.2.2.2.2.2.1
noncomputable def w75_8 (da db : Int) (cs : List (List AV)) (q0 q1 q2 q3 q4 q5 q6 q7 : Int) : Int := (t75 da db cs q0 q1 q2 q3 q4 q5 q6 q7).val.2.2.2.2.2.2.2.2.1
noncomputable def w75_9 (da db : Int) (cs : List (List AV)) (q0 q1 q2 q3 q4 q5 q6 q7 : Int) : Int := (t75 da db cs q0 q1 q2 q3 q4 q5 q6 q7).val.2.2.2.2.2.2.2.2.2.1
noncomputable def w75_10 (da db : Int) (cs : List (List AV)) (q0 q1 q2 q3 q4 q5 q6 q7 : Int) : Int := (t75 da db cs q0 q1 q2 q3 q4 q5 q6 q7).val.2.2.2.2.2.2.2.2.2.2
theorem eq75 (da db : Int) (cs : List (List AV)) (q0 q1 q2 q3 q4 q5 q6 q7 : Int) : evF Try.prog S0 (ro 75) (fun _ _ => none) Try.f75 [.agg [.i .i64 da, .i .i64 db, .rs 64 cs], .agg [.i .i64 q0, .i .i64 q1, .i .i64 q2, .i .i64 q3, .i .i64 q4, .i .i64 q5, .i .i64 q6, .i .i64 q7]] = (t75 da db cs q0 q1 q2 q3 q4 q5 q6 q7).opt (fun (x : (Int) × (Int) × (List (List AV)) × (Int) × (Int) × (Int) × (Int) × (Int) × (Int) × (Int) × (Int)) => (.fn 88 [.rp [.int .i64, .int .i64, .sl 64] [.i .i64 x.1, .i .i64 x.2.1, .rs 64 x.2.2.1] 0, .rp [.int .i64, .int .i64, .int .i64, .int .i64, .int .i64, .int .i64, .int .i64, .int .i64] [.i .i64 x.2.2.2.1, .i .i64 x.2.2.2.2.1, .i .i64 x.2.2.2.2.2.1, .i .i64 x.2.2.2.2.2.2.1, .i .i64 x.2.2.2.2.2.2.2.1, .i .i64 x.2.2.2.2.2.2.2.2.1, .i .i64 x.2.2.2.2.2.2.2.2.2.1, .i .i64 x.2.2.2.2.2.2.2.2.2.2] 0] : AV)) := by kernel_rfl
theorem con75 (da db : Int) (cs : List (List AV)) (q0 q1 q2 q3 q4 q5 q6 q7 : Int) (h : g75 da db cs q0 q1 q2 q3 q4 q5 q6 q7 = true) : Con Try.prog 75 [.agg [.i .i64 da, .i .i64 db, .rs 64 cs], .agg [.i .i64 q0, .i .i64 q1, .i .i64 q2, .i .i64 q3, .i .i64 q4, .i .i64 q5, .i .i64 q6, .i .i64 q7]] [] (.fn 88 [.rp [.int .i64, .int .i64, .sl 64] [.i .i64 (w75_0 da db cs q0 q1 q2 q3 q4 q5 q6 q7), .i .i64 (w75_1 da db cs q0 q1 q2 q3 q4 q5 q6 q7), .rs 64 (w75_2 da db cs q0 q1 q2 q3 q4 q5 q6 q7)] 0, .rp [.int .i64, .int .i64, .int .i64, .int .i64, .int .i64, .int .i64, .int .i64, .int .i64] [.i .i64 (w75_3 da db cs q0 q1 q2 q3 q4 q5 q6 q7), .i .i64 (w75_4 da db cs q0 q1 q2 q3 q4 q5 q6 q7), .i .i64 (w75_5 da db cs q0 q1 q2 q3 q4 q5 q6 q7), .i .i64 (w75_6 da db cs q0 q1 q2 q3 q4 q5 q6 q7), .i .i64 (w75_7 da db cs q0 q1 q2 q3 q4 q5 q6 q7), .i .i64 (w75_8 da db cs q0 q1 q2 q3 q4 q5 q6 q7), .i .i64 (w75_9 da db cs q0 q1 q2 q3 q4 q5 q6 q7), .i .i64 (w75_10 da db cs q0 q1 q2 q3 q4 q5 q6 q7)] 0]) [] :=
  con_of S0_ok mixed Try.func75 (c := c75) rfl (names 75 _ Try.func75) lok75 ((eq75 da db cs q0 q1 q2 q3 q4 q5 q6 q7).trans (Tr.sound _ _ h))
noncomputable def e75 (args : List AV) (rows : List Blk) : Option (Bool × AV × List Blk) := match args, rows with
  | [.agg [.i .i64 da, .i .i64 db, .rs 64 cs], .agg [.i .i64 q0, .i .i64 q1, .i .i64 q2, .i .i64 q3, .i .i64 q4, .i .i64 q5, .i .i64 q6, .i .i64 q7]], [] => some (g75 da db cs q0 q1 q2 q3 q4 q5 q6 q7, .fn 88 [.rp [.int .i64, .int .i64, .sl 64] [.i .i64 (w75_0 da db cs q0 q1 q2 q3 q4 q5 q6 q7), .i .i64 (w75_1 da db cs q0 q1 q2 q3 q4 q5 q6 q7), .rs 64 (w75_2 da db cs q0 q1 q2 q3 q4 q5 q6 q7)] 0, .rp [.int .i64, .int .i64, .int .i64, .int .i64, .int .i64, .int .i64, .int .i64, .int .i64] [.i .i64 (w75_3 da db cs q0 q1 q2 q3 q4 q5 q6 q7), .i .i64 (w75_4 da db cs q0 q1 q2 q3 q4 q5 q6 q7), .i .i64 (w75_5 da db cs q0 q1 q2 q3 q4 q5 q6 q7), .i .i64 (w75_6 da db cs q0 q1 q2 q3 q4 q5 q6 q7), .i .i64 (w75_7 da db cs q0 q1 q2 q3 q4 q5 q6 q7), .i .i64 (w75_8 da db cs q0 q1 q2 q3 q4 q5 q6 q7), .i .i64 (w75_9 da db cs q0 q1 q2 q3 q4 q5 q6 q7), .i .i64 (w75_10 da db cs q0 q1 q2 q3 q4 q5 q6 q7)] 0], [])
  | _, _ => none
theorem e75_ok (args : List AV) (rows : List Blk) (pre : Bool) (v : AV) (rows' : List Blk) (h : e75 args rows = some (pre, v, rows')) (hp : pre = true) : Con Try.prog 75 args rows v rows' := by
  unfold e75 at h
  split at h
  · cases h; exact con75 _ _ _ _ _ _ _ _ _ _ _ hp
  · cases h
-- SPEC 75
end Go.Proofs.Ytgifjphinkbcaaa

set_option maxRecDepth 100000
set_option linter.unusedVariables false
namespace Go.Proofs.Ytgifjphinkbcaaa
open Go Go.Ev

/-! ### wanted -/
noncomputable def c77 : Code := match Try.f77.body with | some c => c | _ => .skip
noncomputable def lp77a : Code := loopAt c77 [true, true, false, true, false]
noncomputable def s77a (cs : List (List AV)) (t8 : Int) (t9 : Int) (m1_0 : Int) (m1_1 : Int) (m1_2 : Int) (m1_3 : Int) (m1_4 : Int) (m1_5 : Int) (m1_6 : Int) (m1_7 : Int) (m2 : List AV) : St :=
  { t := [(2, .p 1 0 0), (3, .p 2 0 0), (7, .rs 64 cs), (8, .i .i64 t8), (9, .i .i64 t9)], m := [(0, .dead), (1, .row 104 [[.i .i64 m1_0, .i .i64 m1_1, .i .i64 m1_2, .i .i64 m1_3, .i .i64 m1_4, .i .i64 m1_5, .i .i64 m1_6, .i .i64 m1_7]]), (2, .row 104 [m2])], nx := 3, nt := 20 }
structure S77a where
  t9 : Int
  m2 : List AV
inductive T77a where
  | x0 (t9 : Int) (m2 : List AV)
noncomputable def stp77a (cs : List (List AV)) (t8 : Int) (m1_0 : Int) (m1_1 : Int) (m1_2 : Int) (m1_3 : Int) (m1_4 : Int) (m1_5 : Int) (m1_6 : Int) (m1_7 : Int) (t9 : Int) (m2 : List AV) : Lp S77a T77a :=
  cond (decide (t9 < t8)) (cond (inb t9 cs.length) (cond (inb t9 8) (cond (ctsAt (cts Try.prog 104) (0 + t9.toNat * 1) (cts Try.prog 3) && Nat.blt 0 [m2].length) (.go ⟨IntKind.i64.wrap (t9 + 1), setCs ([m2].getD 0 []) (0 + t9.toNat * 1) [AV.i IntKind.i64 (fI (cs.getD t9.toNat []) 1)]⟩) (.bad)) (.bad)) (.bad)) (.out (.x0 t9 m2))
noncomputable def o77a_0 (cs : List (List AV)) (t8 : Int) (m1_0 : Int) (m1_1 : Int) (m1_2 : Int) (m1_3 : Int) (m1_4 : Int) (m1_5 : Int) (m1_6 : Int) (m1_7 : Int) (t9 : Int) (m2 : List AV) : St :=
  { t := [(2, .p 1 0 0), (3, .p 2 0 0), (7, .rs 64 cs), (8, .i .i64 t8), (9, .i .i64 t9)], m := [(0, .dead), (1, .row 104 [[.i .i64 m1_0, .i .i64 m1_1, .i .i64 m1_2, .i .i64 m1_3, .i .i64 m1_4, .i .i64 m1_5, .i .i64 m1_6, .i .i64 m1_7]]), (2, .row 104 [m2])], nx := 3, nt := 20 }
noncomputable def ou77a (cs : List (List AV)) (t8 : Int) (m1_0 : Int) (m1_1 : Int) (m1_2 : Int) (m1_3 : Int) (m1_4 : Int) (m1_5 : Int) (m1_6 : Int) (m1_7 : Int) : T77a → Ex × St
  | .x0 t9 m2 => (.ext 0, o77a_0 cs t8 m1_0 m1_1 m1_2 m1_3 m1_4 m1_5 m1_6 m1_7 t9 m2)
noncomputable def r77a (cs : List (List AV)) (t8 : Int) (m1_0 : Int) (m1_1 : Int) (m1_2 : Int) (m1_3 : Int) (m1_4 : Int) (m1_5 : Int) (m1_6 : Int) (m1_7 : Int) (t9 : Int) (m2 : List AV) : Option T77a := run (fun x => stp77a cs t8 m1_0 m1_1 m1_2 m1_3 m1_4 m1_5 m1_6 m1_7 x.t9 x.m2) (⟨t9, m2⟩ : S77a)
noncomputable def i77a_0 (cs : List (List AV)) (t8 : Int) (m1_0 : Int) (m1_1 : Int) (m1_2 : Int) (m1_3 : Int) (m1_4 : Int) (m1_5 : Int) (m1_6 : Int) (m1_7 : Int) (t9 : Int) (m2 : List AV) : Bool := match r77a cs t8 m1_0 m1_1 m1_2 m1_3 m1_4 m1_5 m1_6 m1_7 t9 m2 with
  | some (.x0 _ _) => true
  | _ => false
noncomputable def v77a_0_t9 (cs : List (List AV)) (t8 : Int) (m1_0 : Int) (m1_1 : Int) (m1_2 : Int) (m1_3 : Int) (m1_4 : Int) (m1_5 : Int) (m1_6 : Int) (m1_7 : Int) (t9 : Int) (m2 : List AV) : Int := match r77a cs t8 m1_0 m1_1 m1_2 m1_3 m1_4 m1_5 m1_6 m1_7 t9 m2 with
  | some (.x0 t9 _) => t9
  | _ => default
noncomputable def v77a_0_m2 (cs : List (List AV)) (t8 : Int) (m1_0 : Int) (m1_1 : Int) (m1_2 : Int) (m1_3 : Int) (m1_4 : Int) (m1_5 : Int) (m1_6 : Int) (m1_7 : Int) (t9 : Int) (m2 : List AV) : List AV := match r77a cs t8 m1_0 m1_1 m1_2 m1_3 m1_4 m1_5 m1_6 m1_7 t9 m2 with
  | some (.x0 _ m2) => m2
  | _ => default
noncomputable def l77a (st : St) : Option (List (Bool × Ex × St)) := match normW Try.prog [(2, none), (3, none), (7, none), (8, none), (9, none)] 3 st with
  | some ([.p 1 0 0, .p 2 0 0, .rs 64 cs, .i .i64 t8, .i .i64 t9], [(0, .dead), (1, .row 104 [[.i .i64 m1_0, .i .i64 m1_1, .i .i64 m1_2, .i .i64 m1_3, .i .i64 m1_4, .i .i64 m1_5, .i .i64 m1_6, .i .i64 m1_7]]), (2, .row 104 [m2])], 3, 20) => some [(i77a_0 cs t8 m1_0 m1_1 m1_2 m1_3 m1_4 m1_5 m1_6 m1_7 t9 m2, .ext 0, o77a_0 cs t8 m1_0 m1_1 m1_2 m1_3 m1_4 m1_5 m1_6 m1_7 (v77a_0_t9 cs t8 m1_0 m1_1 m1_2 m1_3 m1_4 m1_5 m1_6 m1_7 t9 m2) (v77a_0_m2 cs t8 m1_0 m1_1 m1_2 m1_3 m1_4 m1_5 m1_6 m1_7 t9 m2))]
  | _ => none
noncomputable def L77 : LSpec := fun p st => match p with
  | [false, true, false, true, true] => l77a st
  | _ => none
theorem is77a_0 (cs : List (List AV)) (t8 : Int) (m1_0 : Int) (m1_1 : Int) (m1_2 : Int) (m1_3 : Int) (m1_4 : Int) (m1_5 : Int) (m1_6 : Int) (m1_7 : Int) (t9 : Int) (m2 : List AV) (h : i77a_0 cs t8 m1_0 m1_1 m1_2 m1_3 m1_4 m1_5 m1_6 m1_7 t9 m2 = true) : r77a cs t8 m1_0 m1_1 m1_2 m1_3 m1_4 m1_5 m1_6 m1_7 t9 m2 = some (.x0 (v77a_0_t9 cs t8 m1_0 m1_1 m1_2 m1_3 m1_4 m1_5 m1_6 m1_7 t9 m2) (v77a_0_m2 cs t8 m1_0 m1_1 m1_2 m1_3 m1_4 m1_5 m1_6 m1_7 t9 m2)) := by
  unfold i77a_0 at h
  unfold v77a_0_t9 v77a_0_m2
  generalize r77a cs t8 m1_0 m1_1 m1_2 m1_3 m1_4 m1_5 m1_6 m1_7 t9 m2 = r at h ⊢
  rcases r with _ | y
  · cases h
  · cases y <;> first | rfl | cases h
theorem round77a (cs : List (List AV)) (t8 : Int) (t9 : Int) (m1_0 : Int) (m1_1 : Int) (m1_2 : Int) (m1_3 : Int) (m1_4 : Int) (m1_5 : Int) (m1_6 : Int) (m1_7 : Int) (m2 : List AV) : round Try.prog S0 (ro 77) L77 lp77a [false, true, false, true, true] [(2, none), (3, none), (7, none), (8, none), (9, none)] 3 (s77a cs t8 t9 m1_0 m1_1 m1_2 m1_3 m1_4 m1_5 m1_6 m1_7 m2) =
    cond (decide (t9 < t8)) (cond (inb t9 cs.length) (cond (inb t9 8) (cond (ctsAt (cts Try.prog 104) (0 + t9.toNat * 1) (cts Try.prog 3) && Nat.blt 0 [m2].length) (some (.nrm, s77a cs t8 (IntKind.i64.wrap (t9 + 1)) m1_0 m1_1 m1_2 m1_3 m1_4 m1_5 m1_6 m1_7 (setCs ([m2].getD 0 []) (0 + t9.toNat * 1) [AV.i IntKind.i64 (fI (cs.getD t9.toNat []) 1)]))) (none)) (none)) (none)) (some (.ext 0, o77a_0 cs t8 m1_0 m1_1 m1_2 m1_3 m1_4 m1_5 m1_6 m1_7 t9 m2)) := by kernel_rfl
theorem rnd77a (cs : List (List AV)) (t8 : Int) (m1_0 : Int) (m1_1 : Int) (m1_2 : Int) (m1_3 : Int) (m1_4 : Int) (m1_5 : Int) (m1_6 : Int) (m1_7 : Int) (x : S77a) : round Try.prog S0 (ro 77) L77 lp77a [false, true, false, true, true] [(2, none), (3, none), (7, none), (8, none), (9, none)] 3 ((fun x => s77a cs t8 x.t9 m1_0 m1_1 m1_2 m1_3 m1_4 m1_5 m1_6 m1_7 x.m2) x) = toR (fun x => s77a cs t8 x.t9 m1_0 m1_1 m1_2 m1_3 m1_4 m1_5 m1_6 m1_7 x.m2) (ou77a cs t8 m1_0 m1_1 m1_2 m1_3 m1_4 m1_5 m1_6 m1_7) (stp77a cs t8 m1_0 m1_1 m1_2 m1_3 m1_4 m1_5 m1_6 m1_7 x.t9 x.m2) := by
  refine (round77a _ _ _ _ _ _ _ _ _ _ _ _ ).trans ?_
  unfold stp77a
  simp only [toR_cond]
  rfl
theorem lok77a {st : St} {outs : List (Bool × Ex × St)} {e : Ex} {s : St} (hl : l77a st = some outs) (hch : Chosen outs e s) :
    ∃ keep nb, 0 ≤ nb ∧ LB Try.prog S0 (ro 77) L77 lp77a [false, true, false, true, true] keep nb st e s := by
  unfold l77a at hl
  split at hl
  · rename_i cs t8 t9 m1_0 m1_1 m1_2 m1_3 m1_4 m1_5 m1_6 m1_7 m2 hno
    cases hl
    have hno := normW_norm hno
    refine ⟨_, _, ?_, .enter hno ?_⟩
    · decide
    have main := fun y h => LB_run (x := (⟨t9, m2⟩ : S77a)) (y := y) (nb := 3) (fun y => by cases y <;> simp [ou77a]) (rnd77a cs t8 m1_0 m1_1 m1_2 m1_3 m1_4 m1_5 m1_6 m1_7) h
    obtain ⟨x, hx, hg, rfl, rfl⟩ := chosen_any hch
    simp only [List.mem_cons, List.not_mem_nil, or_false] at hx
    subst hx
    exact main _ (is77a_0 cs t8 m1_0 m1_1 m1_2 m1_3 m1_4 m1_5 m1_6 m1_7 t9 m2 hg)
  · cases hl
theorem L77_ok (q : Pl) (c : Code) (hq : locate c77 q.reverse = some (.loop c)) (st : St) (outs : List (Bool × Ex × St)) (e : Ex) (s : St) (hl : L77 q st = some outs) (hch : Chosen outs e s) :
    ∃ keep nb, 0 ≤ nb ∧ LB Try.prog S0 (ro 77) L77 c q keep nb st e s := by
  unfold L77 at hl
  split at hl
  · have : locate c77 ([false, true, false, true, true] : Pl).reverse = some (.loop lp77a) := by kernel_rfl
    rw [this] at hq
    cases hq
    exact lok77a hl hch
  · cases hl
theorem lok77 : LOK Try.prog S0 (ro 77) L77 0 false c77 [] :=
  lok_lo L77_ok c77 [] false (locate_nil _) (by kernel_rfl)
noncomputable def t77 (da db : Int) (cs : List (List AV)) : Tr ((Int) × (Int) × (Int) × (Int) × (Int) × (Int) × (Int) × (Int)) :=
  .cn (i77a_0 cs (↑cs.length : Int) 0 0 0 0 0 0 0 0 0 [AV.i IntKind.i64 0, AV.i IntKind.i64 0, AV.i IntKind.i64 0, AV.i IntKind.i64 0, AV.i IntKind.i64 0, AV.i IntKind.i64 0, AV.i IntKind.i64 0, AV.i IntKind.i64 0]) (.lf (fI ([v77a_0_m2 cs (↑cs.length : Int) 0 0 0 0 0 0 0 0 0 [AV.i IntKind.i64 0, AV.i IntKind.i64 0, AV.i IntKind.i64 0, AV.i IntKind.i64 0, AV.i IntKind.i64 0, AV.i IntKind.i64 0, AV.i IntKind.i64 0, AV.i IntKind.i64 0]].getD 0 []) 0, fI ([v77a_0_m2 cs (↑cs.length : Int) 0 0 0 0 0 0 0 0 0 [AV.i IntKind.i64 0, AV.i IntKind.i64 0, AV.i IntKind.i64 0, AV.i IntKind.i64 0, AV.i IntKind.i64 0, AV.i IntKind.i64 0, AV.i IntKind.i64 0, AV.i IntKind.i64 0]].getD 0 []) 1, fI ([v77a_0_m2 cs (↑cs.length : Int) 0 0 0 0 0 0 0 0 0 [AV.i IntKind.i64 0, AV.i IntKind.i64 0, AV.i IntKind.i64 0, AV.i IntKind.i64 0, AV.i IntKind.i64 0, AV.i IntKind.i64 0, AV.i IntKind.i64 0, AV.i IntKind.i64 0]].getD 0 []) 2, fI ([v77a_0_m2 cs (↑cs.length : Int) 0 0 0 0 0 0 0 0 0 [AV.i IntKind.i64 0, AV.i IntKind.i64 0, AV.i IntKind.i64 0, AV.i IntKind.i64 0, AV.i IntKind.i64 0, AV.i IntKind.i64 0, AV.i IntKind.i64 0, AV.i IntKind.i64 0]].getD 0 []) 3, fI ([v77a_0_m2 cs (↑cs.length : Int) 0 0 0 0 0 0 0 0 0 [AV.i IntKind.i64 0, AV.i IntKind.i64 0, AV.i IntKind.i64 0, AV.i IntKind.i64 0, AV.i IntKind.i64 0, AV.i IntKind.i64 0, AV.i IntKind.i64 0, AV.i IntKind.i64 0]].getD 0 []) 4, fI ([v77a_0_m2 cs (↑cs.length : Int) 0 0 0 0 0 0 0 0 0 [AV.i IntKind.i64 0, AV.i IntKind.i64 0, AV.i IntKind.i64 0, AV.i IntKind.i64 0, AV.i IntKind.i64 0, AV.i IntKind.i64 0, AV.i IntKind.i64 0, AV.i IntKind.i64 0]].getD 0 []) 5, fI ([v77a_0_m2 cs (↑cs.length : Int) 0 0 0 0 0 0 0 0 0 [AV.i IntKind.i64 0, AV.i IntKind.i64 0, AV.i IntKind.i64 0, AV.i IntKind.i64 0, AV.i IntKind.i64 0, AV.i IntKind.i64 0, AV.i IntKind.i64 0, AV.i IntKind.i64 0]].getD 0 []) 6, fI ([v77a_0_m2 cs (↑cs.length : Int) 0 0 0 0 0 0 0 0 0 [AV.i IntKind.i64 0, AV.i IntKind.i64 0, AV.i IntKind.i64 0, AV.i IntKind.i64 0, AV.i IntKind.i64 0, AV.i IntKind.i64 0, AV.i IntKind.i64 0, AV.i IntKind.i64 0]].getD 0 []) 7)) (.nn)
noncomputable def g77 (da db : Int) (cs : List (List AV)) : Bool := (t77 da db cs).g
noncomputable def w77_0 (da db : Int) (cs : List (List AV)) : Int := (t77 da db cs).val.1
noncomputable def w77_1 (da db : Int) (cs : List (List AV)) : Int := (t77 da db cs).val.2.1
noncomputable def w77_2 (da db : Int) (cs : List (List AV)) : Int := (t77 da db cs).val.2.2.1
noncomputable def w77_3 (da db : Int) (cs : List (List AV)) : Int := (t77 da db cs).val.2.2.2.1
noncomputable def w77_4 (da db : Int) (cs : List (List AV)) : Int := (t77 da db cs).val.2.2.2.2.1
noncomputable def w77_5 (da db : Int) (cs : List (List AV)) : Int := (t77 da db cs).val.2.2.2.2.2.1
noncomputable def w77_6 (da db : Int) (cs : List (List AV)) : Int := (t77 da db cs).val.2.2.2.2.2.2.1
noncomputable def w77_7 (da db : Int) (cs : List (List AV)) : Int := (t77 da db cs).val.2.2.2.2.2.2.2
theorem eq77 (da db : Int) (cs : List (List AV)) : evF Try.prog S0 (ro 77) L77 Try.f77 [.agg [.i .i64 da, .i .i64 db, .rs 64 cs]] = (t77 da db cs).opt (fun (x : (Int) × (Int) × (Int) × (Int) × (Int) × (Int) × (Int) × (Int)) => (.agg [.i .i64 x.1, .i .i64 x.2.1, .i .i64 x.2.2.1, .i .i64 x.2.2.2.1, .i .i64 x.2.2.2.2.1, .i .i64 x.2.2.2.2.2.1, .i .i64 x.2.2.2.2.2.2.1, .i .i64 x.2.2.2.2.2.2.2] : AV)) := by kernel_rfl
theorem con77 (da db : Int) (cs : List (List AV)) (h : g77 da db cs = true) : Con Try.prog 77 [.agg [.i .i64 da, .i .i64 db, .rs 64 cs]] [] (.agg [.i .i64 (w77_0 da db cs), .i .i64 (w77_1 da db cs), .i .i64 (w77_2 da db cs), .i .i64 (w77_3 da db cs), .i .i64 (w77_4 da db cs), .i .i64 (w77_5 da db cs), .i .i64 (w77_6 da db cs), .i .i64 (w77_7 da db cs)]) [] :=
  con_of S0_ok mixed Try.func77 (c := c77) rfl (names 77 _ Try.func77) lok77 ((eq77 da db cs).trans (Tr.sound _ _ h))
noncomputable def e77 (args : List AV) (rows : List Blk) : Option (Bool × AV × List Blk) := match args, rows with
  | [.agg [.i .i64 da, .i .i64 db, .rs 64 cs]], [] => some (g77 da db cs, .agg [.i .i64 (w77_0 da db cs), .i .i64 (w77_1 da db cs), .i .i64 (w77_2 da db cs), .i .i64 (w77_3 da db cs), .i .i64 (w77_4 da db cs), .i .i64 (w77_5 da db cs), .i .i64 (w77_6 da db cs), .i .i64 (w77_7 da db cs)], [])
  | _, _ => none
theorem e77_ok (args : List AV) (rows : List Blk) (pre : Bool) (v : AV) (rows' : List Blk) (h : e77 args rows = some (pre, v, rows')) (hp : pre = true) : Con Try.prog 77 args rows v rows' := by
  unfold e77 at h
  split at h
  · cases h; exact con77 _ _ _ hp
  · cases h
-- SPEC 77
end Go.Proofs.Ytgifjphinkbcaaa

set_option maxRecDepth 100000
set_option linter.unusedVariables false
namespace Go.Proofs.Ytgifjphinkbcaaa
open Go Go.Ev

/-! ### CheckRods$1 -/
noncomputable def c60 : Code := match Try.f60.body with | some c => c | _ => .skip
theorem lok60 : LOK Try.prog S0 (ro 60) (fun _ _ => none) 0 false c60 [] :=
  lok_lo (fun _ _ _ _ _ _ _ h _ => by cases h) c60 [] false (locate_nil _) (by kernel_rfl)
noncomputable def t60 (da db : Int) (cs : List (List AV)) (x y : Int) : Tr ((Bool)) :=
  .lf (decide (x > da))
noncomputable def g60 (da db : Int) (cs : List (List AV)) (x y : Int) : Bool := (t60 da db cs x y).g
noncomputable def w60_0 (da db : Int) (cs : List (List AV)) (x y : Int) : Bool := (t60 da db cs x y).val
theorem eq60 (da db : Int) (cs : List (List AV)) (x y : Int) : evF Try.prog S0 (ro 60) (fun _ _ => none) Try.f60 [.agg [.i .i64 x, .i .i64 y], .rp [.int .i64, .int .i64, .sl 64] [.i .i64 da, .i .i64 db, .rs 64 cs] 0] = (t60 da db cs x y).opt (fun (x : (Bool)) => (.b x : AV)) := by kernel_rfl
theorem con60 (da db : Int) (cs : List (List AV)) (x y : Int) (h : g60 da db cs x y = true) : Con Try.prog 60 [.agg [.i .i64 x, .i .i64 y], .rp [.int .i64, .int .i64, .sl 64] [.i .i64 da, .i .i64 db, .rs 64 cs] 0] [] (.b (w60_0 da db cs x y)) [] :=
  con_of S0_ok mixed Try.func60 (c := c60) rfl (names 60 _ Try.func60) lok60 ((eq60 da db cs x y).trans (Tr.sound _ _ h))
noncomputable def e60 (args : List AV) (rows : List Blk) : Option (Bool × AV × List Blk) := match args, rows with
  | [.agg [.i .i64 x, .i .i64 y], .rp [.int .i64, .int .i64, .sl 64] [.i .i64 da, .i .i64 db, .rs 64 cs] 0], [] => some (g60 da db cs x y, .b (w60_0 da db cs x y), [])
  | _, _ => none
theorem e60_ok (args : List AV) (rows : List Blk) (pre : Bool) (v : AV) (rows' : List Blk) (h : e60 args rows = some (pre, v, rows')) (hp : pre = true) : Con Try.prog 60 args rows v rows' := by
  unfold e60 at h
  split at h
  · cases h; exact con60 _ _ _ _ _ hp
  · cases h
-- SPEC 60
end Go.Proofs.Ytgifjphinkbcaaa

set_option maxRecDepth 100000
set_option linter.unusedVariables false
namespace Go.Proofs.Ytgifjphinkbcaaa
open Go Go.Ev
noncomputable def Sa : Ev.Spec := insS 60 e60 (insS 77 e77 (insS 75 e75 (insS 51 e51 (insS 71 e71 (insS 31 e31 (insS 28 e28 (insS 85 e85 (insS 52 e52 (insS 63 e63 (insS 62 e62 (insS 49 e49 (insS 48 e48 (insS 86 e86 (insS 57 e57 (insS 55 e55 (insS 18 e18 (S0)))))))))))))))))
theorem Sa_ok : SpecOK Try.prog Sa := insS_ok e60_ok (insS_ok e77_ok (insS_ok e75_ok (insS_ok e51_ok (insS_ok e71_ok (insS_ok e31_ok (insS_ok e28_ok (insS_ok e85_ok (insS_ok e52_ok (insS_ok e63_ok (insS_ok e62_ok (insS_ok e49_ok (insS_ok e48_ok (insS_ok e86_ok (insS_ok e57_ok (insS_ok e55_ok (insS_ok e18_ok (S0_ok)))))))))))))))))
end Go.Proofs.Ytgifjphinkbcaaa

set_option maxRecDepth 100000
set_option linter.unusedVariables false
namespace Go.Proofs.Ytgifjphinkbcaaa
open Go Go.Ev

/-! ### count -/
noncomputable def c81 : Code := match Try.f81.body with | some c => c | _ => .skip
noncomputable def lp81a : Code := loopAt c81 [true, true, true, false, true, false]
noncomputable def s81a (ra : Int) (rb : Int) (rc : Int) (ps : List (List AV)) (t3 : Nat) (t4 : Int) (m5 : List (List AV)) : St :=
  { t := [(1, .rp [.int .i64, .int .i64, .int .i64, .sl 31] [.i .i64 ra, .i .i64 rb, .i .i64 rc, .rs 31 ps] 0), (2, .nl), (3, .sl 5 0 t3), (4, .i .i64 t4)], m := [(0, .dead), (1, .dead), (2, .dead), (3, .dead), (4, .dead), (5, .row 91 m5)], nx := 6, nt := 66 }
noncomputable def lp81aa : Code := loopAt c81 [true, true, true, false, true, false, false, true, false, false, true, false]
noncomputable def s81aa (ra : Int) (rb : Int) (rc : Int) (ps : List (List AV)) (t3 : Nat) (t4 : Int) (t25 : List (List AV)) (t26 : Int) (t27 : Int) (m5 : List (List AV)) : St :=
  { t := [(1, .rp [.int .i64, .int .i64, .int .i64, .sl 31] [.i .i64 ra, .i .i64 rb, .i .i64 rc, .rs 31 ps] 0), (2, .nl), (3, .sl 5 0 t3), (4, .i .i64 t4), (25, .rs 31 t25), (26, .i .i64 t26), (27, .i .i64 t27)], m := [(0, .dead), (1, .dead), (2, .dead), (3, .dead), (4, .dead), (5, .row 91 m5)], nx := 6, nt := 66 }
structure S81aa where
  t27 : Int
  m5 : List (List AV)
inductive T81aa where
  | x0 (t27 : Int) (m5 : List (List AV))
noncomputable def stp81aa (ra : Int) (rb : Int) (rc : Int) (ps : List (List AV)) (t3 : Nat) (t4 : Int) (t25 : List (List AV)) (t26 : Int) (t27 : Int) (m5 : List (List AV)) : Lp S81aa T81aa :=
  cond (decide (t27 < t26)) (cond (inb t27 t25.length) (cond (g71 t4 (fI (t25.getD t27.toNat []) 2) (fS (t25.getD t27.toNat []) 0) (fI (t25.getD t27.toNat []) 1) (fI (t25.getD t27.toNat []) 2) (fI (t25.getD t27.toNat []) 3) (fI (t25.getD t27.toNat []) 4)) (cond (w71_2 t4 (fI (t25.getD t27.toNat []) 2) (fS (t25.getD t27.toNat []) 0) (fI (t25.getD t27.toNat []) 1) (fI (t25.getD t27.toNat []) 2) (fI (t25.getD t27.toNat []) 3) (fI (t25.getD t27.toNat []) 4)) (cond (inb t4 t3 && (0 + t4.toNat).blt m5.length) (cond (inb (fI (t25.getD t27.toNat []) 2) 10) (cond (ctsAt (cts Try.prog 91) (0 + (fI (t25.getD t27.toNat []) 2).toNat * 1) (cts Try.prog 3) && (0 + t4.toNat).blt m5.length) (cond (inb (w71_0 t4 (fI (t25.getD t27.toNat []) 2) (fS (t25.getD t27.toNat []) 0) (fI (t25.getD t27.toNat []) 1) (fI (t25.getD t27.toNat []) 2) (fI (t25.getD t27.toNat []) 3) (fI (t25.getD t27.toNat []) 4)) t3 && (0 + (w71_0 t4 (fI (t25.getD t27.toNat []) 2) (fS (t25.getD t27.toNat []) 0) (fI (t25.getD t27.toNat []) 1) (fI (t25.getD t27.toNat []) 2) (fI (t25.getD t27.toNat []) 3) (fI (t25.getD t27.toNat []) 4)).toNat).blt m5.length) (cond (inb (w71_1 t4 (fI (t25.getD t27.toNat []) 2) (fS (t25.getD t27.toNat []) 0) (fI (t25.getD t27.toNat []) 1) (fI (t25.getD t27.toNat []) 2) (fI (t25.getD t27.toNat []) 3) (fI (t25.getD t27.toNat []) 4)) 10) (cond (ctsAt (cts Try.prog 91) (0 + (w71_1 t4 (fI (t25.getD t27.toNat []) 2) (fS (t25.getD t27.toNat []) 0) (fI (t25.getD t27.toNat []) 1) (fI (t25.getD t27.toNat []) 2) (fI (t25.getD t27.toNat []) 3) (fI (t25.getD t27.toNat []) 4)).toNat * 1) (cts Try.prog 3) && (0 + (w71_0 t4 (fI (t25.getD t27.toNat []) 2) (fS (t25.getD t27.toNat []) 0) (fI (t25.getD t27.toNat []) 1) (fI (t25.getD t27.toNat []) 2) (fI (t25.getD t27.toNat []) 3) (fI (t25.getD t27.toNat []) 4)).toNat).blt m5.length) (cond (inb t4 t3 && (0 + t4.toNat).blt m5.length) (cond (inb (fI (t25.getD t27.toNat []) 2) 10) (cond (ctsAt (cts Try.prog 91) (0 + (fI (t25.getD t27.toNat []) 2).toNat * 1) (cts Try.prog 3) && (0 + t4.toNat).blt m5.length) (.go ⟨IntKind.i64.wrap (t27 + 1), m5.set (0 + t4.toNat) (setCs (m5.getD (0 + t4.toNat) []) (0 + (fI (t25.getD t27.toNat []) 2).toNat * 1) [AV.i IntKind.i64 (bmin (IntKind.i64.wrap (toI ((m5.getD (0 + t4.toNat) []).getD (0 + (fI (t25.getD t27.toNat []) 2).toNat * 1) AV.u) + toI ((m5.getD (0 + (w71_0 t4 (fI (t25.getD t27.toNat []) 2) (fS (t25.getD t27.toNat []) 0) (fI (t25.getD t27.toNat []) 1) (fI (t25.getD t27.toNat []) 2) (fI (t25.getD t27.toNat []) 3) (fI (t25.getD t27.toNat []) 4)).toNat) []).getD (0 + (w71_1 t4 (fI (t25.getD t27.toNat []) 2) (fS (t25.getD t27.toNat []) 0) (fI (t25.getD t27.toNat []) 1) (fI (t25.getD t27.toNat []) 2) (fI (t25.getD t27.toNat []) 3) (fI (t25.getD t27.toNat []) 4)).toNat * 1) AV.u))) 1000000000000001)])⟩) (.bad)) (.bad)) (.bad)) (.bad)) (.bad)) (.bad)) (.bad)) (.bad)) (.bad)) (.go ⟨IntKind.i64.wrap (t27 + 1), m5⟩)) (.bad)) (.bad)) (.out (.x0 t27 m5))
noncomputable def o81aa_0 (ra : Int) (rb : Int) (rc : Int) (ps : List (List AV)) (t3 : Nat) (t4 : Int) (t25 : List (List AV)) (t26 : Int) (t27 : Int) (m5 : List (List AV)) : St :=
  { t := [(1, .rp [.int .i64, .int .i64, .int .i64, .sl 31] [.i .i64 ra, .i .i64 rb, .i .i64 rc, .rs 31 ps] 0), (2, .nl), (3, .sl 5 0 t3), (4, .i .i64 t4), (25, .rs 31 t25), (26, .i .i64 t26), (27, .i .i64 t27)], m := [(0, .dead), (1, .dead), (2, .dead), (3, .dead), (4, .dead), (5, .row 91 m5)], nx := 6, nt := 66 }
noncomputable def ou81aa (ra : Int) (rb : Int) (rc : Int) (ps : List (List AV)) (t3 : Nat) (t4 : Int) (t25 : List (List AV)) (t26 : Int) : T81aa → Ex × St
  | .x0 t27 m5 => (.ext 2, o81aa_0 ra rb rc ps t3 t4 t25 t26 t27 m5)
noncomputable def r81aa (ra : Int) (rb : Int) (rc : Int) (ps : List (List AV)) (t3 : Nat) (t4 : Int) (t25 : List (List AV)) (t26 : Int) (t27 : Int) (m5 : List (List AV)) : Option T81aa := run (fun x => stp81aa ra rb rc ps t3 t4 t25 t26 x.t27 x.m5) (⟨t27, m5⟩ : S81aa)
noncomputable def i81aa_0 (ra : Int) (rb : Int) (rc : Int) (ps : List (List AV)) (t3 : Nat) (t4 : Int) (t25 : List (List AV)) (t26 : Int) (t27 : Int) (m5 : List (List AV)) : Bool := match r81aa ra rb rc ps t3 t4 t25 t26 t27 m5 with
  | some (.x0 _ _) => true
  | _ => false
noncomputable def v81aa_0_t27 (ra : Int) (rb : Int) (rc : Int) (ps : List (List AV)) (t3 : Nat) (t4 : Int) (t25 : List (List AV)) (t26 : Int) (t27 : Int) (m5 : List (List AV)) : Int := match r81aa ra rb rc ps t3 t4 t25 t26 t27 m5 with
  | some (.x0 t27 _) => t27
  | _ => default
noncomputable def v81aa_0_m5 (ra : Int) (rb : Int) (rc : Int) (ps : List (List AV)) (t3 : Nat) (t4 : Int) (t25 : List (List AV)) (t26 : Int) (t27 : Int) (m5 : List (List AV)) : List (List AV) := match r81aa ra rb rc ps t3 t4 t25 t26 t27 m5 with
  | some (.x0 _ m5) => m5
  | _ => default
noncomputable def l81aa (st : St) : Option (List (Bool × Ex × St)) := match normW Try.prog [(1, none), (2, none), (3, none), (4, none), (25, none), (26, none), (27, none)] 6 st with
  | some ([.rp [.int .i64, .int .i64, .int .i64, .sl 31] [.i .i64 ra, .i .i64 rb, .i .i64 rc, .rs 31 ps] 0, .nl, .sl 5 0 t3, .i .i64 t4, .rs 31 t25, .i .i64 t26, .i .i64 t27], [(0, .dead), (1, .dead), (2, .dead), (3, .dead), (4, .dead), (5, .row 91 m5)], 6, 66) => some [(i81aa_0 ra rb rc ps t3 t4 t25 t26 t27 m5, .ext 2, o81aa_0 ra rb rc ps t3 t4 t25 t26 (v81aa_0_t27 ra rb rc ps t3 t4 t25 t26 t27 m5) (v81aa_0_m5 ra rb rc ps t3 t4 t25 t26 t27 m5))]
  | _ => none
structure S81a where
  t4 : Int
  m5 : List (List AV)
inductive T81a where
  | x0 (t4 : Int) (m5 : List (List AV))
noncomputable def stp81a (ra : Int) (rb : Int) (rc : Int) (ps : List (List AV)) (t3 : Nat) (t4 : Int) (m5 : List (List AV)) : Lp S81a T81a :=
  cond (decide (t4 ≤ ra)) (cond (i81aa_0 ra rb rc ps t3 t4 ps (↑ps.length : Int) 0 m5) (.go ⟨IntKind.i64.wrap (t4 + 1), v81aa_0_m5 ra rb rc ps t3 t4 ps (↑ps.length : Int) 0 m5⟩) (.bad)) (.out (.x0 t4 m5))
noncomputable def o81a_0 (ra : Int) (rb : Int) (rc : Int) (ps : List (List AV)) (t3 : Nat) (t4 : Int) (m5 : List (List AV)) : St :=
  { t := [(1, .rp [.int .i64, .int .i64, .int .i64, .sl 31] [.i .i64 ra, .i .i64 rb, .i .i64 rc, .rs 31 ps] 0), (2, .nl), (3, .sl 5 0 t3), (4, .i .i64 t4)], m := [(0, .dead), (1, .dead), (2, .dead), (3, .dead), (4, .dead), (5, .row 91 m5)], nx := 6, nt := 66 }
noncomputable def ou81a (ra : Int) (rb : Int) (rc : Int) (ps : List (List AV)) (t3 : Nat) : T81a → Ex × St
  | .x0 t4 m5 => (.ext 0, o81a_0 ra rb rc ps t3 t4 m5)
noncomputable def r81a (ra : Int) (rb : Int) (rc : Int) (ps : List (List AV)) (t3 : Nat) (t4 : Int) (m5 : List (List AV)) : Option T81a := run (fun x => stp81a ra rb rc ps t3 x.t4 x.m5) (⟨t4, m5⟩ : S81a)
noncomputable def i81a_0 (ra : Int) (rb : Int) (rc : Int) (ps : List (List AV)) (t3 : Nat) (t4 : Int) (m5 : List (List AV)) : Bool := match r81a ra rb rc ps t3 t4 m5 with
  | some (.x0 _ _) => true
  | _ => false
noncomputable def v81a_0_t4 (ra : Int) (rb : Int) (rc : Int) (ps : List (List AV)) (t3 : Nat) (t4 : Int) (m5 : List (List AV)) : Int := match r81a ra rb rc ps t3 t4 m5 with
  | some (.x0 t4 _) => t4
  | _ => default
noncomputable def v81a_0_m5 (ra : Int) (rb : Int) (rc : Int) (ps : List (List AV)) (t3 : Nat) (t4 : Int) (m5 : List (List AV)) : List (List AV) := match r81a ra rb rc ps t3 t4 m5 with
  | some (.x0 _ m5) => m5
  | _ => default
noncomputable def l81a (st : St) : Option (List (Bool × Ex × St)) := match normW Try.prog [(1, none), (2, none), (3, none), (4, none)] 6 st with
  | some ([.rp [.int .i64, .int .i64, .int .i64, .sl 31] [.i .i64 ra, .i .i64 rb, .i .i64 rc, .rs 31 ps] 0, .nl, .sl 5 0 t3, .i .i64 t4], [(0, .dead), (1, .dead), (2, .dead), (3, .dead), (4, .dead), (5, .row 91 m5)], 6, 66) => some [(i81a_0 ra rb rc ps t3 t4 m5, .ext 0, o81a_0 ra rb rc ps t3 (v81a_0_t4 ra rb rc ps t3 t4 m5) (v81a_0_m5 ra rb rc ps t3 t4 m5))]
  | _ => none
noncomputable def L81 : LSpec := fun p st => match p with
  | [false, true, false, false, true, false, false, true, false, true, true, true] => l81aa st
  | [false, true, false, true, true, true] => l81a st
  | _ => none
theorem is81aa_0 (ra : Int) (rb : Int) (rc : Int) (ps : List (List AV)) (t3 : Nat) (t4 : Int) (t25 : List (List AV)) (t26 : Int) (t27 : Int) (m5 : List (List AV)) (h : i81aa_0 ra rb rc ps t3 t4 t25 t26 t27 m5 = true) : r81aa ra rb rc ps t3 t4 t25 t26 t27 m5 = some (.x0 (v81aa_0_t27 ra rb rc ps t3 t4 t25 t26 t27 m5) (v81aa_0_m5 ra rb rc ps t3 t4 t25 t26 t27 m5)) := by
  unfold i81aa_0 at h
  unfold v81aa_0_t27 v81aa_0_m5
  generalize r81aa ra rb rc ps t3 t4 t25 t26 t27 m5 = r at h ⊢
  rcases r with _ | y
  · cases h
  · cases y <;> first | rfl | cases h
theorem round81aa (ra : Int) (rb : Int) (rc : Int) (ps : List (List AV)) (t3 : Nat) (t4 : Int) (t25 : List (List AV)) (t26 : Int) (t27 : Int) (m5 : List (List AV)) : round Try.prog Sa (ro 81) L81 lp81aa [false, true, false, false, true, false, false, true, false, true, true, true] [(1, none), (2, none), (3, none), (4, none), (25, none), (26, none), (27, none)] 6 (s81aa ra rb rc ps t3 t4 t25 t26 t27 m5) =
    cond (decide (t27 < t26)) (cond (inb t27 t25.length) (cond (g71 t4 (fI (t25.getD t27.toNat []) 2) (fS (t25.getD t27.toNat []) 0) (fI (t25.getD t27.toNat []) 1) (fI (t25.getD t27.toNat []) 2) (fI (t25.getD t27.toNat []) 3) (fI (t25.getD t27.toNat []) 4)) (cond (w71_2 t4 (fI (t25.getD t27.toNat []) 2) (fS (t25.getD t27.toNat []) 0) (fI (t25.getD t27.toNat []) 1) (fI (t25.getD t27.toNat []) 2) (fI (t25.getD t27.toNat []) 3) (fI (t25.getD t27.toNat []) 4)) (cond (inb t4 t3 && (0 + t4.toNat).blt m5.length) (cond (inb (fI (t25.getD t27.toNat []) 2) 10) (cond (ctsAt (cts Try.prog 91) (0 + (fI (t25.getD t27.toNat []) 2).toNat * 1) (cts Try.prog 3) && (0 + t4.toNat).blt m5.length) (cond (inb (w71_0 t4 (fI (t25.getD t27.toNat []) 2) (fS (t25.getD t27.toNat []) 0) (fI (t25.getD t27.toNat []) 1) (fI (t25.getD t27.toNat []) 2) (fI (t25.getD t27.toNat []) 3) (fI (t25.getD t27.toNat []) 4)) t3 && (0 + (w71_0 t4 (fI (t25.getD t27.toNat []) 2) (fS (t25.getD t27.toNat []) 0) (fI (t25.getD t27.toNat []) 1) (fI (t25.getD t27.toNat []) 2) (fI (t25.getD t27.toNat []) 3) (fI (t25.getD t27.toNat []) 4)).toNat).blt m5.length) (cond (inb (w71_1 t4 (fI (t25.getD t27.toNat []) 2) (fS (t25.getD t27.toNat []) 0) (fI (t25.getD t27.toNat []) 1) (fI (t25.getD t27.toNat []) 2) (fI (t25.getD t27.toNat []) 3) (fI (t25.getD t27.toNat []) 4)) 10) (cond (ctsAt (cts Try.prog 91) (0 + (w71_1 t4 (fI (t25.getD t27.toNat []) 2) (fS (t25.getD t27.toNat []) 0) (fI (t25.getD t27.toNat []) 1) (fI (t25.getD t27.toNat []) 2) (fI (t25.getD t27.toNat []) 3) (fI (t25.getD t27.toNat []) 4)).toNat * 1) (cts Try.prog 3) && (0 + (w71_0 t4 (fI (t25.getD t27.toNat []) 2) (fS (t25.getD t27.toNat []) 0) (fI (t25.getD t27.toNat []) 1) (fI (t25.getD t27.toNat []) 2) (fI (t25.getD t27.toNat []) 3) (fI (t25.getD t27.toNat []) 4)).toNat).blt m5.length) (cond (inb t4 t3 && (0 + t4.toNat).blt m5.length) (cond (inb (fI (t25.getD t27.toNat []) 2) 10) (cond (ctsAt (cts Try.prog 91) (0 + (fI (t25.getD t27.toNat []) 2).toNat * 1) (cts Try.prog 3) && (0 + t4.toNat).blt m5.length) (some (.nrm, s81aa ra rb rc ps t3 t4 t25 t26 (IntKind.i64.wrap (t27 + 1)) (m5.set (0 + t4.toNat) (setCs (m5.getD (0 + t4.toNat) []) (0 + (fI (t25.getD t27.toNat []) 2).toNat * 1) [AV.i IntKind.i64 (bmin (IntKind.i64.wrap (toI ((m5.getD (0 + t4.toNat) []).getD (0 + (fI (t25.getD t27.toNat []) 2).toNat * 1) AV.u) + toI ((m5.getD (0 + (w71_0 t4 (fI (t25.getD t27.toNat []) 2) (fS (t25.getD t27.toNat []) 0) (fI (t25.getD t27.toNat []) 1) (fI (t25.getD t27.toNat []) 2) (fI (t25.getD t27.toNat []) 3) (fI (t25.getD t27.toNat []) 4)).toNat) []).getD (0 + (w71_1 t4 (fI (t25.getD t27.toNat []) 2) (fS (t25.getD t27.toNat []) 0) (fI (t25.getD t27.toNat []) 1) (fI (t25.getD t27.toNat []) 2) (fI (t25.getD t27.toNat []) 3) (fI (t25.getD t27.toNat []) 4)).toNat * 1) AV.u))) 1000000000000001)])))) (none)) (none)) (none)) (none)) (none)) (none)) (none)) (none)) (none)) (some (.nrm, s81aa ra rb rc ps t3 t4 t25 t26 (IntKind.i64.wrap (t27 + 1)) m5))) (none)) (none)) (some (.ext 2, o81aa_0 ra rb rc ps t3 t4 t25 t26 t27 m5)) := by kernel_rfl
theorem rnd81aa (ra : Int) (rb : Int) (rc : Int) (ps : List (List AV)) (t3 : Nat) (t4 : Int) (t25 : List (List AV)) (t26 : Int) (x : S81aa) : round Try.prog Sa (ro 81) L81 lp81aa [false, true, false, false, true, false, false, true, false, true, true, true] [(1, none), (2, none), (3, none), (4, none), (25, none), (26, none), (27, none)] 6 ((fun x => s81aa ra rb rc ps t3 t4 t25 t26 x.t27 x.m5) x) = toR (fun x => s81aa ra rb rc ps t3 t4 t25 t26 x.t27 x.m5) (ou81aa ra rb rc ps t3 t4 t25 t26) (stp81aa ra rb rc ps t3 t4 t25 t26 x.t27 x.m5) := by
  refine (round81aa _ _ _ _ _ _ _ _ _ _ ).trans ?_
  unfold stp81aa
  simp only [toR_cond]
  rfl
theorem lok81aa {st : St} {outs : List (Bool × Ex × St)} {e : Ex} {s : St} (hl : l81aa st = some outs) (hch : Chosen outs e s) :
    ∃ keep nb, 0 ≤ nb ∧ LB Try.prog Sa (ro 81) L81 lp81aa [false, true, false, false, true, false, false, true, false, true, true, true] keep nb st e s := by
  unfold l81aa at hl
  split at hl
  · rename_i ra rb rc ps t3 t4 t25 t26 t27 m5 hno
    cases hl
    have hno := normW_norm hno
    refine ⟨_, _, ?_, .enter hno ?_⟩
    · decide
    have main := fun y h => LB_run (x := (⟨t27, m5⟩ : S81aa)) (y := y) (nb := 6) (fun y => by cases y <;> simp [ou81aa]) (rnd81aa ra rb rc ps t3 t4 t25 t26) h
    obtain ⟨x, hx, hg, rfl, rfl⟩ := chosen_any hch
    simp only [List.mem_cons, List.not_mem_nil, or_false] at hx
    subst hx
    exact main _ (is81aa_0 ra rb rc ps t3 t4 t25 t26 t27 m5 hg)
  · cases hl
theorem is81a_0 (ra : Int) (rb : Int) (rc : Int) (ps : List (List AV)) (t3 : Nat) (t4 : Int) (m5 : List (List AV)) (h : i81a_0 ra rb rc ps t3 t4 m5 = true) : r81a ra rb rc ps t3 t4 m5 = some (.x0 (v81a_0_t4 ra rb rc ps t3 t4 m5) (v81a_0_m5 ra rb rc ps t3 t4 m5)) := by
  unfold i81a_0 at h
  unfold v81a_0_t4 v81a_0_m5
  generalize r81a ra rb rc ps t3 t4 m5 = r at h ⊢
  rcases r with _ | y
  · cases h
  · cases y <;> first | rfl | cases h
theorem round81a (ra : Int) (rb : Int) (rc : Int) (ps : List (List AV)) (t3 : Nat) (t4 : Int) (m5 : List (List AV)) : round Try.prog Sa (ro 81) L81 lp81a [false, true, false, true, true, true] [(1, none), (2, none), (3, none), (4, none)] 6 (s81a ra rb rc ps t3 t4 m5) =
    cond (decide (t4 ≤ ra)) (cond (i81aa_0 ra rb rc ps t3 t4 ps (↑ps.length : Int) 0 m5) (some (.nrm, s81a ra rb rc ps t3 (IntKind.i64.wrap (t4 + 1)) (v81aa_0_m5 ra rb rc ps t3 t4 ps (↑ps.length : Int) 0 m5))) (none)) (some (.ext 0, o81a_0 ra rb rc ps t3 t4 m5)) := by kernel_rfl
theorem rnd81a (ra : Int) (rb : Int) (rc : Int) (ps : List (List AV)) (t3 : Nat) (x : S81a) : round Try.prog Sa (ro 81) L81 lp81a [false, true, false, true, true, true] [(1, none), (2, none), (3, none), (4, none)] 6 ((fun x => s81a ra rb rc ps t3 x.t4 x.m5) x) = toR (fun x => s81a ra rb rc ps t3 x.t4 x.m5) (ou81a ra rb rc ps t3) (stp81a ra rb rc ps t3 x.t4 x.m5) := by
  refine (round81a _ _ _ _ _ _ _ ).trans ?_
  unfold stp81a
  simp only [toR_cond]
  rfl
theorem lok81a {st : St} {outs : List (Bool × Ex × St)} {e : Ex} {s : St} (hl : l81a st = some outs) (hch : Chosen outs e s) :
    ∃ keep nb, 0 ≤ nb ∧ LB Try.prog Sa (ro 81) L81 lp81a [false, true, false, true, true, true] keep nb st e s := by
  unfold l81a at hl
  split at hl
  · rename_i ra rb rc ps t3 t4 m5 hno
    cases hl
    have hno := normW_norm hno
    refine ⟨_, _, ?_, .enter hno ?_⟩
    · decide
    have main := fun y h => LB_run (x := (⟨t4, m5⟩ : S81a)) (y := y) (nb := 6) (fun y => by cases y <;> simp [ou81a]) (rnd81a ra rb rc ps t3) h
    obtain ⟨x, hx, hg, rfl, rfl⟩ := chosen_any hch
    simp only [List.mem_cons, List.not_mem_nil, or_false] at hx
    subst hx
    exact main _ (is81a_0 ra rb rc ps t3 t4 m5 hg)
  · cases hl
theorem L81_ok (q : Pl) (c : Code) (hq : locate c81 q.reverse = some (.loop c)) (st : St) (outs : List (Bool × Ex × St)) (e : Ex) (s : St) (hl : L81 q st = some outs) (hch : Chosen outs e s) :
    ∃ keep nb, 0 ≤ nb ∧ LB Try.prog Sa (ro 81) L81 c q keep nb st e s := by
  unfold L81 at hl
  split at hl
  · have : locate c81 ([false, true, false, false, true, false, false, true, false, true, true, true] : Pl).reverse = some (.loop lp81aa) := by kernel_rfl
    rw [this] at hq
    cases hq
    exact lok81aa hl hch
  · have : locate c81 ([false, true, false, true, true, true] : Pl).reverse = some (.loop lp81a) := by kernel_rfl
    rw [this] at hq
    cases hq
    exact lok81a hl hch
  · cases hl
theorem lok81 : LOK Try.prog Sa (ro 81) L81 0 false c81 [] :=
  lok_lo L81_ok c81 [] false (locate_nil _) (by kernel_rfl)
noncomputable def t81 (ra rb rc : Int) (ps : List (List AV)) : Tr ((List (List AV))) :=
  .cn (decide (IntKind.i64.wrap (ra + 1) = IntKind.i64.wrap (ra + 1)) && (decide (0 ≤ IntKind.i64.wrap (ra + 1)) && decide (IntKind.i64.wrap (ra + 1) * (↑80 : Int) ≤ 140737488355328) && decide (IntKind.i64.wrap (ra + 1) ≤ 9223372036854775807))) (.cn (inb 0 (IntKind.i64.wrap (ra + 1)).toNat && Nat.blt 0 (List.replicate (IntKind.i64.wrap (ra + 1)).toNat [AV.i IntKind.i64 0, AV.i IntKind.i64 0, AV.i IntKind.i64 0, AV.i IntKind.i64 0, AV.i IntKind.i64 0, AV.i IntKind.i64 0, AV.i IntKind.i64 0, AV.i IntKind.i64 0, AV.i IntKind.i64 0, AV.i IntKind.i64 0]).length) (.cn (inb rc 10) (.cn (ctsAt (cts Try.prog 91) (0 + rc.toNat * 1) (cts Try.prog 3) && Nat.blt 0 (List.replicate (IntKind.i64.wrap (ra + 1)).toNat [AV.i IntKind.i64 0, AV.i IntKind.i64 0, AV.i IntKind.i64 0, AV.i IntKind.i64 0, AV.i IntKind.i64 0, AV.i IntKind.i64 0, AV.i IntKind.i64 0, AV.i IntKind.i64 0, AV.i IntKind.i64 0, AV.i IntKind.i64 0]).length) (.cn (i81a_0 ra rb rc ps (IntKind.i64.wrap (ra + 1)).toNat 1 ((List.replicate (IntKind.i64.wrap (ra + 1)).toNat [AV.i IntKind.i64 0, AV.i IntKind.i64 0, AV.i IntKind.i64 0, AV.i IntKind.i64 0, AV.i IntKind.i64 0, AV.i IntKind.i64 0, AV.i IntKind.i64 0, AV.i IntKind.i64 0, AV.i IntKind.i64 0, AV.i IntKind.i64 0]).set 0 (setCs ((List.replicate (IntKind.i64.wrap (ra + 1)).toNat [AV.i IntKind.i64 0, AV.i IntKind.i64 0, AV.i IntKind.i64 0, AV.i IntKind.i64 0, AV.i IntKind.i64 0, AV.i IntKind.i64 0, AV.i IntKind.i64 0, AV.i IntKind.i64 0, AV.i IntKind.i64 0, AV.i IntKind.i64 0]).getD 0 []) (0 + rc.toNat * 1) [AV.i IntKind.i64 1]))) (.cn ((0 + (IntKind.i64.wrap (ra + 1)).toNat).ble (v81a_0_m5 ra rb rc ps (IntKind.i64.wrap (ra + 1)).toNat 1 ((List.replicate (IntKind.i64.wrap (ra + 1)).toNat [AV.i IntKind.i64 0, AV.i IntKind.i64 0, AV.i IntKind.i64 0, AV.i IntKind.i64 0, AV.i IntKind.i64 0, AV.i IntKind.i64 0, AV.i IntKind.i64 0, AV.i IntKind.i64 0, AV.i IntKind.i64 0, AV.i IntKind.i64 0]).set 0 (setCs ((List.replicate (IntKind.i64.wrap (ra + 1)).toNat [AV.i IntKind.i64 0, AV.i IntKind.i64 0, AV.i IntKind.i64 0, AV.i IntKind.i64 0, AV.i IntKind.i64 0, AV.i IntKind.i64 0, AV.i IntKind.i64 0, AV.i IntKind.i64 0, AV.i IntKind.i64 0, AV.i IntKind.i64 0]).getD 0 []) (0 + rc.toNat * 1) [AV.i IntKind.i64 1]))).length) (.lf (bif (IntKind.i64.wrap (ra + 1)).toNat.beq (v81a_0_m5 ra rb rc ps (IntKind.i64.wrap (ra + 1)).toNat 1 ((List.replicate (IntKind.i64.wrap (ra + 1)).toNat [AV.i IntKind.i64 0, AV.i IntKind.i64 0, AV.i IntKind.i64 0, AV.i IntKind.i64 0, AV.i IntKind.i64 0, AV.i IntKind.i64 0, AV.i IntKind.i64 0, AV.i IntKind.i64 0, AV.i IntKind.i64 0, AV.i IntKind.i64 0]).set 0 (setCs ((List.replicate (IntKind.i64.wrap (ra + 1)).toNat [AV.i IntKind.i64 0, AV.i IntKind.i64 0, AV.i IntKind.i64 0, AV.i IntKind.i64 0, AV.i IntKind.i64 0, AV.i IntKind.i64 0, AV.i IntKind.i64 0, AV.i IntKind.i64 0, AV.i IntKind.i64 0, AV.i IntKind.i64 0]).getD 0 []) (0 + rc.toNat * 1) [AV.i IntKind.i64 1]))).length then v81a_0_m5 ra rb rc ps (IntKind.i64.wrap (ra + 1)).toNat 1 ((List.replicate (IntKind.i64.wrap (ra + 1)).toNat [AV.i IntKind.i64 0, AV.i IntKind.i64 0, AV.i IntKind.i64 0, AV.i IntKind.i64 0, AV.i IntKind.i64 0, AV.i IntKind.i64 0, AV.i IntKind.i64 0, AV.i IntKind.i64 0, AV.i IntKind.i64 0, AV.i IntKind.i64 0]).set 0 (setCs ((List.replicate (IntKind.i64.wrap (ra + 1)).toNat [AV.i IntKind.i64 0, AV.i IntKind.i64 0, AV.i IntKind.i64 0, AV.i IntKind.i64 0, AV.i IntKind.i64 0, AV.i IntKind.i64 0, AV.i IntKind.i64 0, AV.i IntKind.i64 0, AV.i IntKind.i64 0, AV.i IntKind.i64 0]).getD 0 []) (0 + rc.toNat * 1) [AV.i IntKind.i64 1])) else List.take (IntKind.i64.wrap (ra + 1)).toNat (List.drop 0 (v81a_0_m5 ra rb rc ps (IntKind.i64.wrap (ra + 1)).toNat 1 ((List.replicate (IntKind.i64.wrap (ra + 1)).toNat [AV.i IntKind.i64 0, AV.i IntKind.i64 0, AV.i IntKind.i64 0, AV.i IntKind.i64 0, AV.i IntKind.i64 0, AV.i IntKind.i64 0, AV.i IntKind.i64 0, AV.i IntKind.i64 0, AV.i IntKind.i64 0, AV.i IntKind.i64 0]).set 0 (setCs ((List.replicate (IntKind.i64.wrap (ra + 1)).toNat [AV.i IntKind.i64 0, AV.i IntKind.i64 0, AV.i IntKind.i64 0, AV.i IntKind.i64 0, AV.i IntKind.i64 0, AV.i IntKind.i64 0, AV.i IntKind.i64 0, AV.i IntKind.i64 0, AV.i IntKind.i64 0, AV.i IntKind.i64 0]).getD 0 []) (0 + rc.toNat * 1) [AV.i IntKind.i64 1])))))) (.nn)) (.nn)) (.nn)) (.nn)) (.nn)) (.nn)
noncomputable def g81 (ra rb rc : Int) (ps : List (List AV)) : Bool := (t81 ra rb rc ps).g
noncomputable def w81_0 (ra rb rc : Int) (ps : List (List AV)) : List (List AV) := (t81 ra rb rc ps).val
theorem eq81 (ra rb rc : Int) (ps : List (List AV)) : evF Try.prog Sa (ro 81) L81 Try.f81 [.agg [.i .i64 ra, .i .i64 rb, .i .i64 rc, .rs 31 ps]] = (t81 ra rb rc ps).opt (fun (x : (List (List AV))) => (.rs 91 x : AV)) := by kernel_rfl
theorem con81 (ra rb rc : Int) (ps : List (List AV)) (h : g81 ra rb rc ps = true) : Con Try.prog 81 [.agg [.i .i64 ra, .i .i64 rb, .i .i64 rc, .rs 31 ps]] [] (.rs 91 (w81_0 ra rb rc ps)) [] :=
  con_of Sa_ok mixed Try.func81 (c := c81) rfl (names 81 _ Try.func81) lok81 ((eq81 ra rb rc ps).trans (Tr.sound _ _ h))
noncomputable def e81 (args : List AV) (rows : List Blk) : Option (Bool × AV × List Blk) := match args, rows with
  | [.agg [.i .i64 ra, .i .i64 rb, .i .i64 rc, .rs 31 ps]], [] => some (g81 ra rb rc ps, .rs 91 (w81_0 ra rb rc ps), [])
  | _, _ => none
theorem e81_ok (args : List AV) (rows : List Blk) (pre : Bool) (v : AV) (rows' : List Blk) (h : e81 args rows = some (pre, v, rows')) (hp : pre = true) : Con Try.prog 81 args rows v rows' := by
  unfold e81 at h
  split at h
  · cases h; exact con81 _ _ _ _ hp
  · cases h
-- SPEC 81
end Go.Proofs.Ytgifjphinkbcaaa

set_option maxRecDepth 100000
set_option linter.unusedVariables false
namespace Go.Proofs.Ytgifjphinkbcaaa
open Go Go.Ev
def cap : Int := 1000000000000001
def okT (T : Nat → Nat → Int) : Prop := ∀ n h, 0 ≤ T n h ∧ T n h ≤ cap
def lvl1 (i L A B : Nat) (T : Nat → Nat → Int) : Nat → Nat → Int := if L ≤ i then upd2 T i A (bmin (T i A + T (i - L) B) cap) else T
theorem bmin_le (a b : Int) : bmin a b = if a ≤ b then a else b := by
  unfold bmin
  first
    | rfl
    | (by_cases h : b < a
       · have : ¬ a ≤ b := by omega
         simp [h, this]
       · have : a ≤ b := by omega
         simp [h, this])
theorem lvl1_ok {i L A B : Nat} {T : Nat → Nat → Int} (h : okT T) : okT (lvl1 i L A B T) := by
  intro n k
  unfold lvl1
  split
  · unfold upd2
    split
    · unfold upd
      split
      · have := h i A
        have := h (i - L) B
        rw [bmin_le]
        unfold cap at *
        split <;> omega
      · exact h i k
    · exact h n k
  · exact h n k
theorem g71_true (q0 q1 : Int) (nm : ByteArray) (pa pb pc pd : Int) : g71 q0 q1 nm pa pb pc pd = true := by
  unfold g71 t71
  cases pb == q1 <;> rfl
theorem w71_same (q0 : Int) (nm : ByteArray) (pa pb pc pd : Int) : w71_0 q0 pb nm pa pb pc pd = IntKind.i64.wrap (q0 - pa) ∧ w71_1 q0 pb nm pa pb pc pd = pc ∧ w71_2 q0 pb nm pa pb pc pd = decide (pa ≤ q0) := by
  unfold w71_0 w71_1 w71_2 t71
  simp [Tr.val]
theorem cts91 {A : Nat} (h : A < 10) : ctsAt (cts Try.prog 91) (0 + ((A : Nat) : Int).toNat * 1) (cts Try.prog 3) = true := by
  rcases A with _ | _ | _ | _ | _ | _ | _ | _ | _ | _ | A
  all_goals first | (exfalso; omega) | kernel_rfl
theorem stp_go {ra rb rc : Int} {ps : List (List AV)} {N i k L A B : Nat} {T : Nat → Nat → Int} {p : List AV} (hp : ps.getD k [] = p) (hk : k < ps.length) (hlen : ps.length ≤ 10) (h1 : fI p 1 = (L : Int)) (h2 : fI p 2 = (A : Int)) (h3 : fI p 3 = (B : Int))
    (hA : A < 10) (hB : B < 10) (hL : 1 ≤ L) (hL2 : L ≤ 2000) (hi : i < N) (hN : N ≤ 2001) (hT : okT T) :
    stp81aa ra rb rc ps N (i : Int) ps (ps.length : Int) (k : Int) (tab N T) = .go ⟨((k + 1 : Nat) : Int), tab N (lvl1 i L A B T)⟩ := by
  unfold stp81aa
  have e1 : decide ((k : Int) < (ps.length : Int)) = true := decide_eq_true (by omega)
  have e2 : inb (k : Int) ps.length = true := by simp [inb_nat, hk]
  obtain ⟨w0, w1, w2⟩ := w71_same (i : Int) (fS p 0) (L : Int) (A : Int) (B : Int) (fI p 4)
  have ew : IntKind.i64.wrap ((k : Int) + 1) = ((k + 1 : Nat) : Int) := (wrap64 (by omega) (by omega)).trans (by omega)
  have ei : inb (i : Int) N = true := by simp [inb_nat, hi]
  have eA : inb (A : Int) 10 = true := by simp [inb_nat, hA]
  have eB : inb (B : Int) 10 = true := by simp [inb_nat, hB]
  have cA := cts91 hA
  have cB := cts91 hB
  simp only [e1, e2, cond_true, Int.toNat_natCast, hp, h1, h2, h3, g71_true, w0, w1, w2, ew, ei, eA, eB, tab_len, Nat.zero_add, Nat.mul_one] at cA cB ⊢
  rw [cA, cB]
  have bi : Nat.blt i N = true := by simpa [Nat.blt_eq] using hi
  simp only [bi, Bool.and_true, cond_true]
  by_cases hLi : L ≤ i
  · have d1 : decide ((L : Int) ≤ (i : Int)) = true := decide_eq_true (by omega)
    have ww : IntKind.i64.wrap ((i : Int) - (L : Int)) = ((i - L : Nat) : Int) := (wrap64 (by omega) (by omega)).trans (by omega)
    have hj : i - L < N := by omega
    have ej : inb ((i - L : Nat) : Int) N = true := by simp [inb_nat, hj]
    have bj : Nat.blt (i - L) N = true := by simpa [Nat.blt_eq] using hj
    have q1 := hT i A
    have q2 := hT (i - L) B
    simp only [d1, cond_true, ww, ej, Int.toNat_natCast, bj, Bool.and_true, tab_get hi, tab_get hj, tabR_get hA, tabR_get hB]
    rw [wrap64 (by unfold cap at *; omega) (by unfold cap at *; omega)]
    have := tab_set (N := N) (T := T) (v := bmin (T i A + T (i - L) B) 1000000000000001) hi hA
    rw [tab_get hi] at this
    rw [this]
    unfold lvl1
    rw [if_pos hLi]
    rfl
  · have d1 : decide ((L : Int) ≤ (i : Int)) = false := decide_eq_false (by omega)
    simp only [d1, cond_false]
    unfold lvl1
    rw [if_neg hLi]
end Go.Proofs.Ytgifjphinkbcaaa

set_option maxRecDepth 100000
set_option linter.unusedVariables false
namespace Go.Proofs.Ytgifjphinkbcaaa
open Go Go.Ev
def okPc (p : List AV) : Prop := 1 ≤ fI p 1 ∧ fI p 1 ≤ 2000 ∧ 0 ≤ fI p 2 ∧ fI p 2 < 10 ∧ 0 ≤ fI p 3 ∧ fI p 3 < 10
def okPs (ps : List (List AV)) : Prop := ps.length ≤ 10 ∧ ∀ p, p ∈ ps → okPc p
def pL (p : List AV) : Nat := (fI p 1).toNat
def pA (p : List AV) : Nat := (fI p 2).toNat
def pB (p : List AV) : Nat := (fI p 3).toNat
def lvlP (i : Nat) (T : Nat → Nat → Int) (p : List AV) : Nat → Nat → Int := lvl1 i (pL p) (pA p) (pB p) T
def lvl (ps : List (List AV)) (i : Nat) (T : Nat → Nat → Int) : Nat → Nat → Int := ps.foldl (lvlP i) T
theorem lvl_ok (ps : List (List AV)) {i : Nat} : ∀ {T : Nat → Nat → Int}, okT T → okT (lvl ps i T) := by
  induction ps with
  | nil => exact fun h => h
  | cons p ps ih => exact fun h => ih (lvl1_ok h)
theorem take_foldl {ps : List (List AV)} {i k : Nat} {T : Nat → Nat → Int} (hk : k < ps.length) : lvl (ps.take (k + 1)) i T = lvlP i (lvl (ps.take k) i T) (ps.getD k []) := by
  unfold lvl
  have : ps.take (k + 1) = ps.take k ++ [ps.getD k []] := by
    rw [List.take_add_one, List.getElem?_eq_getElem hk]
    simp [List.getD_eq_getElem?_getD, List.getElem?_eq_getElem hk]
  rw [this, List.foldl_append]
  rfl
theorem inner {ra rb rc : Int} {ps : List (List AV)} {N i : Nat} {T : Nat → Nat → Int} (hps : okPs ps) (hi : i < N) (hN : N ≤ 2001) (hT : okT T) :
    r81aa ra rb rc ps N (i : Int) ps (ps.length : Int) 0 (tab N T) = some (.x0 (ps.length : Int) (tab N (lvl ps i T))) := by
  unfold r81aa
  have := run_from0 (step := fun x : S81aa => stp81aa ra rb rc ps N (i : Int) ps (ps.length : Int) x.t27 x.m5) (y := .x0 (ps.length : Int) (tab N (lvl ps i T))) (m := ps.length)
    (fun k => ⟨(k : Int), tab N (lvl (ps.take k) i T)⟩) (fun k hk => ?_) ?_
  · simpa [lvl] using this
  · have hm : ps.getD k [] ∈ ps := by
      simp only [List.getD_eq_getElem?_getD, List.getElem?_eq_getElem hk, Option.getD_some]
      exact List.getElem_mem hk
    obtain ⟨b1, b2, b3, b4, b5, b6⟩ := hps.2 _ hm
    have := stp_go (ra := ra) (rb := rb) (rc := rc) (ps := ps) (N := N) (i := i) (k := k) (L := pL (ps.getD k [])) (A := pA (ps.getD k [])) (B := pB (ps.getD k [])) (T := lvl (ps.take k) i T) rfl hk hps.1
      (by unfold pL; omega) (by unfold pA; omega) (by unfold pB; omega) (by unfold pA; omega) (by unfold pB; omega) (by unfold pL; omega) (by unfold pL; omega) hi hN (lvl_ok _ hT)
    rw [take_foldl hk]
    exact this
  · show stp81aa ra rb rc ps N (i : Int) ps (ps.length : Int) (ps.length : Int) _ = _
    rw [List.take_length]
    unfold stp81aa
    have : decide ((ps.length : Int) < (ps.length : Int)) = false := decide_eq_false (by omega)
    rw [this]
    rfl
/-- Level by level. -/
def T0 (c : Nat) : Nat → Nat → Int := upd2 (fun _ _ => 0) 0 c 1
def tabs (ps : List (List AV)) (c : Nat) : Nat → Nat → Nat → Int
  | 0 => T0 c
  | i + 1 => lvl ps (i + 1) (tabs ps c i)
theorem T0_ok (c : Nat) : okT (T0 c) := by
  intro n h
  show 0 ≤ (if n = 0 then upd (fun _ => 0) c 1 else fun _ => 0) h ∧ (if n = 0 then upd (fun _ => 0) c 1 else fun _ => 0) h ≤ cap
  unfold cap
  split
  · show 0 ≤ (if h = c then (1 : Int) else 0) ∧ (if h = c then (1 : Int) else 0) ≤ _
    split <;> omega
  · show (0 : Int) ≤ 0 ∧ (0 : Int) ≤ _
    omega
theorem tabs_ok (ps : List (List AV)) (c : Nat) : ∀ i, okT (tabs ps c i)
  | 0 => T0_ok c
  | i + 1 => lvl_ok ps (tabs_ok ps c i)
theorem outer {rb rc : Int} {ps : List (List AV)} {n c : Nat} (hps : okPs ps) (hn : n ≤ 2000) :
    r81a (n : Int) rb rc ps (n + 1) 1 (tab (n + 1) (tabs ps c 0)) = some (.x0 ((n + 1 : Nat) : Int) (tab (n + 1) (tabs ps c n))) := by
  unfold r81a
  have := run_from0 (step := fun x : S81a => stp81a (n : Int) rb rc ps (n + 1) x.t4 x.m5) (y := .x0 ((n + 1 : Nat) : Int) (tab (n + 1) (tabs ps c n))) (m := n)
    (fun k => ⟨((k + 1 : Nat) : Int), tab (n + 1) (tabs ps c k)⟩) (fun k hk => ?_) ?_
  · exact this
  · show stp81a (n : Int) rb rc ps (n + 1) ((k + 1 : Nat) : Int) (tab (n + 1) (tabs ps c k)) = _
    unfold stp81a
    have e1 : decide (((k + 1 : Nat) : Int) ≤ (n : Int)) = true := decide_eq_true (by omega)
    have hin := inner (ra := (n : Int)) (rb := rb) (rc := rc) (ps := ps) (N := n + 1) (i := k + 1) (T := tabs ps c k) hps (by omega) (by omega) (tabs_ok ps c k)
    have ew : IntKind.i64.wrap (((k + 1 : Nat) : Int) + 1) = ((k + 1 + 1 : Nat) : Int) := (wrap64 (by omega) (by omega)).trans (by omega)
    rw [e1, cond_true, ew]
    unfold i81aa_0 v81aa_0_m5
    rw [hin]
    rfl
  · show stp81a (n : Int) rb rc ps (n + 1) ((n + 1 : Nat) : Int) (tab (n + 1) (tabs ps c n)) = _
    unfold stp81a
    have e1 : decide (((n + 1 : Nat) : Int) ≤ (n : Int)) = false := decide_eq_false (by omega)
    rw [e1]
    rfl
theorem count_val {rb : Int} {ps : List (List AV)} {n c : Nat} (hps : okPs ps) (hn : n ≤ 2000) (hc : c < 10) : g81 (n : Int) rb (c : Int) ps = true ∧ w81_0 (n : Int) rb (c : Int) ps = tab (n + 1) (tabs ps c n) := by
  have ew : IntKind.i64.wrap ((n : Int) + 1) = ((n + 1 : Nat) : Int) := (wrap64 (by omega) (by omega)).trans (by omega)
  have ez : (tab (n + 1) (fun _ _ => 0)).set 0 (setCs ((tab (n + 1) (fun _ _ => 0)).getD 0 []) c [.i .i64 1]) = tab (n + 1) (tabs ps c 0) := tab_set (by omega) hc
  have ho := outer (rb := rb) (rc := (c : Int)) (c := c) hps hn
  have cc := cts91 hc
  simp only [Int.toNat_natCast, Nat.zero_add, Nat.mul_one] at cc
  have ic : inb (c : Int) 10 = true := by simp [inb_nat, hc]
  have i0 : inb 0 (n + 1) = true := by simp [inb]
  have d1 : decide ((0 : Int) ≤ ((n + 1 : Nat) : Int)) = true := decide_eq_true (by omega)
  have d2 : decide (((n + 1 : Nat) : Int) * ((80 : Nat) : Int) ≤ 140737488355328) = true := decide_eq_true (by omega)
  have d3 : decide (((n + 1 : Nat) : Int) ≤ 9223372036854775807) = true := decide_eq_true (by omega)
  have iv : i81a_0 (n : Int) rb (c : Int) ps (n + 1) 1 (tab (n + 1) (tabs ps c 0)) = true := by
    unfold i81a_0
    rw [ho]
  have vv : v81a_0_m5 (n : Int) rb (c : Int) ps (n + 1) 1 (tab (n + 1) (tabs ps c 0)) = tab (n + 1) (tabs ps c n) := by
    unfold v81a_0_m5
    rw [ho]
  have b1 : Nat.ble (n + 1) (n + 1) = true := by simp
  have b2 : Nat.beq (n + 1) (n + 1) = true := by simp
  have b3 : Nat.blt 0 (n + 1) = true := by simp [Nat.blt_eq]
  have d2' : decide (((n + 1 : Nat) : Int) * 80 ≤ 140737488355328) = true := decide_eq_true (by omega)
  unfold g81 w81_0 t81
  simp only [ew, Int.toNat_natCast, tab_zero, Nat.zero_add, Nat.mul_one, ez, tab_len, cc, ic, i0, d1, d2', d3, iv, vv, b1, b2, b3, Bool.and_true, Tr.g, Tr.val, cond_true, decide_true, and_self]
end Go.Proofs.Ytgifjphinkbcaaa

set_option maxRecDepth 100000
set_option linter.unusedVariables false
namespace Go.Proofs.Ytgifjphinkbcaaa
open Go Go.Ev

/-! ### strings.indexFunc -/
noncomputable def c94 : Code := match Try.f94.body with | some c => c | _ => .skip
noncomputable def lp94a : Code := loopAt c94 [true, false, true, false]
noncomputable def s94a (tr : Bool) (t6 : Int) (nm : ByteArray) (m2_1 : Nat) : St :=
  { t := [(1, .fn 85 []), (2, .b tr), (6, .i .i64 t6), (10, .it 2)], m := [(0, .dead), (1, .dead), (2, .si nm m2_1)], nx := 3, nt := 21 }
structure S94a where
  m2_1 : Nat
inductive T94a where
  | x0 (t6' : Int) (m2_1 : Nat)
  | x1 (m2_1 : Nat)
noncomputable def stp94a (tr : Bool) (t6 : Int) (nm : ByteArray) (m2_1 : Nat) : Lp S94a T94a :=
  cond (m2_1.blt nm.size) (cond (g85 (↑(Utf8.decode nm m2_1).fst : Int)) (cond (w85_0 (↑(Utf8.decode nm m2_1).fst : Int) == tr) (.out (.x0 (↑m2_1 : Int) (m2_1 + (Utf8.decode nm m2_1).snd))) (.go ⟨m2_1 + (Utf8.decode nm m2_1).snd⟩)) (.bad)) (.out (.x1 m2_1))
noncomputable def o94a_0 (tr : Bool) (t6 : Int) (nm : ByteArray) (t6' : Int) (m2_1 : Nat) : St :=
  { t := [(1, .fn 85 []), (2, .b tr), (6, .i .i64 t6'), (10, .it 2)], m := [(0, .dead), (1, .dead), (2, .si nm m2_1)], nx := 3, nt := 21 }
noncomputable def o94a_1 (tr : Bool) (t6 : Int) (nm : ByteArray) (m2_1 : Nat) : St :=
  { t := [(1, .fn 85 []), (2, .b tr), (6, .i .i64 t6), (10, .it 2)], m := [(0, .dead), (1, .dead), (2, .si nm m2_1)], nx := 3, nt := 21 }
noncomputable def ou94a (tr : Bool) (t6 : Int) (nm : ByteArray) : T94a → Ex × St
  | .x0 t6' m2_1 => (.ret, o94a_0 tr t6 nm t6' m2_1)
  | .x1 m2_1 => (.ext 0, o94a_1 tr t6 nm m2_1)
noncomputable def r94a (tr : Bool) (t6 : Int) (nm : ByteArray) (m2_1 : Nat) : Option T94a := run (fun x => stp94a tr t6 nm x.m2_1) (⟨m2_1⟩ : S94a)
noncomputable def i94a_0 (tr : Bool) (t6 : Int) (nm : ByteArray) (m2_1 : Nat) : Bool := match r94a tr t6 nm m2_1 with
  | some (.x0 _ _) => true
  | _ => false
noncomputable def v94a_0_t6' (tr : Bool) (t6 : Int) (nm : ByteArray) (m2_1 : Nat) : Int := match r94a tr t6 nm m2_1 with
  | some (.x0 t6' _) => t6'
  | _ => default
noncomputable def v94a_0_m2_1 (tr : Bool) (t6 : Int) (nm : ByteArray) (m2_1 : Nat) : Nat := match r94a tr t6 nm m2_1 with
  | some (.x0 _ m2_1) => m2_1
  | _ => default
noncomputable def i94a_1 (tr : Bool) (t6 : Int) (nm : ByteArray) (m2_1 : Nat) : Bool := match r94a tr t6 nm m2_1 with
  | some (.x1 _) => true
  | _ => false
noncomputable def v94a_1_m2_1 (tr : Bool) (t6 : Int) (nm : ByteArray) (m2_1 : Nat) : Nat := match r94a tr t6 nm m2_1 with
  | some (.x1 m2_1) => m2_1
  | _ => default
noncomputable def l94a (st : St) : Option (List (Bool × Ex × St)) := match normW Try.prog [(1, none), (2, none), (6, none), (10, none)] 3 st with
  | some ([.fn 85 [], .b tr, .i .i64 t6, .it 2], [(0, .dead), (1, .dead), (2, .si nm m2_1)], 3, 21) => some [(i94a_0 tr t6 nm m2_1, .ret, o94a_0 tr t6 nm (v94a_0_t6' tr t6 nm m2_1) (v94a_0_m2_1 tr t6 nm m2_1)), (i94a_1 tr t6 nm m2_1, .ext 0, o94a_1 tr t6 nm (v94a_1_m2_1 tr t6 nm m2_1))]
  | _ => none
noncomputable def L94 : LSpec := fun p st => match p with
  | [false, true, false, true] => l94a st
  | _ => none
theorem is94a_0 (tr : Bool) (t6 : Int) (nm : ByteArray) (m2_1 : Nat) (h : i94a_0 tr t6 nm m2_1 = true) : r94a tr t6 nm m2_1 = some (.x0 (v94a_0_t6' tr t6 nm m2_1) (v94a_0_m2_1 tr t6 nm m2_1)) := by
  unfold i94a_0 at h
  unfold v94a_0_t6' v94a_0_m2_1
  generalize r94a tr t6 nm m2_1 = r at h ⊢
  rcases r with _ | y
  · cases h
  · cases y <;> first | rfl | cases h
theorem is94a_1 (tr : Bool) (t6 : Int) (nm : ByteArray) (m2_1 : Nat) (h : i94a_1 tr t6 nm m2_1 = true) : r94a tr t6 nm m2_1 = some (.x1 (v94a_1_m2_1 tr t6 nm m2_1)) := by
  unfold i94a_1 at h
  unfold v94a_1_m2_1
  generalize r94a tr t6 nm m2_1 = r at h ⊢
  rcases r with _ | y
  · cases h
  · cases y <;> first | rfl | cases h
theorem round94a (tr : Bool) (t6 : Int) (nm : ByteArray) (m2_1 : Nat) : round Try.prog Sa (ro 94) L94 lp94a [false, true, false, true] [(1, none), (2, none), (6, none), (10, none)] 3 (s94a tr t6 nm m2_1) =
    cond (m2_1.blt nm.size) (cond (g85 (↑(Utf8.decode nm m2_1).fst : Int)) (cond (w85_0 (↑(Utf8.decode nm m2_1).fst : Int) == tr) (some (.ret, o94a_0 tr t6 nm (↑m2_1 : Int) (m2_1 + (Utf8.decode nm m2_1).snd))) (some (.nrm, s94a tr t6 nm (m2_1 + (Utf8.decode nm m2_1).snd)))) (none)) (some (.ext 0, o94a_1 tr t6 nm m2_1)) := by kernel_rfl
theorem rnd94a (tr : Bool) (t6 : Int) (nm : ByteArray) (x : S94a) : round Try.prog Sa (ro 94) L94 lp94a [false, true, false, true] [(1, none), (2, none), (6, none), (10, none)] 3 ((fun x => s94a tr t6 nm x.m2_1) x) = toR (fun x => s94a tr t6 nm x.m2_1) (ou94a tr t6 nm) (stp94a tr t6 nm x.m2_1) := by
  refine (round94a _ _ _ _ ).trans ?_
  unfold stp94a
  simp only [toR_cond]
  rfl
theorem lok94a {st : St} {outs : List (Bool × Ex × St)} {e : Ex} {s : St} (hl : l94a st = some outs) (hch : Chosen outs e s) :
    ∃ keep nb, 0 ≤ nb ∧ LB Try.prog Sa (ro 94) L94 lp94a [false, true, false, true] keep nb st e s := by
  unfold l94a at hl
  split at hl
  · rename_i tr t6 nm m2_1 hno
    cases hl
    have hno := normW_norm hno
    refine ⟨_, _, ?_, .enter hno ?_⟩
    · decide
    have main := fun y h => LB_run (x := (⟨m2_1⟩ : S94a)) (y := y) (nb := 3) (fun y => by cases y <;> simp [ou94a]) (rnd94a tr t6 nm) h
    obtain ⟨x, hx, hg, rfl, rfl⟩ := chosen_any hch
    simp only [List.mem_cons, List.not_mem_nil, or_false] at hx
    rcases hx with rfl | rfl
    · exact main _ (is94a_0 tr t6 nm m2_1 hg)
    · exact main _ (is94a_1 tr t6 nm m2_1 hg)
  · cases hl
theorem L94_ok (q : Pl) (c : Code) (hq : locate c94 q.reverse = some (.loop c)) (st : St) (outs : List (Bool × Ex × St)) (e : Ex) (s : St) (hl : L94 q st = some outs) (hch : Chosen outs e s) :
    ∃ keep nb, 0 ≤ nb ∧ LB Try.prog Sa (ro 94) L94 c q keep nb st e s := by
  unfold L94 at hl
  split at hl
  · have : locate c94 ([false, true, false, true] : Pl).reverse = some (.loop lp94a) := by kernel_rfl
    rw [this] at hq
    cases hq
    exact lok94a hl hch
  · cases hl
theorem lok94 : LOK Try.prog Sa (ro 94) L94 0 false c94 [] :=
  lok_lo L94_ok c94 [] false (locate_nil _) (by kernel_rfl)
noncomputable def t94 (nm : ByteArray) (tr : Bool) : Tr ((Int)) :=
  .cn (i94a_0 tr 0 nm 0) (.lf (v94a_0_t6' tr 0 nm 0)) (.cn (i94a_1 tr 0 nm 0) (.lf (-1)) (.nn))
noncomputable def g94 (nm : ByteArray) (tr : Bool) : Bool := (t94 nm tr).g
noncomputable def w94_0 (nm : ByteArray) (tr : Bool) : Int := (t94 nm tr).val
theorem eq94 (nm : ByteArray) (tr : Bool) : evF Try.prog Sa (ro 94) L94 Try.f94 [.s nm, .fn 85 [], .b tr] = (t94 nm tr).opt (fun (x : (Int)) => (.i .i64 x : AV)) := by kernel_rfl
theorem con94 (nm : ByteArray) (tr : Bool) (h : g94 nm tr = true) : Con Try.prog 94 [.s nm, .fn 85 [], .b tr] [] (.i .i64 (w94_0 nm tr)) [] :=
  con_of Sa_ok mixed Try.func94 (c := c94) rfl (names 94 _ Try.func94) lok94 ((eq94 nm tr).trans (Tr.sound _ _ h))
noncomputable def e94 (args : List AV) (rows : List Blk) : Option (Bool × AV × List Blk) := match args, rows with
  | [.s nm, .fn 85 [], .b tr], [] => some (g94 nm tr, .i .i64 (w94_0 nm tr), [])
  | _, _ => none
theorem e94_ok (args : List AV) (rows : List Blk) (pre : Bool) (v : AV) (rows' : List Blk) (h : e94 args rows = some (pre, v, rows')) (hp : pre = true) : Con Try.prog 94 args rows v rows' := by
  unfold e94 at h
  split at h
  · cases h; exact con94 _ _ hp
  · cases h
-- SPEC 94
end Go.Proofs.Ytgifjphinkbcaaa

set_option maxRecDepth 100000
set_option linter.unusedVariables false
namespace Go.Proofs.Ytgifjphinkbcaaa
open Go Go.Ev

/-! ### Bound$1 -/
noncomputable def c54 : Code := match Try.f54.body with | some c => c | _ => .skip
theorem lok54 : LOK Try.prog Sa (ro 54) (fun _ _ => none) 0 false c54 [] :=
  lok_lo (fun _ _ _ _ _ _ _ h _ => by cases h) c54 [] false (locate_nil _) (by kernel_rfl)
noncomputable def t54 (x : Int) : Tr ((Bool)) :=
  .cn (g55 x 0 1000000) (.lf (!w55_0 x 0 1000000)) (.nn)
noncomputable def g54 (x : Int) : Bool := (t54 x).g
noncomputable def w54_0 (x : Int) : Bool := (t54 x).val
theorem eq54 (x : Int) : evF Try.prog Sa (ro 54) (fun _ _ => none) Try.f54 [.i .i64 x] = (t54 x).opt (fun (x : (Bool)) => (.b x : AV)) := by kernel_rfl
theorem con54 (x : Int) (h : g54 x = true) : Con Try.prog 54 [.i .i64 x] [] (.b (w54_0 x)) [] :=
  con_of Sa_ok mixed Try.func54 (c := c54) rfl (names 54 _ Try.func54) lok54 ((eq54 x).trans (Tr.sound _ _ h))
noncomputable def e54 (args : List AV) (rows : List Blk) : Option (Bool × AV × List Blk) := match args, rows with
  | [.i .i64 x], [] => some (g54 x, .b (w54_0 x), [])
  | _, _ => none
theorem e54_ok (args : List AV) (rows : List Blk) (pre : Bool) (v : AV) (rows' : List Blk) (h : e54 args rows = some (pre, v, rows')) (hp : pre = true) : Con Try.prog 54 args rows v rows' := by
  unfold e54 at h
  split at h
  · cases h; exact con54 _ hp
  · cases h
-- SPEC 54
end Go.Proofs.Ytgifjphinkbcaaa

set_option maxRecDepth 100000
set_option linter.unusedVariables false
namespace Go.Proofs.Ytgifjphinkbcaaa
open Go Go.Ev

/-! ### IndexFunc[Cut] -/
noncomputable def c83 : Code := match Try.f83.body with | some c => c | _ => .skip
noncomputable def lp83a : Code := loopAt c83 [true, false, true, false]
noncomputable def s83a (xs : List (List AV)) (da : Int) (db : Int) (cs : List (List AV)) (t4 : Int) (t7 : Int) (t8 : Int) : St :=
  { t := [(0, .rs 64 xs), (1, .fn 60 [.rp [.int .i64, .int .i64, .sl 64] [.i .i64 da, .i .i64 db, .rs 64 cs] 0]), (4, .i .i64 t4), (7, .i .i64 t7), (8, .i .i64 t8)], m := [], nx := 0, nt := 19 }
structure S83a where
  t8 : Int
inductive T83a where
  | x0 (t4' : Int) (t8 : Int)
  | x1 (t8 : Int)
noncomputable def stp83a (xs : List (List AV)) (da : Int) (db : Int) (cs : List (List AV)) (t4 : Int) (t7 : Int) (t8 : Int) : Lp S83a T83a :=
  cond (decide (t8 < t7)) (cond (inb t8 xs.length) (cond (w60_0 da db cs (fI (xs.getD t8.toNat []) 0) (fI (xs.getD t8.toNat []) 1)) (.out (.x0 t8 t8)) (.go ⟨IntKind.i64.wrap (t8 + 1)⟩)) (.bad)) (.out (.x1 t8))
noncomputable def o83a_0 (xs : List (List AV)) (da : Int) (db : Int) (cs : List (List AV)) (t4 : Int) (t7 : Int) (t4' : Int) (t8 : Int) : St :=
  { t := [(0, .rs 64 xs), (1, .fn 60 [.rp [.int .i64, .int .i64, .sl 64] [.i .i64 da, .i .i64 db, .rs 64 cs] 0]), (4, .i .i64 t4'), (7, .i .i64 t7), (8, .i .i64 t8)], m := [], nx := 0, nt := 19 }
noncomputable def o83a_1 (xs : List (List AV)) (da : Int) (db : Int) (cs : List (List AV)) (t4 : Int) (t7 : Int) (t8 : Int) : St :=
  { t := [(0, .rs 64 xs), (1, .fn 60 [.rp [.int .i64, .int .i64, .sl 64] [.i .i64 da, .i .i64 db, .rs 64 cs] 0]), (4, .i .i64 t4), (7, .i .i64 t7), (8, .i .i64 t8)], m := [], nx := 0, nt := 19 }
noncomputable def ou83a (xs : List (List AV)) (da : Int) (db : Int) (cs : List (List AV)) (t4 : Int) (t7 : Int) : T83a → Ex × St
  | .x0 t4' t8 => (.ret, o83a_0 xs da db cs t4 t7 t4' t8)
  | .x1 t8 => (.ext 0, o83a_1 xs da db cs t4 t7 t8)
noncomputable def r83a (xs : List (List AV)) (da : Int) (db : Int) (cs : List (List AV)) (t4 : Int) (t7 : Int) (t8 : Int) : Option T83a := run (fun x => stp83a xs da db cs t4 t7 x.t8) (⟨t8⟩ : S83a)
noncomputable def i83a_0 (xs : List (List AV)) (da : Int) (db : Int) (cs : List (List AV)) (t4 : Int) (t7 : Int) (t8 : Int) : Bool := match r83a xs da db cs t4 t7 t8 with
  | some (.x0 _ _) => true
  | _ => false
noncomputable def v83a_0_t4' (xs : List (List AV)) (da : Int) (db : Int) (cs : List (List AV)) (t4 : Int) (t7 : Int) (t8 : Int) : Int := match r83a xs da db cs t4 t7 t8 with
  | some (.x0 t4' _) => t4'
  | _ => default
noncomputable def v83a_0_t8 (xs : List (List AV)) (da : Int) (db : Int) (cs : List (List AV)) (t4 : Int) (t7 : Int) (t8 : Int) : Int := match r83a xs da db cs t4 t7 t8 with
  | some (.x0 _ t8) => t8
  | _ => default
noncomputable def i83a_1 (xs : List (List AV)) (da : Int) (db : Int) (cs : List (List AV)) (t4 : Int) (t7 : Int) (t8 : Int) : Bool := match r83a xs da db cs t4 t7 t8 with
  | some (.x1 _) => true
  | _ => false
noncomputable def v83a_1_t8 (xs : List (List AV)) (da : Int) (db : Int) (cs : List (List AV)) (t4 : Int) (t7 : Int) (t8 : Int) : Int := match r83a xs da db cs t4 t7 t8 with
  | some (.x1 t8) => t8
  | _ => default
noncomputable def l83a (st : St) : Option (List (Bool × Ex × St)) := match normW Try.prog [(0, none), (1, none), (4, none), (7, none), (8, none)] 0 st with
  | some ([.rs 64 xs, .fn 60 [.rp [.int .i64, .int .i64, .sl 64] [.i .i64 da, .i .i64 db, .rs 64 cs] 0], .i .i64 t4, .i .i64 t7, .i .i64 t8], [], 0, 19) => some [(i83a_0 xs da db cs t4 t7 t8, .ret, o83a_0 xs da db cs t4 t7 (v83a_0_t4' xs da db cs t4 t7 t8) (v83a_0_t8 xs da db cs t4 t7 t8)), (i83a_1 xs da db cs t4 t7 t8, .ext 0, o83a_1 xs da db cs t4 t7 (v83a_1_t8 xs da db cs t4 t7 t8))]
  | _ => none
noncomputable def L83 : LSpec := fun p st => match p with
  | [false, true, false, true] => l83a st
  | _ => none
theorem is83a_0 (xs : List (List AV)) (da : Int) (db : Int) (cs : List (List AV)) (t4 : Int) (t7 : Int) (t8 : Int) (h : i83a_0 xs da db cs t4 t7 t8 = true) : r83a xs da db cs t4 t7 t8 = some (.x0 (v83a_0_t4' xs da db cs t4 t7 t8) (v83a_0_t8 xs da db cs t4 t7 t8)) := by
  unfold i83a_0 at h
  unfold v83a_0_t4' v83a_0_t8
  generalize r83a xs da db cs t4 t7 t8 = r at h ⊢
  rcases r with _ | y
  · cases h
  · cases y <;> first | rfl | cases h
theorem is83a_1 (xs : List (List AV)) (da : Int) (db : Int) (cs : List (List AV)) (t4 : Int) (t7 : Int) (t8 : Int) (h : i83a_1 xs da db cs t4 t7 t8 = true) : r83a xs da db cs t4 t7 t8 = some (.x1 (v83a_1_t8 xs da db cs t4 t7 t8)) := by
  unfold i83a_1 at h
  unfold v83a_1_t8
  generalize r83a xs da db cs t4 t7 t8 = r at h ⊢
  rcases r with _ | y
  · cases h
  · cases y <;> first | rfl | cases h
theorem round83a (xs : List (List AV)) (da : Int) (db : Int) (cs : List (List AV)) (t4 : Int) (t7 : Int) (t8 : Int) : round Try.prog Sa (ro 83) L83 lp83a [false, true, false, true] [(0, none), (1, none), (4, none), (7, none), (8, none)] 0 (s83a xs da db cs t4 t7 t8) =
    cond (decide (t8 < t7)) (cond (inb t8 xs.length) (cond (w60_0 da db cs (fI (xs.getD t8.toNat []) 0) (fI (xs.getD t8.toNat []) 1)) (some (.ret, o83a_0 xs da db cs t4 t7 t8 t8)) (some (.nrm, s83a xs da db cs t4 t7 (IntKind.i64.wrap (t8 + 1))))) (none)) (some (.ext 0, o83a_1 xs da db cs t4 t7 t8)) := by kernel_rfl
theorem rnd83a (xs : List (List AV)) (da : Int) (db : Int) (cs : List (List AV)) (t4 : Int) (t7 : Int) (x : S83a) : round Try.prog Sa (ro 83) L83 lp83a [false, true, false, true] [(0, none), (1, none), (4, none), (7, none), (8, none)] 0 ((fun x => s83a xs da db cs t4 t7 x.t8) x) = toR (fun x => s83a xs da db cs t4 t7 x.t8) (ou83a xs da db cs t4 t7) (stp83a xs da db cs t4 t7 x.t8) := by
  refine (round83a _ _ _ _ _ _ _ ).trans ?_
  unfold stp83a
  simp only [toR_cond]
  rfl
theorem lok83a {st : St} {outs : List (Bool × Ex × St)} {e : Ex} {s : St} (hl : l83a st = some outs) (hch : Chosen outs e s) :
    ∃ keep nb, 0 ≤ nb ∧ LB Try.prog Sa (ro 83) L83 lp83a [false, true, false, true] keep nb st e s := by
  unfold l83a at hl
  split at hl
  · rename_i xs da db cs t4 t7 t8 hno
    cases hl
    have hno := normW_norm hno
    refine ⟨_, _, ?_, .enter hno ?_⟩
    · decide
    have main := fun y h => LB_run (x := (⟨t8⟩ : S83a)) (y := y) (nb := 0) (fun y => by cases y <;> simp [ou83a]) (rnd83a xs da db cs t4 t7) h
    obtain ⟨x, hx, hg, rfl, rfl⟩ := chosen_any hch
    simp only [List.mem_cons, List.not_mem_nil, or_false] at hx
    rcases hx with rfl | rfl
    · exact main _ (is83a_0 xs da db cs t4 t7 t8 hg)
    · exact main _ (is83a_1 xs da db cs t4 t7 t8 hg)
  · cases hl
theorem L83_ok (q : Pl) (c : Code) (hq : locate c83 q.reverse = some (.loop c)) (st : St) (outs : List (Bool × Ex × St)) (e : Ex) (s : St) (hl : L83 q st = some outs) (hch : Chosen outs e s) :
    ∃ keep nb, 0 ≤ nb ∧ LB Try.prog Sa (ro 83) L83 c q keep nb st e s := by
  unfold L83 at hl
  split at hl
  · have : locate c83 ([false, true, false, true] : Pl).reverse = some (.loop lp83a) := by kernel_rfl
    rw [this] at hq
    cases hq
    exact lok83a hl hch
  · cases hl
theorem lok83 : LOK Try.prog Sa (ro 83) L83 0 false c83 [] :=
  lok_lo L83_ok c83 [] false (locate_nil _) (by kernel_rfl)
noncomputable def t83 (xs : List (List AV)) (da db : Int) (cs : List (List AV)) : Tr ((Int)) :=
  .cn (i83a_0 xs da db cs 0 (↑xs.length : Int) 0) (.lf (v83a_0_t4' xs da db cs 0 (↑xs.length : Int) 0)) (.cn (i83a_1 xs da db cs 0 (↑xs.length : Int) 0) (.lf (-1)) (.nn))
noncomputable def g83 (xs : List (List AV)) (da db : Int) (cs : List (List AV)) : Bool := (t83 xs da db cs).g
noncomputable def w83_0 (xs : List (List AV)) (da db : Int) (cs : List (List AV)) : Int := (t83 xs da db cs).val
theorem eq83 (xs : List (List AV)) (da db : Int) (cs : List (List AV)) : evF Try.prog Sa (ro 83) L83 Try.f83 [.rs 64 xs, .fn 60 [.rp [.int .i64, .int .i64, .sl 64] [.i .i64 da, .i .i64 db, .rs 64 cs] 0]] = (t83 xs da db cs).opt (fun (x : (Int)) => (.i .i64 x : AV)) := by kernel_rfl
theorem con83 (xs : List (List AV)) (da db : Int) (cs : List (List AV)) (h : g83 xs da db cs = true) : Con Try.prog 83 [.rs 64 xs, .fn 60 [.rp [.int .i64, .int .i64, .sl 64] [.i .i64 da, .i .i64 db, .rs 64 cs] 0]] [] (.i .i64 (w83_0 xs da db cs)) [] :=
  con_of Sa_ok mixed Try.func83 (c := c83) rfl (names 83 _ Try.func83) lok83 ((eq83 xs da db cs).trans (Tr.sound _ _ h))
noncomputable def e83 (args : List AV) (rows : List Blk) : Option (Bool × AV × List Blk) := match args, rows with
  | [.rs 64 xs, .fn 60 [.rp [.int .i64, .int .i64, .sl 64] [.i .i64 da, .i .i64 db, .rs 64 cs] 0]], [] => some (g83 xs da db cs, .i .i64 (w83_0 xs da db cs), [])
  | _, _ => none
theorem e83_ok (args : List AV) (rows : List Blk) (pre : Bool) (v : AV) (rows' : List Blk) (h : e83 args rows = some (pre, v, rows')) (hp : pre = true) : Con Try.prog 83 args rows v rows' := by
  unfold e83 at h
  split at h
  · cases h; exact con83 _ _ _ _ hp
  · cases h
-- SPEC 83
end Go.Proofs.Ytgifjphinkbcaaa

set_option maxRecDepth 100000
set_option linter.unusedVariables false
namespace Go.Proofs.Ytgifjphinkbcaaa
open Go Go.Ev

/-! ### bound$1 -/
noncomputable def c82 : Code := match Try.f82.body with | some c => c | _ => .skip
noncomputable def lp82a : Code := loopAt c82 [true, true, false, true, false]
noncomputable def s82a (q0 : Int) (q1 : Int) (q2 : Int) (q3 : Int) (q4 : Int) (q5 : Int) (q6 : Int) (q7 : Int) (t3 : Int) (t4 : Int) (ws : List (List AV)) (t8 : Int) (t9 : Int) : St :=
  { t := [(2, .rp [.int .i64, .int .i64, .int .i64, .int .i64, .int .i64, .int .i64, .int .i64, .int .i64] [.i .i64 q0, .i .i64 q1, .i .i64 q2, .i .i64 q3, .i .i64 q4, .i .i64 q5, .i .i64 q6, .i .i64 q7] 0), (3, .i .i64 t3), (4, .i .i64 t4), (7, .rs 3 ws), (8, .i .i64 t8), (9, .i .i64 t9)], m := [], nx := 0, nt := 23 }
structure S82a where
  t4 : Int
  t9 : Int
inductive T82a where
  | x0 (t4 : Int) (t9 : Int)
noncomputable def stp82a (q0 : Int) (q1 : Int) (q2 : Int) (q3 : Int) (q4 : Int) (q5 : Int) (q6 : Int) (q7 : Int) (t3 : Int) (ws : List (List AV)) (t8 : Int) (t4 : Int) (t9 : Int) : Lp S82a T82a :=
  cond (decide (t9 < t8)) (cond (inb t9 ws.length) (cond (inb t9 8) (cond (ctsAt [CT.int IntKind.i64, CT.int IntKind.i64, CT.int IntKind.i64, CT.int IntKind.i64, CT.int IntKind.i64, CT.int IntKind.i64, CT.int IntKind.i64, CT.int IntKind.i64] (0 + t9.toNat * 1) (cts Try.prog 3)) (.go ⟨IntKind.i64.wrap (t4 + IntKind.i64.wrap (fI (ws.getD t9.toNat []) 0 * toI ([AV.i IntKind.i64 q0, AV.i IntKind.i64 q1, AV.i IntKind.i64 q2, AV.i IntKind.i64 q3, AV.i IntKind.i64 q4, AV.i IntKind.i64 q5, AV.i IntKind.i64 q6, AV.i IntKind.i64 q7].getD (0 + t9.toNat * 1) AV.u))), IntKind.i64.wrap (t9 + 1)⟩) (.bad)) (.bad)) (.bad)) (.out (.x0 t4 t9))
noncomputable def o82a_0 (q0 : Int) (q1 : Int) (q2 : Int) (q3 : Int) (q4 : Int) (q5 : Int) (q6 : Int) (q7 : Int) (t3 : Int) (ws : List (List AV)) (t8 : Int) (t4 : Int) (t9 : Int) : St :=
  { t := [(2, .rp [.int .i64, .int .i64, .int .i64, .int .i64, .int .i64, .int .i64, .int .i64, .int .i64] [.i .i64 q0, .i .i64 q1, .i .i64 q2, .i .i64 q3, .i .i64 q4, .i .i64 q5, .i .i64 q6, .i .i64 q7] 0), (3, .i .i64 t3), (4, .i .i64 t4), (7, .rs 3 ws), (8, .i .i64 t8), (9, .i .i64 t9)], m := [], nx := 0, nt := 23 }
noncomputable def ou82a (q0 : Int) (q1 : Int) (q2 : Int) (q3 : Int) (q4 : Int) (q5 : Int) (q6 : Int) (q7 : Int) (t3 : Int) (ws : List (List AV)) (t8 : Int) : T82a → Ex × St
  | .x0 t4 t9 => (.ext 0, o82a_0 q0 q1 q2 q3 q4 q5 q6 q7 t3 ws t8 t4 t9)
noncomputable def r82a (q0 : Int) (q1 : Int) (q2 : Int) (q3 : Int) (q4 : Int) (q5 : Int) (q6 : Int) (q7 : Int) (t3 : Int) (ws : List (List AV)) (t8 : Int) (t4 : Int) (t9 : Int) : Option T82a := run (fun x => stp82a q0 q1 q2 q3 q4 q5 q6 q7 t3 ws t8 x.t4 x.t9) (⟨t4, t9⟩ : S82a)
noncomputable def i82a_0 (q0 : Int) (q1 : Int) (q2 : Int) (q3 : Int) (q4 : Int) (q5 : Int) (q6 : Int) (q7 : Int) (t3 : Int) (ws : List (List AV)) (t8 : Int) (t4 : Int) (t9 : Int) : Bool := match r82a q0 q1 q2 q3 q4 q5 q6 q7 t3 ws t8 t4 t9 with
  | some (.x0 _ _) => true
  | _ => false
noncomputable def v82a_0_t4 (q0 : Int) (q1 : Int) (q2 : Int) (q3 : Int) (q4 : Int) (q5 : Int) (q6 : Int) (q7 : Int) (t3 : Int) (ws : List (List AV)) (t8 : Int) (t4 : Int) (t9 : Int) : Int := match r82a q0 q1 q2 q3 q4 q5 q6 q7 t3 ws t8 t4 t9 with
  | some (.x0 t4 _) => t4
  | _ => default
noncomputable def v82a_0_t9 (q0 : Int) (q1 : Int) (q2 : Int) (q3 : Int) (q4 : Int) (q5 : Int) (q6 : Int) (q7 : Int) (t3 : Int) (ws : List (List AV)) (t8 : Int) (t4 : Int) (t9 : Int) : Int := match r82a q0 q1 q2 q3 q4 q5 q6 q7 t3 ws t8 t4 t9 with
  | some (.x0 _ t9) => t9
  | _ => default
noncomputable def l82a (st : St) : Option (List (Bool × Ex × St)) := match normW Try.prog [(2, none), (3, none), (4, none), (7, none), (8, none), (9, none)] 0 st with
  | some ([.rp [.int .i64, .int .i64, .int .i64, .int .i64, .int .i64, .int .i64, .int .i64, .int .i64] [.i .i64 q0, .i .i64 q1, .i .i64 q2, .i .i64 q3, .i .i64 q4, .i .i64 q5, .i .i64 q6, .i .i64 q7] 0, .i .i64 t3, .i .i64 t4, .rs 3 ws, .i .i64 t8, .i .i64 t9], [], 0, 23) => some [(i82a_0 q0 q1 q2 q3 q4 q5 q6 q7 t3 ws t8 t4 t9, .ext 0, o82a_0 q0 q1 q2 q3 q4 q5 q6 q7 t3 ws t8 (v82a_0_t4 q0 q1 q2 q3 q4 q5 q6 q7 t3 ws t8 t4 t9) (v82a_0_t9 q0 q1 q2 q3 q4 q5 q6 q7 t3 ws t8 t4 t9))]
  | _ => none
noncomputable def L82 : LSpec := fun p st => match p with
  | [false, true, false, true, true] => l82a st
  | _ => none
theorem is82a_0 (q0 : Int) (q1 : Int) (q2 : Int) (q3 : Int) (q4 : Int) (q5 : Int) (q6 : Int) (q7 : Int) (t3 : Int) (ws : List (List AV)) (t8 : Int) (t4 : Int) (t9 : Int) (h : i82a_0 q0 q1 q2 q3 q4 q5 q6 q7 t3 ws t8 t4 t9 = true) : r82a q0 q1 q2 q3 q4 q5 q6 q7 t3 ws t8 t4 t9 = some (.x0 (v82a_0_t4 q0 q1 q2 q3 q4 q5 q6 q7 t3 ws t8 t4 t9) (v82a_0_t9 q0 q1 q2 q3 q4 q5 q6 q7 t3 ws t8 t4 t9)) := by
  unfold i82a_0 at h
  unfold v82a_0_t4 v82a_0_t9
  generalize r82a q0 q1 q2 q3 q4 q5 q6 q7 t3 ws t8 t4 t9 = r at h ⊢
  rcases r with _ | y
  · cases h
  · cases y <;> first | rfl | cases h
theorem round82a (q0 : Int) (q1 : Int) (q2 : Int) (q3 : Int) (q4 : Int) (q5 : Int) (q6 : Int) (q7 : Int) (t3 : Int) (t4 : Int) (ws : List (List AV)) (t8 : Int) (t9 : Int) : round Try.prog Sa (ro 82) L82 lp82a [false, true, false, true, true] [(2, none), (3, none), (4, none), (7, none), (8, none), (9, none)] 0 (s82a q0 q1 q2 q3 q4 q5 q6 q7 t3 t4 ws t8 t9) =
    cond (decide (t9 < t8)) (cond (inb t9 ws.length) (cond (inb t9 8) (cond (ctsAt [CT.int IntKind.i64, CT.int IntKind.i64, CT.int IntKind.i64, CT.int IntKind.i64, CT.int IntKind.i64, CT.int IntKind.i64, CT.int IntKind.i64, CT.int IntKind.i64] (0 + t9.toNat * 1) (cts Try.prog 3)) (some (.nrm, s82a q0 q1 q2 q3 q4 q5 q6 q7 t3 (IntKind.i64.wrap (t4 + IntKind.i64.wrap (fI (ws.getD t9.toNat []) 0 * toI ([AV.i IntKind.i64 q0, AV.i IntKind.i64 q1, AV.i IntKind.i64 q2, AV.i IntKind.i64 q3, AV.i IntKind.i64 q4, AV.i IntKind.i64 q5, AV.i IntKind.i64 q6, AV.i IntKind.i64 q7].getD (0 + t9.toNat * 1) AV.u)))) ws t8 (IntKind.i64.wrap (t9 + 1)))) (none)) (none)) (none)) (some (.ext 0, o82a_0 q0 q1 q2 q3 q4 q5 q6 q7 t3 ws t8 t4 t9)) := by kernel_rfl
theorem rnd82a (q0 : Int) (q1 : Int) (q2 : Int) (q3 : Int) (q4 : Int) (q5 : Int) (q6 : Int) (q7 : Int) (t3 : Int) (ws : List (List AV)) (t8 : Int) (x : S82a) : round Try.prog Sa (ro 82) L82 lp82a [false, true, false, true, true] [(2, none), (3, none), (4, none), (7, none), (8, none), (9, none)] 0 ((fun x => s82a q0 q1 q2 q3 q4 q5 q6 q7 t3 x.t4 ws t8 x.t9) x) = toR (fun x => s82a q0 q1 q2 q3 q4 q5 q6 q7 t3 x.t4 ws t8 x.t9) (ou82a q0 q1 q2 q3 q4 q5 q6 q7 t3 ws t8) (stp82a q0 q1 q2 q3 q4 q5 q6 q7 t3 ws t8 x.t4 x.t9) := by
  refine (round82a _ _ _ _ _ _ _ _ _ _ _ _ _ ).trans ?_
  unfold stp82a
  simp only [toR_cond]
  rfl
theorem lok82a {st : St} {outs : List (Bool × Ex × St)} {e : Ex} {s : St} (hl : l82a st = some outs) (hch : Chosen outs e s) :
    ∃ keep nb, 0 ≤ nb ∧ LB Try.prog Sa (ro 82) L82 lp82a [false, true, false, true, true] keep nb st e s := by
  unfold l82a at hl
  split at hl
  · rename_i q0 q1 q2 q3 q4 q5 q6 q7 t3 t4 ws t8 t9 hno
    cases hl
    have hno := normW_norm hno
    refine ⟨_, _, ?_, .enter hno ?_⟩
    · decide
    have main := fun y h => LB_run (x := (⟨t4, t9⟩ : S82a)) (y := y) (nb := 0) (fun y => by cases y <;> simp [ou82a]) (rnd82a q0 q1 q2 q3 q4 q5 q6 q7 t3 ws t8) h
    obtain ⟨x, hx, hg, rfl, rfl⟩ := chosen_any hch
    simp only [List.mem_cons, List.not_mem_nil, or_false] at hx
    subst hx
    exact main _ (is82a_0 q0 q1 q2 q3 q4 q5 q6 q7 t3 ws t8 t4 t9 hg)
  · cases hl
theorem L82_ok (q : Pl) (c : Code) (hq : locate c82 q.reverse = some (.loop c)) (st : St) (outs : List (Bool × Ex × St)) (e : Ex) (s : St) (hl : L82 q st = some outs) (hch : Chosen outs e s) :
    ∃ keep nb, 0 ≤ nb ∧ LB Try.prog Sa (ro 82) L82 c q keep nb st e s := by
  unfold L82 at hl
  split at hl
  · have : locate c82 ([false, true, false, true, true] : Pl).reverse = some (.loop lp82a) := by kernel_rfl
    rw [this] at hq
    cases hq
    exact lok82a hl hch
  · cases hl
theorem lok82 : LOK Try.prog Sa (ro 82) L82 0 false c82 [] :=
  lok_lo L82_ok c82 [] false (locate_nil _) (by kernel_rfl)
noncomputable def t82 (ws : List (List AV)) (q0 q1 q2 q3 q4 q5 q6 q7 : Int) : Tr ((Int)) :=
  .cn (i82a_0 q0 q1 q2 q3 q4 q5 q6 q7 0 ws (↑ws.length : Int) 0 0) (.lf (v82a_0_t4 q0 q1 q2 q3 q4 q5 q6 q7 0 ws (↑ws.length : Int) 0 0)) (.nn)
noncomputable def g82 (ws : List (List AV)) (q0 q1 q2 q3 q4 q5 q6 q7 : Int) : Bool := (t82 ws q0 q1 q2 q3 q4 q5 q6 q7).g
noncomputable def w82_0 (ws : List (List AV)) (q0 q1 q2 q3 q4 q5 q6 q7 : Int) : Int := (t82 ws q0 q1 q2 q3 q4 q5 q6 q7).val
theorem eq82 (ws : List (List AV)) (q0 q1 q2 q3 q4 q5 q6 q7 : Int) : evF Try.prog Sa (ro 82) L82 Try.f82 [.agg [.i .i64 q0, .i .i64 q1, .i .i64 q2, .i .i64 q3, .i .i64 q4, .i .i64 q5, .i .i64 q6, .i .i64 q7], .rp [.sl 3] [.rs 3 ws] 0] = (t82 ws q0 q1 q2 q3 q4 q5 q6 q7).opt (fun (x : (Int)) => (.i .i64 x : AV)) := by kernel_rfl
theorem con82 (ws : List (List AV)) (q0 q1 q2 q3 q4 q5 q6 q7 : Int) (h : g82 ws q0 q1 q2 q3 q4 q5 q6 q7 = true) : Con Try.prog 82 [.agg [.i .i64 q0, .i .i64 q1, .i .i64 q2, .i .i64 q3, .i .i64 q4, .i .i64 q5, .i .i64 q6, .i .i64 q7], .rp [.sl 3] [.rs 3 ws] 0] [] (.i .i64 (w82_0 ws q0 q1 q2 q3 q4 q5 q6 q7)) [] :=
  con_of Sa_ok mixed Try.func82 (c := c82) rfl (names 82 _ Try.func82) lok82 ((eq82 ws q0 q1 q2 q3 q4 q5 q6 q7).trans (Tr.sound _ _ h))
noncomputable def e82 (args : List AV) (rows : List Blk) : Option (Bool × AV × List Blk) := match args, rows with
  | [.agg [.i .i64 q0, .i .i64 q1, .i .i64 q2, .i .i64 q3, .i .i64 q4, .i .i64 q5, .i .i64 q6, .i .i64 q7], .rp [.sl 3] [.rs 3 ws] 0], [] => some (g82 ws q0 q1 q2 q3 q4 q5 q6 q7, .i .i64 (w82_0 ws q0 q1 q2 q3 q4 q5 q6 q7), [])
  | _, _ => none
theorem e82_ok (args : List AV) (rows : List Blk) (pre : Bool) (v : AV) (rows' : List Blk) (h : e82 args rows = some (pre, v, rows')) (hp : pre = true) : Con Try.prog 82 args rows v rows' := by
  unfold e82 at h
  split at h
  · cases h; exact con82 _ _ _ _ _ _ _ _ _ hp
  · cases h
-- SPEC 82
end Go.Proofs.Ytgifjphinkbcaaa

set_option maxRecDepth 100000
set_option linter.unusedVariables false
namespace Go.Proofs.Ytgifjphinkbcaaa
open Go Go.Ev
noncomputable def Sb : Ev.Spec := insS 81 e81 (insS 82 e82 (insS 83 e83 (insS 54 e54 (insS 94 e94 (Sa)))))
theorem Sb_ok : SpecOK Try.prog Sb := insS_ok e81_ok (insS_ok e82_ok (insS_ok e83_ok (insS_ok e54_ok (insS_ok e94_ok (Sa_ok)))))
end Go.Proofs.Ytgifjphinkbcaaa

set_option maxRecDepth 100000
set_option linter.unusedVariables false
namespace Go.Proofs.Ytgifjphinkbcaaa
open Go Go.Ev

/-! ### ref.patterns -/
noncomputable def c80 : Code := match Try.f80.body with | some c => c | _ => .skip
noncomputable def lp80a : Code := loopAt c80 [true, true, false, true, false]
noncomputable def s80a (ws : List (List AV)) (da : Int) (db : Int) (cs : List (List AV)) (t5 : Nat) (t6 : Int) (m5 : List (List AV)) : St :=
  { t := [(1, .rs 3 ws), (2, .rp [.int .i64, .int .i64, .sl 64] [.i .i64 da, .i .i64 db, .rs 64 cs] 0), (4, .nl), (5, .sl 5 0 t5), (6, .i .i64 t6)], m := [(0, .dead), (1, .dead), (2, .dead), (3, .dead), (4, .dead), (5, .row 4 m5)], nx := 6, nt := 55 }
noncomputable def lp80aa : Code := loopAt c80 [true, true, false, true, false, false, true, false, false, true, false, true, false]
noncomputable def s80aa (ws : List (List AV)) (da : Int) (db : Int) (cs : List (List AV)) (t5 : Nat) (t6 : Int) (t7 : Int) (t8 : Int) (m5 : List (List AV)) : St :=
  { t := [(1, .rs 3 ws), (2, .rp [.int .i64, .int .i64, .sl 64] [.i .i64 da, .i .i64 db, .rs 64 cs] 0), (4, .nl), (5, .sl 5 0 t5), (6, .i .i64 t6), (7, .i .i64 t7), (8, .i .i64 t8)], m := [(0, .dead), (1, .dead), (2, .dead), (3, .dead), (4, .dead), (5, .row 4 m5)], nx := 6, nt := 55 }
structure S80aa where
  t7 : Int
  t8 : Int
inductive T80aa where
  | x0 (t7 : Int) (t8 : Int)
noncomputable def stp80aa (ws : List (List AV)) (da : Int) (db : Int) (cs : List (List AV)) (t5 : Nat) (t6 : Int) (m5 : List (List AV)) (t7 : Int) (t8 : Int) : Lp S80aa T80aa :=
  cond (decide (t8 < (↑ws.length : Int))) (cond (decide (0 ≤ t8)) (cond (IntKind.i64.wrap (↑(BitVec.ofInt 64 (t6.fdiv (2 ^ min t8.toNat 64)) &&& BitVec.ofInt 64 1).toNat : Int) == 1) (cond (inb t8 ws.length) (cond (inb (fI (ws.getD t8.toNat []) 0) cs.length) (.go ⟨IntKind.i64.wrap (IntKind.i64.wrap (t7 + fI (cs.getD (fI (ws.getD t8.toNat []) 0).toNat []) 0) + db), IntKind.i64.wrap (t8 + 1)⟩) (.bad)) (.bad)) (.go ⟨t7, IntKind.i64.wrap (t8 + 1)⟩)) (.bad)) (.out (.x0 t7 t8))
noncomputable def o80aa_0 (ws : List (List AV)) (da : Int) (db : Int) (cs : List (List AV)) (t5 : Nat) (t6 : Int) (m5 : List (List AV)) (t7 : Int) (t8 : Int) : St :=
  { t := [(1, .rs 3 ws), (2, .rp [.int .i64, .int .i64, .sl 64] [.i .i64 da, .i .i64 db, .rs 64 cs] 0), (4, .nl), (5, .sl 5 0 t5), (6, .i .i64 t6), (7, .i .i64 t7), (8, .i .i64 t8)], m := [(0, .dead), (1, .dead), (2, .dead), (3, .dead), (4, .dead), (5, .row 4 m5)], nx := 6, nt := 55 }
noncomputable def ou80aa (ws : List (List AV)) (da : Int) (db : Int) (cs : List (List AV)) (t5 : Nat) (t6 : Int) (m5 : List (List AV)) : T80aa → Ex × St
  | .x0 t7 t8 => (.ext 2, o80aa_0 ws da db cs t5 t6 m5 t7 t8)
noncomputable def r80aa (ws : List (List AV)) (da : Int) (db : Int) (cs : List (List AV)) (t5 : Nat) (t6 : Int) (m5 : List (List AV)) (t7 : Int) (t8 : Int) : Option T80aa := run (fun x => stp80aa ws da db cs t5 t6 m5 x.t7 x.t8) (⟨t7, t8⟩ : S80aa)
noncomputable def i80aa_0 (ws : List (List AV)) (da : Int) (db : Int) (cs : List (List AV)) (t5 : Nat) (t6 : Int) (m5 : List (List AV)) (t7 : Int) (t8 : Int) : Bool := match r80aa ws da db cs t5 t6 m5 t7 t8 with
  | some (.x0 _ _) => true
  | _ => false
noncomputable def v80aa_0_t7 (ws : List (List AV)) (da : Int) (db : Int) (cs : List (List AV)) (t5 : Nat) (t6 : Int) (m5 : List (List AV)) (t7 : Int) (t8 : Int) : Int := match r80aa ws da db cs t5 t6 m5 t7 t8 with
  | some (.x0 t7 _) => t7
  | _ => default
noncomputable def v80aa_0_t8 (ws : List (List AV)) (da : Int) (db : Int) (cs : List (List AV)) (t5 : Nat) (t6 : Int) (m5 : List (List AV)) (t7 : Int) (t8 : Int) : Int := match r80aa ws da db cs t5 t6 m5 t7 t8 with
  | some (.x0 _ t8) => t8
  | _ => default
noncomputable def l80aa (st : St) : Option (List (Bool × Ex × St)) := match normW Try.prog [(1, none), (2, none), (4, none), (5, none), (6, none), (7, none), (8, none)] 6 st with
  | some ([.rs 3 ws, .rp [.int .i64, .int .i64, .sl 64] [.i .i64 da, .i .i64 db, .rs 64 cs] 0, .nl, .sl 5 0 t5, .i .i64 t6, .i .i64 t7, .i .i64 t8], [(0, .dead), (1, .dead), (2, .dead), (3, .dead), (4, .dead), (5, .row 4 m5)], 6, 55) => some [(i80aa_0 ws da db cs t5 t6 m5 t7 t8, .ext 2, o80aa_0 ws da db cs t5 t6 m5 (v80aa_0_t7 ws da db cs t5 t6 m5 t7 t8) (v80aa_0_t8 ws da db cs t5 t6 m5 t7 t8))]
  | _ => none
structure S80a where
  t6 : Int
  m5 : List (List AV)
inductive T80a where
  | x0 (t6 : Int) (m5 : List (List AV))
noncomputable def stp80a (ws : List (List AV)) (da : Int) (db : Int) (cs : List (List AV)) (t5 : Nat) (t6 : Int) (m5 : List (List AV)) : Lp S80a T80a :=
  cond (decide (t6 < (↑t5 : Int))) (cond (i80aa_0 ws da db cs t5 t6 m5 0 0) (cond (inb t6 t5 && (0 + t6.toNat).blt m5.length) (cond ((0 + t6.toNat).blt m5.length) (.go ⟨IntKind.i64.wrap (t6 + 1), m5.set (0 + t6.toNat) (setCs (m5.getD (0 + t6.toNat) []) 0 [AV.b (decide (v80aa_0_t7 ws da db cs t5 t6 m5 0 0 ≤ IntKind.i64.wrap (da + db)))])⟩) (.bad)) (.bad)) (.bad)) (.out (.x0 t6 m5))
noncomputable def o80a_0 (ws : List (List AV)) (da : Int) (db : Int) (cs : List (List AV)) (t5 : Nat) (t6 : Int) (m5 : List (List AV)) : St :=
  { t := [(1, .rs 3 ws), (2, .rp [.int .i64, .int .i64, .sl 64] [.i .i64 da, .i .i64 db, .rs 64 cs] 0), (4, .nl), (5, .sl 5 0 t5), (6, .i .i64 t6)], m := [(0, .dead), (1, .dead), (2, .dead), (3, .dead), (4, .dead), (5, .row 4 m5)], nx := 6, nt := 55 }
noncomputable def ou80a (ws : List (List AV)) (da : Int) (db : Int) (cs : List (List AV)) (t5 : Nat) : T80a → Ex × St
  | .x0 t6 m5 => (.ext 0, o80a_0 ws da db cs t5 t6 m5)
noncomputable def r80a (ws : List (List AV)) (da : Int) (db : Int) (cs : List (List AV)) (t5 : Nat) (t6 : Int) (m5 : List (List AV)) : Option T80a := run (fun x => stp80a ws da db cs t5 x.t6 x.m5) (⟨t6, m5⟩ : S80a)
noncomputable def i80a_0 (ws : List (List AV)) (da : Int) (db : Int) (cs : List (List AV)) (t5 : Nat) (t6 : Int) (m5 : List (List AV)) : Bool := match r80a ws da db cs t5 t6 m5 with
  | some (.x0 _ _) => true
  | _ => false
noncomputable def v80a_0_t6 (ws : List (List AV)) (da : Int) (db : Int) (cs : List (List AV)) (t5 : Nat) (t6 : Int) (m5 : List (List AV)) : Int := match r80a ws da db cs t5 t6 m5 with
  | some (.x0 t6 _) => t6
  | _ => default
noncomputable def v80a_0_m5 (ws : List (List AV)) (da : Int) (db : Int) (cs : List (List AV)) (t5 : Nat) (t6 : Int) (m5 : List (List AV)) : List (List AV) := match r80a ws da db cs t5 t6 m5 with
  | some (.x0 _ m5) => m5
  | _ => default
noncomputable def l80a (st : St) : Option (List (Bool × Ex × St)) := match normW Try.prog [(1, none), (2, none), (4, none), (5, none), (6, none)] 6 st with
  | some ([.rs 3 ws, .rp [.int .i64, .int .i64, .sl 64] [.i .i64 da, .i .i64 db, .rs 64 cs] 0, .nl, .sl 5 0 t5, .i .i64 t6], [(0, .dead), (1, .dead), (2, .dead), (3, .dead), (4, .dead), (5, .row 4 m5)], 6, 55) => some [(i80a_0 ws da db cs t5 t6 m5, .ext 0, o80a_0 ws da db cs t5 (v80a_0_t6 ws da db cs t5 t6 m5) (v80a_0_m5 ws da db cs t5 t6 m5))]
  | _ => none
noncomputable def L80 : LSpec := fun p st => match p with
  | [false, true, false, true, false, false, true, false, false, true, false, true, true] => l80aa st
  | [false, true, false, true, true] => l80a st
  | _ => none
theorem is80aa_0 (ws : List (List AV)) (da : Int) (db : Int) (cs : List (List AV)) (t5 : Nat) (t6 : Int) (m5 : List (List AV)) (t7 : Int) (t8 : Int) (h : i80aa_0 ws da db cs t5 t6 m5 t7 t8 = true) : r80aa ws da db cs t5 t6 m5 t7 t8 = some (.x0 (v80aa_0_t7 ws da db cs t5 t6 m5 t7 t8) (v80aa_0_t8 ws da db cs t5 t6 m5 t7 t8)) := by
  unfold i80aa_0 at h
  unfold v80aa_0_t7 v80aa_0_t8
  generalize r80aa ws da db cs t5 t6 m5 t7 t8 = r at h ⊢
  rcases r with _ | y
  · cases h
  · cases y <;> first | rfl | cases h
theorem round80aa (ws : List (List AV)) (da : Int) (db : Int) (cs : List (List AV)) (t5 : Nat) (t6 : Int) (t7 : Int) (t8 : Int) (m5 : List (List AV)) : round Try.prog Sb (ro 80) L80 lp80aa [false, true, false, true, false, false, true, false, false, true, false, true, true] [(1, none), (2, none), (4, none), (5, none), (6, none), (7, none), (8, none)] 6 (s80aa ws da db cs t5 t6 t7 t8 m5) =
    cond (decide (t8 < (↑ws.length : Int))) (cond (decide (0 ≤ t8)) (cond (IntKind.i64.wrap (↑(BitVec.ofInt 64 (t6.fdiv (2 ^ min t8.toNat 64)) &&& BitVec.ofInt 64 1).toNat : Int) == 1) (cond (inb t8 ws.length) (cond (inb (fI (ws.getD t8.toNat []) 0) cs.length) (some (.nrm, s80aa ws da db cs t5 t6 (IntKind.i64.wrap (IntKind.i64.wrap (t7 + fI (cs.getD (fI (ws.getD t8.toNat []) 0).toNat []) 0) + db)) (IntKind.i64.wrap (t8 + 1)) m5)) (none)) (none)) (some (.nrm, s80aa ws da db cs t5 t6 t7 (IntKind.i64.wrap (t8 + 1)) m5))) (none)) (some (.ext 2, o80aa_0 ws da db cs t5 t6 m5 t7 t8)) := by kernel_rfl
theorem rnd80aa (ws : List (List AV)) (da : Int) (db : Int) (cs : List (List AV)) (t5 : Nat) (t6 : Int) (m5 : List (List AV)) (x : S80aa) : round Try.prog Sb (ro 80) L80 lp80aa [false, true, false, true, false, false, true, false, false, true, false, true, true] [(1, none), (2, none), (4, none), (5, none), (6, none), (7, none), (8, none)] 6 ((fun x => s80aa ws da db cs t5 t6 x.t7 x.t8 m5) x) = toR (fun x => s80aa ws da db cs t5 t6 x.t7 x.t8 m5) (ou80aa ws da db cs t5 t6 m5) (stp80aa ws da db cs t5 t6 m5 x.t7 x.t8) := by
  refine (round80aa _ _ _ _ _ _ _ _ _ ).trans ?_
  unfold stp80aa
  simp only [toR_cond]
  rfl
theorem lok80aa {st : St} {outs : List (Bool × Ex × St)} {e : Ex} {s : St} (hl : l80aa st = some outs) (hch : Chosen outs e s) :
    ∃ keep nb, 0 ≤ nb ∧ LB Try.prog Sb (ro 80) L80 lp80aa [false, true, false, true, false, false, true, false, false, true, false, true, true] keep nb st e s := by
  unfold l80aa at hl
  split at hl
  · rename_i ws da db cs t5 t6 t7 t8 m5 hno
    cases hl
    have hno := normW_norm hno
    refine ⟨_, _, ?_, .enter hno ?_⟩
    · decide
    have main := fun y h => LB_run (x := (⟨t7, t8⟩ : S80aa)) (y := y) (nb := 6) (fun y => by cases y <;> simp [ou80aa]) (rnd80aa ws da db cs t5 t6 m5) h
    obtain ⟨x, hx, hg, rfl, rfl⟩ := chosen_any hch
    simp only [List.mem_cons, List.not_mem_nil, or_false] at hx
    subst hx
    exact main _ (is80aa_0 ws da db cs t5 t6 m5 t7 t8 hg)
  · cases hl
theorem is80a_0 (ws : List (List AV)) (da : Int) (db : Int) (cs : List (List AV)) (t5 : Nat) (t6 : Int) (m5 : List (List AV)) (h : i80a_0 ws da db cs t5 t6 m5 = true) : r80a ws da db cs t5 t6 m5 = some (.x0 (v80a_0_t6 ws da db cs t5 t6 m5) (v80a_0_m5 ws da db cs t5 t6 m5)) := by
  unfold i80a_0 at h
  unfold v80a_0_t6 v80a_0_m5
  generalize r80a ws da db cs t5 t6 m5 = r at h ⊢
  rcases r with _ | y
  · cases h
  · cases y <;> first | rfl | cases h
theorem round80a (ws : List (List AV)) (da : Int) (db : Int) (cs : List (List AV)) (t5 : Nat) (t6 : Int) (m5 : List (List AV)) : round Try.prog Sb (ro 80) L80 lp80a [false, true, false, true, true] [(1, none), (2, none), (4, none), (5, none), (6, none)] 6 (s80a ws da db cs t5 t6 m5) =
    cond (decide (t6 < (↑t5 : Int))) (cond (i80aa_0 ws da db cs t5 t6 m5 0 0) (cond (inb t6 t5 && (0 + t6.toNat).blt m5.length) (cond ((0 + t6.toNat).blt m5.length) (some (.nrm, s80a ws da db cs t5 (IntKind.i64.wrap (t6 + 1)) (m5.set (0 + t6.toNat) (setCs (m5.getD (0 + t6.toNat) []) 0 [AV.b (decide (v80aa_0_t7 ws da db cs t5 t6 m5 0 0 ≤ IntKind.i64.wrap (da + db)))])))) (none)) (none)) (none)) (some (.ext 0, o80a_0 ws da db cs t5 t6 m5)) := by kernel_rfl
theorem rnd80a (ws : List (List AV)) (da : Int) (db : Int) (cs : List (List AV)) (t5 : Nat) (x : S80a) : round Try.prog Sb (ro 80) L80 lp80a [false, true, false, true, true] [(1, none), (2, none), (4, none), (5, none), (6, none)] 6 ((fun x => s80a ws da db cs t5 x.t6 x.m5) x) = toR (fun x => s80a ws da db cs t5 x.t6 x.m5) (ou80a ws da db cs t5) (stp80a ws da db cs t5 x.t6 x.m5) := by
  refine (round80a _ _ _ _ _ _ _ ).trans ?_
  unfold stp80a
  simp only [toR_cond]
  rfl
theorem lok80a {st : St} {outs : List (Bool × Ex × St)} {e : Ex} {s : St} (hl : l80a st = some outs) (hch : Chosen outs e s) :
    ∃ keep nb, 0 ≤ nb ∧ LB Try.prog Sb (ro 80) L80 lp80a [false, true, false, true, true] keep nb st e s := by
  unfold l80a at hl
  split at hl
  · rename_i ws da db cs t5 t6 m5 hno
    cases hl
    have hno := normW_norm hno
    refine ⟨_, _, ?_, .enter hno ?_⟩
    · decide
    have main := fun y h => LB_run (x := (⟨t6, m5⟩ : S80a)) (y := y) (nb := 6) (fun y => by cases y <;> simp [ou80a]) (rnd80a ws da db cs t5) h
    obtain ⟨x, hx, hg, rfl, rfl⟩ := chosen_any hch
    simp only [List.mem_cons, List.not_mem_nil, or_false] at hx
    subst hx
    exact main _ (is80a_0 ws da db cs t5 t6 m5 hg)
  · cases hl
theorem L80_ok (q : Pl) (c : Code) (hq : locate c80 q.reverse = some (.loop c)) (st : St) (outs : List (Bool × Ex × St)) (e : Ex) (s : St) (hl : L80 q st = some outs) (hch : Chosen outs e s) :
    ∃ keep nb, 0 ≤ nb ∧ LB Try.prog Sb (ro 80) L80 c q keep nb st e s := by
  unfold L80 at hl
  split at hl
  · have : locate c80 ([false, true, false, true, false, false, true, false, false, true, false, true, true] : Pl).reverse = some (.loop lp80aa) := by kernel_rfl
    rw [this] at hq
    cases hq
    exact lok80aa hl hch
  · have : locate c80 ([false, true, false, true, true] : Pl).reverse = some (.loop lp80a) := by kernel_rfl
    rw [this] at hq
    cases hq
    exact lok80a hl hch
  · cases hl
theorem lok80 : LOK Try.prog Sb (ro 80) L80 0 false c80 [] :=
  lok_lo L80_ok c80 [] false (locate_nil _) (by kernel_rfl)
noncomputable def t80 (da db : Int) (cs : List (List AV)) (ws : List (List AV)) : Tr ((List (List AV))) :=
  .cn (decide (IntKind.i64.wrap (1 * 2 ^ min (↑ws.length : Int).toNat 64) = IntKind.i64.wrap (1 * 2 ^ min (↑ws.length : Int).toNat 64)) && (decide (0 ≤ IntKind.i64.wrap (1 * 2 ^ min (↑ws.length : Int).toNat 64)) && decide (IntKind.i64.wrap (1 * 2 ^ min (↑ws.length : Int).toNat 64) * (↑1 : Int) ≤ 140737488355328) && decide (IntKind.i64.wrap (1 * 2 ^ min (↑ws.length : Int).toNat 64) ≤ 9223372036854775807))) (.cn (i80a_0 ws da db cs (IntKind.i64.wrap (1 * 2 ^ min (↑ws.length : Int).toNat 64)).toNat 0 (List.replicate (IntKind.i64.wrap (1 * 2 ^ min (↑ws.length : Int).toNat 64)).toNat [AV.b false])) (.cn ((0 + (IntKind.i64.wrap (1 * 2 ^ min (↑ws.length : Int).toNat 64)).toNat).ble (v80a_0_m5 ws da db cs (IntKind.i64.wrap (1 * 2 ^ min (↑ws.length : Int).toNat 64)).toNat 0 (List.replicate (IntKind.i64.wrap (1 * 2 ^ min (↑ws.length : Int).toNat 64)).toNat [AV.b false])).length) (.lf (bif (IntKind.i64.wrap (1 * 2 ^ min (↑ws.length : Int).toNat 64)).toNat.beq (v80a_0_m5 ws da db cs (IntKind.i64.wrap (1 * 2 ^ min (↑ws.length : Int).toNat 64)).toNat 0 (List.replicate (IntKind.i64.wrap (1 * 2 ^ min (↑ws.length : Int).toNat 64)).toNat [AV.b false])).length then v80a_0_m5 ws da db cs (IntKind.i64.wrap (1 * 2 ^ min (↑ws.length : Int).toNat 64)).toNat 0 (List.replicate (IntKind.i64.wrap (1 * 2 ^ min (↑ws.length : Int).toNat 64)).toNat [AV.b false]) else List.take (IntKind.i64.wrap (1 * 2 ^ min (↑ws.length : Int).toNat 64)).toNat (List.drop 0 (v80a_0_m5 ws da db cs (IntKind.i64.wrap (1 * 2 ^ min (↑ws.length : Int).toNat 64)).toNat 0 (List.replicate (IntKind.i64.wrap (1 * 2 ^ min (↑ws.length : Int).toNat 64)).toNat [AV.b false]))))) (.nn)) (.nn)) (.nn)
noncomputable def g80 (da db : Int) (cs : List (List AV)) (ws : List (List AV)) : Bool := (t80 da db cs ws).g
noncomputable def w80_0 (da db : Int) (cs : List (List AV)) (ws : List (List AV)) : List (List AV) := (t80 da db cs ws).val
theorem eq80 (da db : Int) (cs : List (List AV)) (ws : List (List AV)) : evF Try.prog Sb (ro 80) L80 Try.f80 [.agg [.i .i64 da, .i .i64 db, .rs 64 cs], .rs 3 ws] = (t80 da db cs ws).opt (fun (x : (List (List AV))) => (.rs 4 x : AV)) := by kernel_rfl
theorem con80 (da db : Int) (cs : List (List AV)) (ws : List (List AV)) (h : g80 da db cs ws = true) : Con Try.prog 80 [.agg [.i .i64 da, .i .i64 db, .rs 64 cs], .rs 3 ws] [] (.rs 4 (w80_0 da db cs ws)) [] :=
  con_of Sb_ok mixed Try.func80 (c := c80) rfl (names 80 _ Try.func80) lok80 ((eq80 da db cs ws).trans (Tr.sound _ _ h))
noncomputable def e80 (args : List AV) (rows : List Blk) : Option (Bool × AV × List Blk) := match args, rows with
  | [.agg [.i .i64 da, .i .i64 db, .rs 64 cs], .rs 3 ws], [] => some (g80 da db cs ws, .rs 4 (w80_0 da db cs ws), [])
  | _, _ => none
theorem e80_ok (args : List AV) (rows : List Blk) (pre : Bool) (v : AV) (rows' : List Blk) (h : e80 args rows = some (pre, v, rows')) (hp : pre = true) : Con Try.prog 80 args rows v rows' := by
  unfold e80 at h
  split at h
  · cases h; exact con80 _ _ _ _ hp
  · cases h
-- SPEC 80
end Go.Proofs.Ytgifjphinkbcaaa

set_option maxRecDepth 100000
set_option linter.unusedVariables false
namespace Go.Proofs.Ytgifjphinkbcaaa
open Go Go.Ev

/-! ### strings.IndexFunc -/
noncomputable def c91 : Code := match Try.f91.body with | some c => c | _ => .skip
theorem lok91 : LOK Try.prog Sb (ro 91) (fun _ _ => none) 0 false c91 [] :=
  lok_lo (fun _ _ _ _ _ _ _ h _ => by cases h) c91 [] false (locate_nil _) (by kernel_rfl)
noncomputable def t91 (nm : ByteArray) : Tr ((Int)) :=
  .cn (g94 nm true) (.lf (w94_0 nm true)) (.nn)
noncomputable def g91 (nm : ByteArray) : Bool := (t91 nm).g
noncomputable def w91_0 (nm : ByteArray) : Int := (t91 nm).val
theorem eq91 (nm : ByteArray) : evF Try.prog Sb (ro 91) (fun _ _ => none) Try.f91 [.s nm, .fn 85 []] = (t91 nm).opt (fun (x : (Int)) => (.i .i64 x : AV)) := by kernel_rfl
theorem con91 (nm : ByteArray) (h : g91 nm = true) : Con Try.prog 91 [.s nm, .fn 85 []] [] (.i .i64 (w91_0 nm)) [] :=
  con_of Sb_ok mixed Try.func91 (c := c91) rfl (names 91 _ Try.func91) lok91 ((eq91 nm).trans (Tr.sound _ _ h))
noncomputable def e91 (args : List AV) (rows : List Blk) : Option (Bool × AV × List Blk) := match args, rows with
  | [.s nm, .fn 85 []], [] => some (g91 nm, .i .i64 (w91_0 nm), [])
  | _, _ => none
theorem e91_ok (args : List AV) (rows : List Blk) (pre : Bool) (v : AV) (rows' : List Blk) (h : e91 args rows = some (pre, v, rows')) (hp : pre = true) : Con Try.prog 91 args rows v rows' := by
  unfold e91 at h
  split at h
  · cases h; exact con91 _ hp
  · cases h
-- SPEC 91
end Go.Proofs.Ytgifjphinkbcaaa

set_option maxRecDepth 100000
set_option linter.unusedVariables false
namespace Go.Proofs.Ytgifjphinkbcaaa
open Go Go.Ev

/-! ### ContainsFunc[Cut] -/
noncomputable def c59 : Code := match Try.f59.body with | some c => c | _ => .skip
theorem lok59 : LOK Try.prog Sb (ro 59) (fun _ _ => none) 0 false c59 [] :=
  lok_lo (fun _ _ _ _ _ _ _ h _ => by cases h) c59 [] false (locate_nil _) (by kernel_rfl)
noncomputable def t59 (xs : List (List AV)) (da db : Int) (cs : List (List AV)) : Tr ((Bool)) :=
  .cn (g83 xs da db cs) (.lf (decide (w83_0 xs da db cs ≥ 0))) (.nn)
noncomputable def g59 (xs : List (List AV)) (da db : Int) (cs : List (List AV)) : Bool := (t59 xs da db cs).g
noncomputable def w59_0 (xs : List (List AV)) (da db : Int) (cs : List (List AV)) : Bool := (t59 xs da db cs).val
theorem eq59 (xs : List (List AV)) (da db : Int) (cs : List (List AV)) : evF Try.prog Sb (ro 59) (fun _ _ => none) Try.f59 [.rs 64 xs, .fn 60 [.rp [.int .i64, .int .i64, .sl 64] [.i .i64 da, .i .i64 db, .rs 64 cs] 0]] = (t59 xs da db cs).opt (fun (x : (Bool)) => (.b x : AV)) := by kernel_rfl
theorem con59 (xs : List (List AV)) (da db : Int) (cs : List (List AV)) (h : g59 xs da db cs = true) : Con Try.prog 59 [.rs 64 xs, .fn 60 [.rp [.int .i64, .int .i64, .sl 64] [.i .i64 da, .i .i64 db, .rs 64 cs] 0]] [] (.b (w59_0 xs da db cs)) [] :=
  con_of Sb_ok mixed Try.func59 (c := c59) rfl (names 59 _ Try.func59) lok59 ((eq59 xs da db cs).trans (Tr.sound _ _ h))
noncomputable def e59 (args : List AV) (rows : List Blk) : Option (Bool × AV × List Blk) := match args, rows with
  | [.rs 64 xs, .fn 60 [.rp [.int .i64, .int .i64, .sl 64] [.i .i64 da, .i .i64 db, .rs 64 cs] 0]], [] => some (g59 xs da db cs, .b (w59_0 xs da db cs), [])
  | _, _ => none
theorem e59_ok (args : List AV) (rows : List Blk) (pre : Bool) (v : AV) (rows' : List Blk) (h : e59 args rows = some (pre, v, rows')) (hp : pre = true) : Con Try.prog 59 args rows v rows' := by
  unfold e59 at h
  split at h
  · cases h; exact con59 _ _ _ _ hp
  · cases h
-- SPEC 59
end Go.Proofs.Ytgifjphinkbcaaa

set_option maxRecDepth 100000
set_option linter.unusedVariables false
namespace Go.Proofs.Ytgifjphinkbcaaa
open Go Go.Ev

/-! ### IndexFunc[int] -/
noncomputable def c73 : Code := match Try.f73.body with | some c => c | _ => .skip
noncomputable def lp73a : Code := loopAt c73 [true, false, true, false]
noncomputable def s73a (xs : List (List AV)) (t4 : Int) (t7 : Int) (t8 : Int) : St :=
  { t := [(0, .rs 3 xs), (1, .fn 54 []), (4, .i .i64 t4), (7, .i .i64 t7), (8, .i .i64 t8)], m := [], nx := 0, nt := 19 }
structure S73a where
  t8 : Int
inductive T73a where
  | x0 (t4' : Int) (t8 : Int)
  | x1 (t8 : Int)
noncomputable def stp73a (xs : List (List AV)) (t4 : Int) (t7 : Int) (t8 : Int) : Lp S73a T73a :=
  cond (decide (t8 < t7)) (cond (inb t8 xs.length) (cond (g54 (fI (xs.getD t8.toNat []) 0)) (cond (w54_0 (fI (xs.getD t8.toNat []) 0)) (.out (.x0 t8 t8)) (.go ⟨IntKind.i64.wrap (t8 + 1)⟩)) (.bad)) (.bad)) (.out (.x1 t8))
noncomputable def o73a_0 (xs : List (List AV)) (t4 : Int) (t7 : Int) (t4' : Int) (t8 : Int) : St :=
  { t := [(0, .rs 3 xs), (1, .fn 54 []), (4, .i .i64 t4'), (7, .i .i64 t7), (8, .i .i64 t8)], m := [], nx := 0, nt := 19 }
noncomputable def o73a_1 (xs : List (List AV)) (t4 : Int) (t7 : Int) (t8 : Int) : St :=
  { t := [(0, .rs 3 xs), (1, .fn 54 []), (4, .i .i64 t4), (7, .i .i64 t7), (8, .i .i64 t8)], m := [], nx := 0, nt := 19 }
noncomputable def ou73a (xs : List (List AV)) (t4 : Int) (t7 : Int) : T73a → Ex × St
  | .x0 t4' t8 => (.ret, o73a_0 xs t4 t7 t4' t8)
  | .x1 t8 => (.ext 0, o73a_1 xs t4 t7 t8)
noncomputable def r73a (xs : List (List AV)) (t4 : Int) (t7 : Int) (t8 : Int) : Option T73a := run (fun x => stp73a xs t4 t7 x.t8) (⟨t8⟩ : S73a)
noncomputable def i73a_0 (xs : List (List AV)) (t4 : Int) (t7 : Int) (t8 : Int) : Bool := match r73a xs t4 t7 t8 with
  | some (.x0 _ _) => true
  | _ => false
noncomputable def v73a_0_t4' (xs : List (List AV)) (t4 : Int) (t7 : Int) (t8 : Int) : Int := match r73a xs t4 t7 t8 with
  | some (.x0 t4' _) => t4'
  | _ => default
noncomputable def v73a_0_t8 (xs : List (List AV)) (t4 : Int) (t7 : Int) (t8 : Int) : Int := match r73a xs t4 t7 t8 with
  | some (.x0 _ t8) => t8
  | _ => default
noncomputable def i73a_1 (xs : List (List AV)) (t4 : Int) (t7 : Int) (t8 : Int) : Bool := match r73a xs t4 t7 t8 with
  | some (.x1 _) => true
  | _ => false
noncomputable def v73a_1_t8 (xs : List (List AV)) (t4 : Int) (t7 : Int) (t8 : Int) : Int := match r73a xs t4 t7 t8 with
  | some (.x1 t8) => t8
  | _ => default
noncomputable def l73a (st : St) : Option (List (Bool × Ex × St)) := match normW Try.prog [(0, none), (1, none), (4, none), (7, none), (8, none)] 0 st with
  | some ([.rs 3 xs, .fn 54 [], .i .i64 t4, .i .i64 t7, .i .i64 t8], [], 0, 19) => some [(i73a_0 xs t4 t7 t8, .ret, o73a_0 xs t4 t7 (v73a_0_t4' xs t4 t7 t8) (v73a_0_t8 xs t4 t7 t8)), (i73a_1 xs t4 t7 t8, .ext 0, o73a_1 xs t4 t7 (v73a_1_t8 xs t4 t7 t8))]
  | _ => none
noncomputable def L73 : LSpec := fun p st => match p with
  | [false, true, false, true] => l73a st
  | _ => none
theorem is73a_0 (xs : List (List AV)) (t4 : Int) (t7 : Int) (t8 : Int) (h : i73a_0 xs t4 t7 t8 = true) : r73a xs t4 t7 t8 = some (.x0 (v73a_0_t4' xs t4 t7 t8) (v73a_0_t8 xs t4 t7 t8)) := by
  unfold i73a_0 at h
  unfold v73a_0_t4' v73a_0_t8
  generalize r73a xs t4 t7 t8 = r at h ⊢
  rcases r with _ | y
  · cases h
  · cases y <;> first | rfl | cases h
theorem is73a_1 (xs : List (List AV)) (t4 : Int) (t7 : Int) (t8 : Int) (h : i73a_1 xs t4 t7 t8 = true) : r73a xs t4 t7 t8 = some (.x1 (v73a_1_t8 xs t4 t7 t8)) := by
  unfold i73a_1 at h
  unfold v73a_1_t8
  generalize r73a xs t4 t7 t8 = r at h ⊢
  rcases r with _ | y
  · cases h
  · cases y <;> first | rfl | cases h
theorem round73a (xs : List (List AV)) (t4 : Int) (t7 : Int) (t8 : Int) : round Try.prog Sb (ro 73) L73 lp73a [false, true, false, true] [(0, none), (1, none), (4, none), (7, none), (8, none)] 0 (s73a xs t4 t7 t8) =
    cond (decide (t8 < t7)) (cond (inb t8 xs.length) (cond (g54 (fI (xs.getD t8.toNat []) 0)) (cond (w54_0 (fI (xs.getD t8.toNat []) 0)) (some (.ret, o73a_0 xs t4 t7 t8 t8)) (some (.nrm, s73a xs t4 t7 (IntKind.i64.wrap (t8 + 1))))) (none)) (none)) (some (.ext 0, o73a_1 xs t4 t7 t8)) := by kernel_rfl
theorem rnd73a (xs : List (List AV)) (t4 : Int) (t7 : Int) (x : S73a) : round Try.prog Sb (ro 73) L73 lp73a [false, true, false, true] [(0, none), (1, none), (4, none), (7, none), (8, none)] 0 ((fun x => s73a xs t4 t7 x.t8) x) = toR (fun x => s73a xs t4 t7 x.t8) (ou73a xs t4 t7) (stp73a xs t4 t7 x.t8) := by
  refine (round73a _ _ _ _ ).trans ?_
  unfold stp73a
  simp only [toR_cond]
  rfl
theorem lok73a {st : St} {outs : List (Bool × Ex × St)} {e : Ex} {s : St} (hl : l73a st = some outs) (hch : Chosen outs e s) :
    ∃ keep nb, 0 ≤ nb ∧ LB Try.prog Sb (ro 73) L73 lp73a [false, true, false, true] keep nb st e s := by
  unfold l73a at hl
  split at hl
  · rename_i xs t4 t7 t8 hno
    cases hl
    have hno := normW_norm hno
    refine ⟨_, _, ?_, .enter hno ?_⟩
    · decide
    have main := fun y h => LB_run (x := (⟨t8⟩ : S73a)) (y := y) (nb := 0) (fun y => by cases y <;> simp [ou73a]) (rnd73a xs t4 t7) h
    obtain ⟨x, hx, hg, rfl, rfl⟩ := chosen_any hch
    simp only [List.mem_cons, List.not_mem_nil, or_false] at hx
    rcases hx with rfl | rfl
    · exact main _ (is73a_0 xs t4 t7 t8 hg)
    · exact main _ (is73a_1 xs t4 t7 t8 hg)
  · cases hl
theorem L73_ok (q : Pl) (c : Code) (hq : locate c73 q.reverse = some (.loop c)) (st : St) (outs : List (Bool × Ex × St)) (e : Ex) (s : St) (hl : L73 q st = some outs) (hch : Chosen outs e s) :
    ∃ keep nb, 0 ≤ nb ∧ LB Try.prog Sb (ro 73) L73 c q keep nb st e s := by
  unfold L73 at hl
  split at hl
  · have : locate c73 ([false, true, false, true] : Pl).reverse = some (.loop lp73a) := by kernel_rfl
    rw [this] at hq
    cases hq
    exact lok73a hl hch
  · cases hl
theorem lok73 : LOK Try.prog Sb (ro 73) L73 0 false c73 [] :=
  lok_lo L73_ok c73 [] false (locate_nil _) (by kernel_rfl)
noncomputable def t73 (xs : List (List AV)) : Tr ((Int)) :=
  .cn (i73a_0 xs 0 (↑xs.length : Int) 0) (.lf (v73a_0_t4' xs 0 (↑xs.length : Int) 0)) (.cn (i73a_1 xs 0 (↑xs.length : Int) 0) (.lf (-1)) (.nn))
noncomputable def g73 (xs : List (List AV)) : Bool := (t73 xs).g
noncomputable def w73_0 (xs : List (List AV)) : Int := (t73 xs).val
theorem eq73 (xs : List (List AV)) : evF Try.prog Sb (ro 73) L73 Try.f73 [.rs 3 xs, .fn 54 []] = (t73 xs).opt (fun (x : (Int)) => (.i .i64 x : AV)) := by kernel_rfl
theorem con73 (xs : List (List AV)) (h : g73 xs = true) : Con Try.prog 73 [.rs 3 xs, .fn 54 []] [] (.i .i64 (w73_0 xs)) [] :=
  con_of Sb_ok mixed Try.func73 (c := c73) rfl (names 73 _ Try.func73) lok73 ((eq73 xs).trans (Tr.sound _ _ h))
noncomputable def e73 (args : List AV) (rows : List Blk) : Option (Bool × AV × List Blk) := match args, rows with
  | [.rs 3 xs, .fn 54 []], [] => some (g73 xs, .i .i64 (w73_0 xs), [])
  | _, _ => none
theorem e73_ok (args : List AV) (rows : List Blk) (pre : Bool) (v : AV) (rows' : List Blk) (h : e73 args rows = some (pre, v, rows')) (hp : pre = true) : Con Try.prog 73 args rows v rows' := by
  unfold e73 at h
  split at h
  · cases h; exact con73 _ hp
  · cases h
-- SPEC 73
end Go.Proofs.Ytgifjphinkbcaaa

set_option maxRecDepth 100000
set_option linter.unusedVariables false
namespace Go.Proofs.Ytgifjphinkbcaaa
open Go Go.Ev
noncomputable def Sc : Ev.Spec := insS 73 e73 (insS 59 e59 (insS 91 e91 (Sb)))
theorem Sc_ok : SpecOK Try.prog Sc := insS_ok e73_ok (insS_ok e59_ok (insS_ok e91_ok (Sb_ok)))
end Go.Proofs.Ytgifjphinkbcaaa

set_option maxRecDepth 100000
set_option linter.unusedVariables false
namespace Go.Proofs.Ytgifjphinkbcaaa
open Go Go.Ev

/-! ### strings.ContainsFunc -/
noncomputable def c84 : Code := match Try.f84.body with | some c => c | _ => .skip
theorem lok84 : LOK Try.prog Sc (ro 84) (fun _ _ => none) 0 false c84 [] :=
  lok_lo (fun _ _ _ _ _ _ _ h _ => by cases h) c84 [] false (locate_nil _) (by kernel_rfl)
noncomputable def t84 (nm : ByteArray) : Tr ((Bool)) :=
  .cn (g91 nm) (.lf (decide (w91_0 nm ≥ 0))) (.nn)
noncomputable def g84 (nm : ByteArray) : Bool := (t84 nm).g
noncomputable def w84_0 (nm : ByteArray) : Bool := (t84 nm).val
theorem eq84 (nm : ByteArray) : evF Try.prog Sc (ro 84) (fun _ _ => none) Try.f84 [.s nm, .fn 85 []] = (t84 nm).opt (fun (x : (Bool)) => (.b x : AV)) := by kernel_rfl
theorem con84 (nm : ByteArray) (h : g84 nm = true) : Con Try.prog 84 [.s nm, .fn 85 []] [] (.b (w84_0 nm)) [] :=
  con_of Sc_ok mixed Try.func84 (c := c84) rfl (names 84 _ Try.func84) lok84 ((eq84 nm).trans (Tr.sound _ _ h))
noncomputable def e84 (args : List AV) (rows : List Blk) : Option (Bool × AV × List Blk) := match args, rows with
  | [.s nm, .fn 85 []], [] => some (g84 nm, .b (w84_0 nm), [])
  | _, _ => none
theorem e84_ok (args : List AV) (rows : List Blk) (pre : Bool) (v : AV) (rows' : List Blk) (h : e84 args rows = some (pre, v, rows')) (hp : pre = true) : Con Try.prog 84 args rows v rows' := by
  unfold e84 at h
  split at h
  · cases h; exact con84 _ hp
  · cases h
-- SPEC 84
end Go.Proofs.Ytgifjphinkbcaaa

set_option maxRecDepth 100000
set_option linter.unusedVariables false
namespace Go.Proofs.Ytgifjphinkbcaaa
open Go Go.Ev

/-! ### ContainsFunc[int] -/
noncomputable def c53 : Code := match Try.f53.body with | some c => c | _ => .skip
theorem lok53 : LOK Try.prog Sc (ro 53) (fun _ _ => none) 0 false c53 [] :=
  lok_lo (fun _ _ _ _ _ _ _ h _ => by cases h) c53 [] false (locate_nil _) (by kernel_rfl)
noncomputable def t53 (xs : List (List AV)) : Tr ((Bool)) :=
  .cn (g73 xs) (.lf (decide (w73_0 xs ≥ 0))) (.nn)
noncomputable def g53 (xs : List (List AV)) : Bool := (t53 xs).g
noncomputable def w53_0 (xs : List (List AV)) : Bool := (t53 xs).val
theorem eq53 (xs : List (List AV)) : evF Try.prog Sc (ro 53) (fun _ _ => none) Try.f53 [.rs 3 xs, .fn 54 []] = (t53 xs).opt (fun (x : (Bool)) => (.b x : AV)) := by kernel_rfl
theorem con53 (xs : List (List AV)) (h : g53 xs = true) : Con Try.prog 53 [.rs 3 xs, .fn 54 []] [] (.b (w53_0 xs)) [] :=
  con_of Sc_ok mixed Try.func53 (c := c53) rfl (names 53 _ Try.func53) lok53 ((eq53 xs).trans (Tr.sound _ _ h))
noncomputable def e53 (args : List AV) (rows : List Blk) : Option (Bool × AV × List Blk) := match args, rows with
  | [.rs 3 xs, .fn 54 []], [] => some (g53 xs, .b (w53_0 xs), [])
  | _, _ => none
theorem e53_ok (args : List AV) (rows : List Blk) (pre : Bool) (v : AV) (rows' : List Blk) (h : e53 args rows = some (pre, v, rows')) (hp : pre = true) : Con Try.prog 53 args rows v rows' := by
  unfold e53 at h
  split at h
  · cases h; exact con53 _ hp
  · cases h
-- SPEC 53
end Go.Proofs.Ytgifjphinkbcaaa

set_option maxRecDepth 100000
set_option linter.unusedVariables false
namespace Go.Proofs.Ytgifjphinkbcaaa
open Go Go.Ev

/-! ### ridge.CheckRods -/
noncomputable def c24 : Code := match Try.f24.body with | some c => c | _ => .skip
noncomputable def lp24a : Code := loopAt c24 [true, true, true, false, true, false]
noncomputable def s24a (da : Int) (db : Int) (cs : List (List AV)) (t2 : Int) (t3 : Int) (t23 : List (List AV)) (t24 : Int) (t25 : Int) : St :=
  { t := [(1, .rp [.int .i64, .int .i64, .sl 64] [.i .i64 da, .i .i64 db, .rs 64 cs] 0), (2, .i .i64 t2), (3, .i .i64 t3), (23, .rs 64 t23), (24, .i .i64 t24), (25, .i .i64 t25)], m := [], nx := 0, nt := 52 }
structure S24a where
  t3 : Int
  t25 : Int
inductive T24a where
  | x0 (t2' : Int) (t3 : Int) (t25 : Int)
  | x1 (t3 : Int) (t25 : Int)
noncomputable def stp24a (da : Int) (db : Int) (cs : List (List AV)) (t2 : Int) (t23 : List (List AV)) (t24 : Int) (t3 : Int) (t25 : Int) : Lp S24a T24a :=
  cond (decide (t25 < t24)) (cond (inb t25 t23.length) (cond (g55 (fI (t23.getD t25.toNat []) 0) 1 100000) (cond (!w55_0 (fI (t23.getD t25.toNat []) 0) 1 100000) (.out (.x0 1 t3 t25)) (cond (g55 (fI (t23.getD t25.toNat []) 1) 0 12) (cond (!w55_0 (fI (t23.getD t25.toNat []) 1) 0 12) (.out (.x0 1 t3 t25)) (.go ⟨IntKind.i64.wrap (t3 + fI (t23.getD t25.toNat []) 1), IntKind.i64.wrap (t25 + 1)⟩)) (.bad))) (.bad)) (.bad)) (.out (.x1 t3 t25))
noncomputable def o24a_0 (da : Int) (db : Int) (cs : List (List AV)) (t2 : Int) (t23 : List (List AV)) (t24 : Int) (t2' : Int) (t3 : Int) (t25 : Int) : St :=
  { t := [(1, .rp [.int .i64, .int .i64, .sl 64] [.i .i64 da, .i .i64 db, .rs 64 cs] 0), (2, .i .i64 t2'), (3, .i .i64 t3), (23, .rs 64 t23), (24, .i .i64 t24), (25, .i .i64 t25)], m := [], nx := 0, nt := 52 }
noncomputable def o24a_1 (da : Int) (db : Int) (cs : List (List AV)) (t2 : Int) (t23 : List (List AV)) (t24 : Int) (t3 : Int) (t25 : Int) : St :=
  { t := [(1, .rp [.int .i64, .int .i64, .sl 64] [.i .i64 da, .i .i64 db, .rs 64 cs] 0), (2, .i .i64 t2), (3, .i .i64 t3), (23, .rs 64 t23), (24, .i .i64 t24), (25, .i .i64 t25)], m := [], nx := 0, nt := 52 }
noncomputable def ou24a (da : Int) (db : Int) (cs : List (List AV)) (t2 : Int) (t23 : List (List AV)) (t24 : Int) : T24a → Ex × St
  | .x0 t2' t3 t25 => (.ret, o24a_0 da db cs t2 t23 t24 t2' t3 t25)
  | .x1 t3 t25 => (.ext 1, o24a_1 da db cs t2 t23 t24 t3 t25)
noncomputable def r24a (da : Int) (db : Int) (cs : List (List AV)) (t2 : Int) (t23 : List (List AV)) (t24 : Int) (t3 : Int) (t25 : Int) : Option T24a := run (fun x => stp24a da db cs t2 t23 t24 x.t3 x.t25) (⟨t3, t25⟩ : S24a)
noncomputable def i24a_0 (da : Int) (db : Int) (cs : List (List AV)) (t2 : Int) (t23 : List (List AV)) (t24 : Int) (t3 : Int) (t25 : Int) : Bool := match r24a da db cs t2 t23 t24 t3 t25 with
  | some (.x0 _ _ _) => true
  | _ => false
noncomputable def v24a_0_t2' (da : Int) (db : Int) (cs : List (List AV)) (t2 : Int) (t23 : List (List AV)) (t24 : Int) (t3 : Int) (t25 : Int) : Int := match r24a da db cs t2 t23 t24 t3 t25 with
  | some (.x0 t2' _ _) => t2'
  | _ => default
noncomputable def v24a_0_t3 (da : Int) (db : Int) (cs : List (List AV)) (t2 : Int) (t23 : List (List AV)) (t24 : Int) (t3 : Int) (t25 : Int) : Int := match r24a da db cs t2 t23 t24 t3 t25 with
  | some (.x0 _ t3 _) => t3
  | _ => default
noncomputable def v24a_0_t25 (da : Int) (db : Int) (cs : List (List AV)) (t2 : Int) (t23 : List (List AV)) (t24 : Int) (t3 : Int) (t25 : Int) : Int := match r24a da db cs t2 t23 t24 t3 t25 with
  | some (.x0 _ _ t25) => t25
  | _ => default
noncomputable def i24a_1 (da : Int) (db : Int) (cs : List (List AV)) (t2 : Int) (t23 : List (List AV)) (t24 : Int) (t3 : Int) (t25 : Int) : Bool := match r24a da db cs t2 t23 t24 t3 t25 with
  | some (.x1 _ _) => true
  | _ => false
noncomputable def v24a_1_t3 (da : Int) (db : Int) (cs : List (List AV)) (t2 : Int) (t23 : List (List AV)) (t24 : Int) (t3 : Int) (t25 : Int) : Int := match r24a da db cs t2 t23 t24 t3 t25 with
  | some (.x1 t3 _) => t3
  | _ => default
noncomputable def v24a_1_t25 (da : Int) (db : Int) (cs : List (List AV)) (t2 : Int) (t23 : List (List AV)) (t24 : Int) (t3 : Int) (t25 : Int) : Int := match r24a da db cs t2 t23 t24 t3 t25 with
  | some (.x1 _ t25) => t25
  | _ => default
noncomputable def l24a (st : St) : Option (List (Bool × Ex × St)) := match normW Try.prog [(1, none), (2, none), (3, none), (23, none), (24, none), (25, none)] 0 st with
  | some ([.rp [.int .i64, .int .i64, .sl 64] [.i .i64 da, .i .i64 db, .rs 64 cs] 0, .i .i64 t2, .i .i64 t3, .rs 64 t23, .i .i64 t24, .i .i64 t25], [], 0, 52) => some [(i24a_0 da db cs t2 t23 t24 t3 t25, .ret, o24a_0 da db cs t2 t23 t24 (v24a_0_t2' da db cs t2 t23 t24 t3 t25) (v24a_0_t3 da db cs t2 t23 t24 t3 t25) (v24a_0_t25 da db cs t2 t23 t24 t3 t25)), (i24a_1 da db cs t2 t23 t24 t3 t25, .ext 1, o24a_1 da db cs t2 t23 t24 (v24a_1_t3 da db cs t2 t23 t24 t3 t25) (v24a_1_t25 da db cs t2 t23 t24 t3 t25))]
  | _ => none
noncomputable def L24 : LSpec := fun p st => match p with
  | [false, true, false, true, true, true] => l24a st
  | _ => none
theorem is24a_0 (da : Int) (db : Int) (cs : List (List AV)) (t2 : Int) (t23 : List (List AV)) (t24 : Int) (t3 : Int) (t25 : Int) (h : i24a_0 da db cs t2 t23 t24 t3 t25 = true) : r24a da db cs t2 t23 t24 t3 t25 = some (.x0 (v24a_0_t2' da db cs t2 t23 t24 t3 t25) (v24a_0_t3 da db cs t2 t23 t24 t3 t25) (v24a_0_t25 da db cs t2 t23 t24 t3 t25)) := by
  unfold i24a_0 at h
  unfold v24a_0_t2' v24a_0_t3 v24a_0_t25
  generalize r24a da db cs t2 t23 t24 t3 t25 = r at h ⊢
  rcases r with _ | y
  · cases h
  · cases y <;> first | rfl | cases h
theorem is24a_1 (da : Int) (db : Int) (cs : List (List AV)) (t2 : Int) (t23 : List (List AV)) (t24 : Int) (t3 : Int) (t25 : Int) (h : i24a_1 da db cs t2 t23 t24 t3 t25 = true) : r24a da db cs t2 t23 t24 t3 t25 = some (.x1 (v24a_1_t3 da db cs t2 t23 t24 t3 t25) (v24a_1_t25 da db cs t2 t23 t24 t3 t25)) := by
  unfold i24a_1 at h
  unfold v24a_1_t3 v24a_1_t25
  generalize r24a da db cs t2 t23 t24 t3 t25 = r at h ⊢
  rcases r with _ | y
  · cases h
  · cases y <;> first | rfl | cases h
theorem round24a (da : Int) (db : Int) (cs : List (List AV)) (t2 : Int) (t3 : Int) (t23 : List (List AV)) (t24 : Int) (t25 : Int) : round Try.prog Sc (ro 24) L24 lp24a [false, true, false, true, true, true] [(1, none), (2, none), (3, none), (23, none), (24, none), (25, none)] 0 (s24a da db cs t2 t3 t23 t24 t25) =
    cond (decide (t25 < t24)) (cond (inb t25 t23.length) (cond (g55 (fI (t23.getD t25.toNat []) 0) 1 100000) (cond (!w55_0 (fI (t23.getD t25.toNat []) 0) 1 100000) (some (.ret, o24a_0 da db cs t2 t23 t24 1 t3 t25)) (cond (g55 (fI (t23.getD t25.toNat []) 1) 0 12) (cond (!w55_0 (fI (t23.getD t25.toNat []) 1) 0 12) (some (.ret, o24a_0 da db cs t2 t23 t24 1 t3 t25)) (some (.nrm, s24a da db cs t2 (IntKind.i64.wrap (t3 + fI (t23.getD t25.toNat []) 1)) t23 t24 (IntKind.i64.wrap (t25 + 1))))) (none))) (none)) (none)) (some (.ext 1, o24a_1 da db cs t2 t23 t24 t3 t25)) := by kernel_rfl
theorem rnd24a (da : Int) (db : Int) (cs : List (List AV)) (t2 : Int) (t23 : List (List AV)) (t24 : Int) (x : S24a) : round Try.prog Sc (ro 24) L24 lp24a [false, true, false, true, true, true] [(1, none), (2, none), (3, none), (23, none), (24, none), (25, none)] 0 ((fun x => s24a da db cs t2 x.t3 t23 t24 x.t25) x) = toR (fun x => s24a da db cs t2 x.t3 t23 t24 x.t25) (ou24a da db cs t2 t23 t24) (stp24a da db cs t2 t23 t24 x.t3 x.t25) := by
  refine (round24a _ _ _ _ _ _ _ _ ).trans ?_
  unfold stp24a
  simp only [toR_cond]
  rfl
theorem lok24a {st : St} {outs : List (Bool × Ex × St)} {e : Ex} {s : St} (hl : l24a st = some outs) (hch : Chosen outs e s) :
    ∃ keep nb, 0 ≤ nb ∧ LB Try.prog Sc (ro 24) L24 lp24a [false, true, false, true, true, true] keep nb st e s := by
  unfold l24a at hl
  split at hl
  · rename_i da db cs t2 t3 t23 t24 t25 hno
    cases hl
    have hno := normW_norm hno
    refine ⟨_, _, ?_, .enter hno ?_⟩
    · decide
    have main := fun y h => LB_run (x := (⟨t3, t25⟩ : S24a)) (y := y) (nb := 0) (fun y => by cases y <;> simp [ou24a]) (rnd24a da db cs t2 t23 t24) h
    obtain ⟨x, hx, hg, rfl, rfl⟩ := chosen_any hch
    simp only [List.mem_cons, List.not_mem_nil, or_false] at hx
    rcases hx with rfl | rfl
    · exact main _ (is24a_0 da db cs t2 t23 t24 t3 t25 hg)
    · exact main _ (is24a_1 da db cs t2 t23 t24 t3 t25 hg)
  · cases hl
theorem L24_ok (q : Pl) (c : Code) (hq : locate c24 q.reverse = some (.loop c)) (st : St) (outs : List (Bool × Ex × St)) (e : Ex) (s : St) (hl : L24 q st = some outs) (hch : Chosen outs e s) :
    ∃ keep nb, 0 ≤ nb ∧ LB Try.prog Sc (ro 24) L24 c q keep nb st e s := by
  unfold L24 at hl
  split at hl
  · have : locate c24 ([false, true, false, true, true, true] : Pl).reverse = some (.loop lp24a) := by kernel_rfl
    rw [this] at hq
    cases hq
    exact lok24a hl hch
  · cases hl
theorem lok24 : LOK Try.prog Sc (ro 24) L24 0 false c24 [] :=
  lok_lo L24_ok c24 [] false (locate_nil _) (by kernel_rfl)
noncomputable def t24 (da db : Int) (cs : List (List AV)) : Tr ((Int)) :=
  .cn (g55 da 1 100000) (.cn (!w55_0 da 1 100000) (.lf (1)) (.cn (g55 db 0 100000) (.cn (!w55_0 db 0 100000) (.lf (1)) (.cn (decide ((↑cs.length : Int) > 8)) (.lf (3)) (.cn (i24a_0 da db cs 0 cs (↑cs.length : Int) 0 0) (.lf (v24a_0_t2' da db cs 0 cs (↑cs.length : Int) 0 0)) (.cn (i24a_1 da db cs 0 cs (↑cs.length : Int) 0 0) (.cn (decide (v24a_1_t3 da db cs 0 cs (↑cs.length : Int) 0 0 > 12)) (.lf (3)) (.cn (g59 cs da db cs) (.cn (w59_0 cs da db cs) (.lf (9)) (.lf (0))) (.nn))) (.nn))))) (.nn))) (.nn)
noncomputable def g24 (da db : Int) (cs : List (List AV)) : Bool := (t24 da db cs).g
noncomputable def w24_0 (da db : Int) (cs : List (List AV)) : Int := (t24 da db cs).val
theorem eq24 (da db : Int) (cs : List (List AV)) : evF Try.prog Sc (ro 24) L24 Try.f24 [.agg [.i .i64 da, .i .i64 db, .rs 64 cs]] = (t24 da db cs).opt (fun (x : (Int)) => (.i .i64 x : AV)) := by kernel_rfl
theorem con24 (da db : Int) (cs : List (List AV)) (h : g24 da db cs = true) : Con Try.prog 24 [.agg [.i .i64 da, .i .i64 db, .rs 64 cs]] [] (.i .i64 (w24_0 da db cs)) [] :=
  con_of Sc_ok mixed Try.func24 (c := c24) rfl (names 24 _ Try.func24) lok24 ((eq24 da db cs).trans (Tr.sound _ _ h))
noncomputable def e24 (args : List AV) (rows : List Blk) : Option (Bool × AV × List Blk) := match args, rows with
  | [.agg [.i .i64 da, .i .i64 db, .rs 64 cs]], [] => some (g24 da db cs, .i .i64 (w24_0 da db cs), [])
  | _, _ => none
theorem e24_ok (args : List AV) (rows : List Blk) (pre : Bool) (v : AV) (rows' : List Blk) (h : e24 args rows = some (pre, v, rows')) (hp : pre = true) : Con Try.prog 24 args rows v rows' := by
  unfold e24 at h
  split at h
  · cases h; exact con24 _ _ _ hp
  · cases h
-- SPEC 24
end Go.Proofs.Ytgifjphinkbcaaa

set_option maxRecDepth 100000
set_option linter.unusedVariables false
namespace Go.Proofs.Ytgifjphinkbcaaa
open Go Go.Ev

/-! ### ref.CheckRods -/
noncomputable def c25 : Code := match Try.f25.body with | some c => c | _ => .skip
noncomputable def lp25a : Code := loopAt c25 [true, true, true, true, false, true, false]
noncomputable def s25a (da : Int) (db : Int) (cs : List (List AV)) (t2 : Int) (t3 : Int) (t4 : Int) : St :=
  { t := [(1, .rp [.int .i64, .int .i64, .sl 64] [.i .i64 da, .i .i64 db, .rs 64 cs] 0), (2, .i .i64 t2), (3, .i .i64 t3), (4, .i .i64 t4)], m := [], nx := 0, nt := 71 }
structure S25a where
  t3 : Int
  t4 : Int
inductive T25a where
  | x0 (t2' : Int) (t3 : Int) (t4 : Int)
  | x1 (t3 : Int) (t4 : Int)
noncomputable def stp25a (da : Int) (db : Int) (cs : List (List AV)) (t2 : Int) (t3 : Int) (t4 : Int) : Lp S25a T25a :=
  cond (decide (t4 < (↑cs.length : Int))) (cond (inb t4 cs.length) (cond (g57 (fI (cs.getD t4.toNat []) 0) 1 100000) (cond (!w57_0 (fI (cs.getD t4.toNat []) 0) 1 100000) (.out (.x0 1 t3 t4)) (cond (inb t4 cs.length) (cond (g57 (fI (cs.getD t4.toNat []) 1) 0 12) (cond (!w57_0 (fI (cs.getD t4.toNat []) 1) 0 12) (.out (.x0 1 t3 t4)) (cond (inb t4 cs.length) (.go ⟨IntKind.i64.wrap (t3 + fI (cs.getD t4.toNat []) 1), IntKind.i64.wrap (t4 + 1)⟩) (.bad))) (.bad)) (.bad))) (.bad)) (.bad)) (.out (.x1 t3 t4))
noncomputable def o25a_0 (da : Int) (db : Int) (cs : List (List AV)) (t2 : Int) (t2' : Int) (t3 : Int) (t4 : Int) : St :=
  { t := [(1, .rp [.int .i64, .int .i64, .sl 64] [.i .i64 da, .i .i64 db, .rs 64 cs] 0), (2, .i .i64 t2'), (3, .i .i64 t3), (4, .i .i64 t4)], m := [], nx := 0, nt := 71 }
noncomputable def o25a_1 (da : Int) (db : Int) (cs : List (List AV)) (t2 : Int) (t3 : Int) (t4 : Int) : St :=
  { t := [(1, .rp [.int .i64, .int .i64, .sl 64] [.i .i64 da, .i .i64 db, .rs 64 cs] 0), (2, .i .i64 t2), (3, .i .i64 t3), (4, .i .i64 t4)], m := [], nx := 0, nt := 71 }
noncomputable def ou25a (da : Int) (db : Int) (cs : List (List AV)) (t2 : Int) : T25a → Ex × St
  | .x0 t2' t3 t4 => (.ret, o25a_0 da db cs t2 t2' t3 t4)
  | .x1 t3 t4 => (.ext 0, o25a_1 da db cs t2 t3 t4)
noncomputable def r25a (da : Int) (db : Int) (cs : List (List AV)) (t2 : Int) (t3 : Int) (t4 : Int) : Option T25a := run (fun x => stp25a da db cs t2 x.t3 x.t4) (⟨t3, t4⟩ : S25a)
noncomputable def i25a_0 (da : Int) (db : Int) (cs : List (List AV)) (t2 : Int) (t3 : Int) (t4 : Int) : Bool := match r25a da db cs t2 t3 t4 with
  | some (.x0 _ _ _) => true
  | _ => false
noncomputable def v25a_0_t2' (da : Int) (db : Int) (cs : List (List AV)) (t2 : Int) (t3 : Int) (t4 : Int) : Int := match r25a da db cs t2 t3 t4 with
  | some (.x0 t2' _ _) => t2'
  | _ => default
noncomputable def v25a_0_t3 (da : Int) (db : Int) (cs : List (List AV)) (t2 : Int) (t3 : Int) (t4 : Int) : Int := match r25a da db cs t2 t3 t4 with
  | some (.x0 _ t3 _) => t3
  | _ => default
noncomputable def v25a_0_t4 (da : Int) (db : Int) (cs : List (List AV)) (t2 : Int) (t3 : Int) (t4 : Int) : Int := match r25a da db cs t2 t3 t4 with
  | some (.x0 _ _ t4) => t4
  | _ => default
noncomputable def i25a_1 (da : Int) (db : Int) (cs : List (List AV)) (t2 : Int) (t3 : Int) (t4 : Int) : Bool := match r25a da db cs t2 t3 t4 with
  | some (.x1 _ _) => true
  | _ => false
noncomputable def v25a_1_t3 (da : Int) (db : Int) (cs : List (List AV)) (t2 : Int) (t3 : Int) (t4 : Int) : Int := match r25a da db cs t2 t3 t4 with
  | some (.x1 t3 _) => t3
  | _ => default
noncomputable def v25a_1_t4 (da : Int) (db : Int) (cs : List (List AV)) (t2 : Int) (t3 : Int) (t4 : Int) : Int := match r25a da db cs t2 t3 t4 with
  | some (.x1 _ t4) => t4
  | _ => default
noncomputable def l25a (st : St) : Option (List (Bool × Ex × St)) := match normW Try.prog [(1, none), (2, none), (3, none), (4, none)] 0 st with
  | some ([.rp [.int .i64, .int .i64, .sl 64] [.i .i64 da, .i .i64 db, .rs 64 cs] 0, .i .i64 t2, .i .i64 t3, .i .i64 t4], [], 0, 71) => some [(i25a_0 da db cs t2 t3 t4, .ret, o25a_0 da db cs t2 (v25a_0_t2' da db cs t2 t3 t4) (v25a_0_t3 da db cs t2 t3 t4) (v25a_0_t4 da db cs t2 t3 t4)), (i25a_1 da db cs t2 t3 t4, .ext 0, o25a_1 da db cs t2 (v25a_1_t3 da db cs t2 t3 t4) (v25a_1_t4 da db cs t2 t3 t4))]
  | _ => none
noncomputable def lp25b : Code := loopAt c25 [true, true, true, true, true, true, false, true, false]
noncomputable def s25b (da : Int) (db : Int) (cs : List (List AV)) (t2 : Int) (t5 : Int) : St :=
  { t := [(1, .rp [.int .i64, .int .i64, .sl 64] [.i .i64 da, .i .i64 db, .rs 64 cs] 0), (2, .i .i64 t2), (5, .i .i64 t5)], m := [], nx := 0, nt := 71 }
structure S25b where
  t5 : Int
inductive T25b where
  | x0 (t2' : Int) (t5 : Int)
  | x1 (t5 : Int)
noncomputable def stp25b (da : Int) (db : Int) (cs : List (List AV)) (t2 : Int) (t5 : Int) : Lp S25b T25b :=
  cond (decide (t5 < (↑cs.length : Int))) (cond (inb t5 cs.length) (cond (decide (fI (cs.getD t5.toNat []) 0 > da)) (.out (.x0 9 t5)) (.go ⟨IntKind.i64.wrap (t5 + 1)⟩)) (.bad)) (.out (.x1 t5))
noncomputable def o25b_0 (da : Int) (db : Int) (cs : List (List AV)) (t2 : Int) (t2' : Int) (t5 : Int) : St :=
  { t := [(1, .rp [.int .i64, .int .i64, .sl 64] [.i .i64 da, .i .i64 db, .rs 64 cs] 0), (2, .i .i64 t2'), (5, .i .i64 t5)], m := [], nx := 0, nt := 71 }
noncomputable def o25b_1 (da : Int) (db : Int) (cs : List (List AV)) (t2 : Int) (t5 : Int) : St :=
  { t := [(1, .rp [.int .i64, .int .i64, .sl 64] [.i .i64 da, .i .i64 db, .rs 64 cs] 0), (2, .i .i64 t2), (5, .i .i64 t5)], m := [], nx := 0, nt := 71 }
noncomputable def ou25b (da : Int) (db : Int) (cs : List (List AV)) (t2 : Int) : T25b → Ex × St
  | .x0 t2' t5 => (.ret, o25b_0 da db cs t2 t2' t5)
  | .x1 t5 => (.ext 2, o25b_1 da db cs t2 t5)
noncomputable def r25b (da : Int) (db : Int) (cs : List (List AV)) (t2 : Int) (t5 : Int) : Option T25b := run (fun x => stp25b da db cs t2 x.t5) (⟨t5⟩ : S25b)
noncomputable def i25b_0 (da : Int) (db : Int) (cs : List (List AV)) (t2 : Int) (t5 : Int) : Bool := match r25b da db cs t2 t5 with
  | some (.x0 _ _) => true
  | _ => false
noncomputable def v25b_0_t2' (da : Int) (db : Int) (cs : List (List AV)) (t2 : Int) (t5 : Int) : Int := match r25b da db cs t2 t5 with
  | some (.x0 t2' _) => t2'
  | _ => default
noncomputable def v25b_0_t5 (da : Int) (db : Int) (cs : List (List AV)) (t2 : Int) (t5 : Int) : Int := match r25b da db cs t2 t5 with
  | some (.x0 _ t5) => t5
  | _ => default
noncomputable def i25b_1 (da : Int) (db : Int) (cs : List (List AV)) (t2 : Int) (t5 : Int) : Bool := match r25b da db cs t2 t5 with
  | some (.x1 _) => true
  | _ => false
noncomputable def v25b_1_t5 (da : Int) (db : Int) (cs : List (List AV)) (t2 : Int) (t5 : Int) : Int := match r25b da db cs t2 t5 with
  | some (.x1 t5) => t5
  | _ => default
noncomputable def l25b (st : St) : Option (List (Bool × Ex × St)) := match normW Try.prog [(1, none), (2, none), (5, none)] 0 st with
  | some ([.rp [.int .i64, .int .i64, .sl 64] [.i .i64 da, .i .i64 db, .rs 64 cs] 0, .i .i64 t2, .i .i64 t5], [], 0, 71) => some [(i25b_0 da db cs t2 t5, .ret, o25b_0 da db cs t2 (v25b_0_t2' da db cs t2 t5) (v25b_0_t5 da db cs t2 t5)), (i25b_1 da db cs t2 t5, .ext 2, o25b_1 da db cs t2 (v25b_1_t5 da db cs t2 t5))]
  | _ => none
noncomputable def L25 : LSpec := fun p st => match p with
  | [false, true, false, true, true, true, true] => l25a st
  | [false, true, false, true, true, true, true, true, true] => l25b st
  | _ => none
theorem is25a_0 (da : Int) (db : Int) (cs : List (List AV)) (t2 : Int) (t3 : Int) (t4 : Int) (h : i25a_0 da db cs t2 t3 t4 = true) : r25a da db cs t2 t3 t4 = some (.x0 (v25a_0_t2' da db cs t2 t3 t4) (v25a_0_t3 da db cs t2 t3 t4) (v25a_0_t4 da db cs t2 t3 t4)) := by
  unfold i25a_0 at h
  unfold v25a_0_t2' v25a_0_t3 v25a_0_t4
  generalize r25a da db cs t2 t3 t4 = r at h ⊢
  rcases r with _ | y
  · cases h
  · cases y <;> first | rfl | cases h
theorem is25a_1 (da : Int) (db : Int) (cs : List (List AV)) (t2 : Int) (t3 : Int) (t4 : Int) (h : i25a_1 da db cs t2 t3 t4 = true) : r25a da db cs t2 t3 t4 = some (.x1 (v25a_1_t3 da db cs t2 t3 t4) (v25a_1_t4 da db cs t2 t3 t4)) := by
  unfold i25a_1 at h
  unfold v25a_1_t3 v25a_1_t4
  generalize r25a da db cs t2 t3 t4 = r at h ⊢
  rcases r with _ | y
  · cases h
  · cases y <;> first | rfl | cases h
theorem round25a (da : Int) (db : Int) (cs : List (List AV)) (t2 : Int) (t3 : Int) (t4 : Int) : round Try.prog Sc (ro 25) L25 lp25a [false, true, false, true, true, true, true] [(1, none), (2, none), (3, none), (4, none)] 0 (s25a da db cs t2 t3 t4) =
    cond (decide (t4 < (↑cs.length : Int))) (cond (inb t4 cs.length) (cond (g57 (fI (cs.getD t4.toNat []) 0) 1 100000) (cond (!w57_0 (fI (cs.getD t4.toNat []) 0) 1 100000) (some (.ret, o25a_0 da db cs t2 1 t3 t4)) (cond (inb t4 cs.length) (cond (g57 (fI (cs.getD t4.toNat []) 1) 0 12) (cond (!w57_0 (fI (cs.getD t4.toNat []) 1) 0 12) (some (.ret, o25a_0 da db cs t2 1 t3 t4)) (cond (inb t4 cs.length) (some (.nrm, s25a da db cs t2 (IntKind.i64.wrap (t3 + fI (cs.getD t4.toNat []) 1)) (IntKind.i64.wrap (t4 + 1)))) (none))) (none)) (none))) (none)) (none)) (some (.ext 0, o25a_1 da db cs t2 t3 t4)) := by kernel_rfl
theorem rnd25a (da : Int) (db : Int) (cs : List (List AV)) (t2 : Int) (x : S25a) : round Try.prog Sc (ro 25) L25 lp25a [false, true, false, true, true, true, true] [(1, none), (2, none), (3, none), (4, none)] 0 ((fun x => s25a da db cs t2 x.t3 x.t4) x) = toR (fun x => s25a da db cs t2 x.t3 x.t4) (ou25a da db cs t2) (stp25a da db cs t2 x.t3 x.t4) := by
  refine (round25a _ _ _ _ _ _ ).trans ?_
  unfold stp25a
  simp only [toR_cond]
  rfl
theorem lok25a {st : St} {outs : List (Bool × Ex × St)} {e : Ex} {s : St} (hl : l25a st = some outs) (hch : Chosen outs e s) :
    ∃ keep nb, 0 ≤ nb ∧ LB Try.prog Sc (ro 25) L25 lp25a [false, true, false, true, true, true, true] keep nb st e s := by
  unfold l25a at hl
  split at hl
  · rename_i da db cs t2 t3 t4 hno
    cases hl
    have hno := normW_norm hno
    refine ⟨_, _, ?_, .enter hno ?_⟩
    · decide
    have main := fun y h => LB_run (x := (⟨t3, t4⟩ : S25a)) (y := y) (nb := 0) (fun y => by cases y <;> simp [ou25a]) (rnd25a da db cs t2) h
    obtain ⟨x, hx, hg, rfl, rfl⟩ := chosen_any hch
    simp only [List.mem_cons, List.not_mem_nil, or_false] at hx
    rcases hx with rfl | rfl
    · exact main _ (is25a_0 da db cs t2 t3 t4 hg)
    · exact main _ (is25a_1 da db cs t2 t3 t4 hg)
  · cases hl
theorem is25b_0 (da : Int) (db : Int) (cs : List (List AV)) (t2 : Int) (t5 : Int) (h : i25b_0 da db cs t2 t5 = true) : r25b da db cs t2 t5 = some (.x0 (v25b_0_t2' da db cs t2 t5) (v25b_0_t5 da db cs t2 t5)) := by
  unfold i25b_0 at h
  unfold v25b_0_t2' v25b_0_t5
  generalize r25b da db cs t2 t5 = r at h ⊢
  rcases r with _ | y
  · cases h
  · cases y <;> first | rfl | cases h
theorem is25b_1 (da : Int) (db : Int) (cs : List (List AV)) (t2 : Int) (t5 : Int) (h : i25b_1 da db cs t2 t5 = true) : r25b da db cs t2 t5 = some (.x1 (v25b_1_t5 da db cs t2 t5)) := by
  unfold i25b_1 at h
  unfold v25b_1_t5
  generalize r25b da db cs t2 t5 = r at h ⊢
  rcases r with _ | y
  · cases h
  · cases y <;> first | rfl | cases h
theorem round25b (da : Int) (db : Int) (cs : List (List AV)) (t2 : Int) (t5 : Int) : round Try.prog Sc (ro 25) L25 lp25b [false, true, false, true, true, true, true, true, true] [(1, none), (2, none), (5, none)] 0 (s25b da db cs t2 t5) =
    cond (decide (t5 < (↑cs.length : Int))) (cond (inb t5 cs.length) (cond (decide (fI (cs.getD t5.toNat []) 0 > da)) (some (.ret, o25b_0 da db cs t2 9 t5)) (some (.nrm, s25b da db cs t2 (IntKind.i64.wrap (t5 + 1))))) (none)) (some (.ext 2, o25b_1 da db cs t2 t5)) := by kernel_rfl
theorem rnd25b (da : Int) (db : Int) (cs : List (List AV)) (t2 : Int) (x : S25b) : round Try.prog Sc (ro 25) L25 lp25b [false, true, false, true, true, true, true, true, true] [(1, none), (2, none), (5, none)] 0 ((fun x => s25b da db cs t2 x.t5) x) = toR (fun x => s25b da db cs t2 x.t5) (ou25b da db cs t2) (stp25b da db cs t2 x.t5) := by
  refine (round25b _ _ _ _ _ ).trans ?_
  unfold stp25b
  simp only [toR_cond]
  rfl
theorem lok25b {st : St} {outs : List (Bool × Ex × St)} {e : Ex} {s : St} (hl : l25b st = some outs) (hch : Chosen outs e s) :
    ∃ keep nb, 0 ≤ nb ∧ LB Try.prog Sc (ro 25) L25 lp25b [false, true, false, true, true, true, true, true, true] keep nb st e s := by
  unfold l25b at hl
  split at hl
  · rename_i da db cs t2 t5 hno
    cases hl
    have hno := normW_norm hno
    refine ⟨_, _, ?_, .enter hno ?_⟩
    · decide
    have main := fun y h => LB_run (x := (⟨t5⟩ : S25b)) (y := y) (nb := 0) (fun y => by cases y <;> simp [ou25b]) (rnd25b da db cs t2) h
    obtain ⟨x, hx, hg, rfl, rfl⟩ := chosen_any hch
    simp only [List.mem_cons, List.not_mem_nil, or_false] at hx
    rcases hx with rfl | rfl
    · exact main _ (is25b_0 da db cs t2 t5 hg)
    · exact main _ (is25b_1 da db cs t2 t5 hg)
  · cases hl
theorem L25_ok (q : Pl) (c : Code) (hq : locate c25 q.reverse = some (.loop c)) (st : St) (outs : List (Bool × Ex × St)) (e : Ex) (s : St) (hl : L25 q st = some outs) (hch : Chosen outs e s) :
    ∃ keep nb, 0 ≤ nb ∧ LB Try.prog Sc (ro 25) L25 c q keep nb st e s := by
  unfold L25 at hl
  split at hl
  · have : locate c25 ([false, true, false, true, true, true, true] : Pl).reverse = some (.loop lp25a) := by kernel_rfl
    rw [this] at hq
    cases hq
    exact lok25a hl hch
  · have : locate c25 ([false, true, false, true, true, true, true, true, true] : Pl).reverse = some (.loop lp25b) := by kernel_rfl
    rw [this] at hq
    cases hq
    exact lok25b hl hch
  · cases hl
theorem lok25 : LOK Try.prog Sc (ro 25) L25 0 false c25 [] :=
  lok_lo L25_ok c25 [] false (locate_nil _) (by kernel_rfl)
noncomputable def t25 (da db : Int) (cs : List (List AV)) : Tr ((Int)) :=
  .cn (g57 da 1 100000) (.cn (!w57_0 da 1 100000) (.lf (1)) (.cn (g57 db 0 100000) (.cn (!w57_0 db 0 100000) (.lf (1)) (.cn (decide ((↑cs.length : Int) > 8)) (.lf (3)) (.cn (i25a_0 da db cs 0 0 0) (.lf (v25a_0_t2' da db cs 0 0 0)) (.cn (i25a_1 da db cs 0 0 0) (.cn (decide (v25a_1_t3 da db cs 0 0 0 > 12)) (.lf (3)) (.cn (i25b_0 da db cs 0 0) (.lf (v25b_0_t2' da db cs 0 0)) (.cn (i25b_1 da db cs 0 0) (.lf (0)) (.nn)))) (.nn))))) (.nn))) (.nn)
noncomputable def g25 (da db : Int) (cs : List (List AV)) : Bool := (t25 da db cs).g
noncomputable def w25_0 (da db : Int) (cs : List (List AV)) : Int := (t25 da db cs).val
theorem eq25 (da db : Int) (cs : List (List AV)) : evF Try.prog Sc (ro 25) L25 Try.f25 [.agg [.i .i64 da, .i .i64 db, .rs 64 cs]] = (t25 da db cs).opt (fun (x : (Int)) => (.i .i64 x : AV)) := by kernel_rfl
theorem con25 (da db : Int) (cs : List (List AV)) (h : g25 da db cs = true) : Con Try.prog 25 [.agg [.i .i64 da, .i .i64 db, .rs 64 cs]] [] (.i .i64 (w25_0 da db cs)) [] :=
  con_of Sc_ok mixed Try.func25 (c := c25) rfl (names 25 _ Try.func25) lok25 ((eq25 da db cs).trans (Tr.sound _ _ h))
noncomputable def e25 (args : List AV) (rows : List Blk) : Option (Bool × AV × List Blk) := match args, rows with
  | [.agg [.i .i64 da, .i .i64 db, .rs 64 cs]], [] => some (g25 da db cs, .i .i64 (w25_0 da db cs), [])
  | _, _ => none
theorem e25_ok (args : List AV) (rows : List Blk) (pre : Bool) (v : AV) (rows' : List Blk) (h : e25 args rows = some (pre, v, rows')) (hp : pre = true) : Con Try.prog 25 args rows v rows' := by
  unfold e25 at h
  split at h
  · cases h; exact con25 _ _ _ hp
  · cases h
-- SPEC 25
end Go.Proofs.Ytgifjphinkbcaaa

set_option maxRecDepth 100000
set_option linter.unusedVariables false
namespace Go.Proofs.Ytgifjphinkbcaaa
open Go Go.Ev
noncomputable def Sd : Ev.Spec := insS 25 e25 (insS 24 e24 (insS 53 e53 (insS 84 e84 (insS 80 e80 (Sc)))))
theorem Sd_ok : SpecOK Try.prog Sd := insS_ok e25_ok (insS_ok e24_ok (insS_ok e53_ok (insS_ok e84_ok (insS_ok e80_ok (Sc_ok)))))
end Go.Proofs.Ytgifjphinkbcaaa

set_option maxRecDepth 100000
set_option linter.unusedVariables false
namespace Go.Proofs.Ytgifjphinkbcaaa
open Go Go.Ev

/-! ### isName -/
noncomputable def c61 : Code := match Try.f61.body with | some c => c | _ => .skip
theorem lok61 : LOK Try.prog Sd (ro 61) (fun _ _ => none) 0 false c61 [] :=
  lok_lo (fun _ _ _ _ _ _ _ h _ => by cases h) c61 [] false (locate_nil _) (by kernel_rfl)
noncomputable def t61 (nm : ByteArray) : Tr ((Bool)) :=
  .cn (nm.toList == (⟨#[]⟩ : ByteArray).toList) (.lf (false)) (.cn (decide ((↑nm.size : Int) > 16)) (.lf (false)) (.cn (inb 0 nm.size) (.cn (decide ((↑(nm.data.toList.getD 0 0).toNat : Int) < 97)) (.lf (false)) (.cn (inb 0 nm.size) (.cn (decide ((↑(nm.data.toList.getD 0 0).toNat : Int) > 122)) (.lf (false)) (.cn (g84 nm) (.lf (!w84_0 nm)) (.nn))) (.nn))) (.nn)))
noncomputable def g61 (nm : ByteArray) : Bool := (t61 nm).g
noncomputable def w61_0 (nm : ByteArray) : Bool := (t61 nm).val
theorem eq61 (nm : ByteArray) : evF Try.prog Sd (ro 61) (fun _ _ => none) Try.f61 [.s nm] = (t61 nm).opt (fun (x : (Bool)) => (.b x : AV)) := by kernel_rfl
theorem con61 (nm : ByteArray) (h : g61 nm = true) : Con Try.prog 61 [.s nm] [] (.b (w61_0 nm)) [] :=
  con_of Sd_ok mixed Try.func61 (c := c61) rfl (names 61 _ Try.func61) lok61 ((eq61 nm).trans (Tr.sound _ _ h))
noncomputable def e61 (args : List AV) (rows : List Blk) : Option (Bool × AV × List Blk) := match args, rows with
  | [.s nm], [] => some (g61 nm, .b (w61_0 nm), [])
  | _, _ => none
theorem e61_ok (args : List AV) (rows : List Blk) (pre : Bool) (v : AV) (rows' : List Blk) (h : e61 args rows = some (pre, v, rows')) (hp : pre = true) : Con Try.prog 61 args rows v rows' := by
  unfold e61 at h
  split at h
  · cases h; exact con61 _ hp
  · cases h
-- SPEC 61
end Go.Proofs.Ytgifjphinkbcaaa

set_option maxRecDepth 100000
set_option linter.unusedVariables false
namespace Go.Proofs.Ytgifjphinkbcaaa
open Go Go.Ev

/-! ### ref01.Name -/
noncomputable def c66 : Code := match Try.f66.body with | some c => c | _ => .skip
noncomputable def lp66a : Code := loopAt c66 [true, true, false, true, false]
noncomputable def s66a (nm : ByteArray) (t2 : Bool) (t3 : Int) : St :=
  { t := [(0, .s nm), (2, .b t2), (3, .i .i64 t3)], m := [], nx := 0, nt := 46 }
structure S66a where
  t3 : Int
inductive T66a where
  | x0 (t2' : Bool) (t3 : Int)
  | x1 (t3 : Int)
noncomputable def stp66a (nm : ByteArray) (t2 : Bool) (t3 : Int) : Lp S66a T66a :=
  cond (decide (t3 < (↑nm.size : Int))) (cond (inb t3 nm.size) (cond (decide ((↑(nm.data.toList.getD t3.toNat 0).toNat : Int) < 97)) (cond (decide ((↑(nm.data.toList.getD t3.toNat 0).toNat : Int) < 48)) (cond ((↑(nm.data.toList.getD t3.toNat 0).toNat : Int) != 45) (.out (.x0 false t3)) (.go ⟨IntKind.i64.wrap (t3 + 1)⟩)) (cond (decide ((↑(nm.data.toList.getD t3.toNat 0).toNat : Int) > 57)) (cond ((↑(nm.data.toList.getD t3.toNat 0).toNat : Int) != 45) (.out (.x0 false t3)) (.go ⟨IntKind.i64.wrap (t3 + 1)⟩)) (.go ⟨IntKind.i64.wrap (t3 + 1)⟩))) (cond (decide ((↑(nm.data.toList.getD t3.toNat 0).toNat : Int) > 122)) (cond (decide ((↑(nm.data.toList.getD t3.toNat 0).toNat : Int) < 48)) (cond ((↑(nm.data.toList.getD t3.toNat 0).toNat : Int) != 45) (.out (.x0 false t3)) (.go ⟨IntKind.i64.wrap (t3 + 1)⟩)) (cond (decide ((↑(nm.data.toList.getD t3.toNat 0).toNat : Int) > 57)) (cond ((↑(nm.data.toList.getD t3.toNat 0).toNat : Int) != 45) (.out (.x0 false t3)) (.go ⟨IntKind.i64.wrap (t3 + 1)⟩)) (.go ⟨IntKind.i64.wrap (t3 + 1)⟩))) (.go ⟨IntKind.i64.wrap (t3 + 1)⟩))) (.bad)) (.out (.x1 t3))
noncomputable def o66a_0 (nm : ByteArray) (t2 : Bool) (t2' : Bool) (t3 : Int) : St :=
  { t := [(0, .s nm), (2, .b t2'), (3, .i .i64 t3)], m := [], nx := 0, nt := 46 }
noncomputable def o66a_1 (nm : ByteArray) (t2 : Bool) (t3 : Int) : St :=
  { t := [(0, .s nm), (2, .b t2), (3, .i .i64 t3)], m := [], nx := 0, nt := 46 }
noncomputable def ou66a (nm : ByteArray) (t2 : Bool) : T66a → Ex × St
  | .x0 t2' t3 => (.ret, o66a_0 nm t2 t2' t3)
  | .x1 t3 => (.ext 0, o66a_1 nm t2 t3)
noncomputable def r66a (nm : ByteArray) (t2 : Bool) (t3 : Int) : Option T66a := run (fun x => stp66a nm t2 x.t3) (⟨t3⟩ : S66a)
noncomputable def i66a_0 (nm : ByteArray) (t2 : Bool) (t3 : Int) : Bool := match r66a nm t2 t3 with
  | some (.x0 _ _) => true
  | _ => false
noncomputable def v66a_0_t2' (nm : ByteArray) (t2 : Bool) (t3 : Int) : Bool := match r66a nm t2 t3 with
  | some (.x0 t2' _) => t2'
  | _ => default
noncomputable def v66a_0_t3 (nm : ByteArray) (t2 : Bool) (t3 : Int) : Int := match r66a nm t2 t3 with
  | some (.x0 _ t3) => t3
  | _ => default
noncomputable def i66a_1 (nm : ByteArray) (t2 : Bool) (t3 : Int) : Bool := match r66a nm t2 t3 with
  | some (.x1 _) => true
  | _ => false
noncomputable def v66a_1_t3 (nm : ByteArray) (t2 : Bool) (t3 : Int) : Int := match r66a nm t2 t3 with
  | some (.x1 t3) => t3
  | _ => default
noncomputable def l66a (st : St) : Option (List (Bool × Ex × St)) := match normW Try.prog [(0, none), (2, none), (3, none)] 0 st with
  | some ([.s nm, .b t2, .i .i64 t3], [], 0, 46) => some [(i66a_0 nm t2 t3, .ret, o66a_0 nm t2 (v66a_0_t2' nm t2 t3) (v66a_0_t3 nm t2 t3)), (i66a_1 nm t2 t3, .ext 0, o66a_1 nm t2 (v66a_1_t3 nm t2 t3))]
  | _ => none
noncomputable def L66 : LSpec := fun p st => match p with
  | [false, true, false, true, true] => l66a st
  | _ => none
theorem is66a_0 (nm : ByteArray) (t2 : Bool) (t3 : Int) (h : i66a_0 nm t2 t3 = true) : r66a nm t2 t3 = some (.x0 (v66a_0_t2' nm t2 t3) (v66a_0_t3 nm t2 t3)) := by
  unfold i66a_0 at h
  unfold v66a_0_t2' v66a_0_t3
  generalize r66a nm t2 t3 = r at h ⊢
  rcases r with _ | y
  · cases h
  · cases y <;> first | rfl | cases h
theorem is66a_1 (nm : ByteArray) (t2 : Bool) (t3 : Int) (h : i66a_1 nm t2 t3 = true) : r66a nm t2 t3 = some (.x1 (v66a_1_t3 nm t2 t3)) := by
  unfold i66a_1 at h
  unfold v66a_1_t3
  generalize r66a nm t2 t3 = r at h ⊢
  rcases r with _ | y
  · cases h
  · cases y <;> first | rfl | cases h
theorem round66a (nm : ByteArray) (t2 : Bool) (t3 : Int) : round Try.prog Sd (ro 66) L66 lp66a [false, true, false, true, true] [(0, none), (2, none), (3, none)] 0 (s66a nm t2 t3) =
    cond (decide (t3 < (↑nm.size : Int))) (cond (inb t3 nm.size) (cond (decide ((↑(nm.data.toList.getD t3.toNat 0).toNat : Int) < 97)) (cond (decide ((↑(nm.data.toList.getD t3.toNat 0).toNat : Int) < 48)) (cond ((↑(nm.data.toList.getD t3.toNat 0).toNat : Int) != 45) (some (.ret, o66a_0 nm t2 false t3)) (some (.nrm, s66a nm t2 (IntKind.i64.wrap (t3 + 1))))) (cond (decide ((↑(nm.data.toList.getD t3.toNat 0).toNat : Int) > 57)) (cond ((↑(nm.data.toList.getD t3.toNat 0).toNat : Int) != 45) (some (.ret, o66a_0 nm t2 false t3)) (some (.nrm, s66a nm t2 (IntKind.i64.wrap (t3 + 1))))) (some (.nrm, s66a nm t2 (IntKind.i64.wrap (t3 + 1)))))) (cond (decide ((↑(nm.data.toList.getD t3.toNat 0).toNat : Int) > 122)) (cond (decide ((↑(nm.data.toList.getD t3.toNat 0).toNat : Int) < 48)) (cond ((↑(nm.data.toList.getD t3.toNat 0).toNat : Int) != 45) (some (.ret, o66a_0 nm t2 false t3)) (some (.nrm, s66a nm t2 (IntKind.i64.wrap (t3 + 1))))) (cond (decide ((↑(nm.data.toList.getD t3.toNat 0).toNat : Int) > 57)) (cond ((↑(nm.data.toList.getD t3.toNat 0).toNat : Int) != 45) (some (.ret, o66a_0 nm t2 false t3)) (some (.nrm, s66a nm t2 (IntKind.i64.wrap (t3 + 1))))) (some (.nrm, s66a nm t2 (IntKind.i64.wrap (t3 + 1)))))) (some (.nrm, s66a nm t2 (IntKind.i64.wrap (t3 + 1)))))) (none)) (some (.ext 0, o66a_1 nm t2 t3)) := by kernel_rfl
theorem rnd66a (nm : ByteArray) (t2 : Bool) (x : S66a) : round Try.prog Sd (ro 66) L66 lp66a [false, true, false, true, true] [(0, none), (2, none), (3, none)] 0 ((fun x => s66a nm t2 x.t3) x) = toR (fun x => s66a nm t2 x.t3) (ou66a nm t2) (stp66a nm t2 x.t3) := by
  refine (round66a _ _ _ ).trans ?_
  unfold stp66a
  simp only [toR_cond]
  rfl
theorem lok66a {st : St} {outs : List (Bool × Ex × St)} {e : Ex} {s : St} (hl : l66a st = some outs) (hch : Chosen outs e s) :
    ∃ keep nb, 0 ≤ nb ∧ LB Try.prog Sd (ro 66) L66 lp66a [false, true, false, true, true] keep nb st e s := by
  unfold l66a at hl
  split at hl
  · rename_i nm t2 t3 hno
    cases hl
    have hno := normW_norm hno
    refine ⟨_, _, ?_, .enter hno ?_⟩
    · decide
    have main := fun y h => LB_run (x := (⟨t3⟩ : S66a)) (y := y) (nb := 0) (fun y => by cases y <;> simp [ou66a]) (rnd66a nm t2) h
    obtain ⟨x, hx, hg, rfl, rfl⟩ := chosen_any hch
    simp only [List.mem_cons, List.not_mem_nil, or_false] at hx
    rcases hx with rfl | rfl
    · exact main _ (is66a_0 nm t2 t3 hg)
    · exact main _ (is66a_1 nm t2 t3 hg)
  · cases hl
theorem L66_ok (q : Pl) (c : Code) (hq : locate c66 q.reverse = some (.loop c)) (st : St) (outs : List (Bool × Ex × St)) (e : Ex) (s : St) (hl : L66 q st = some outs) (hch : Chosen outs e s) :
    ∃ keep nb, 0 ≤ nb ∧ LB Try.prog Sd (ro 66) L66 c q keep nb st e s := by
  unfold L66 at hl
  split at hl
  · have : locate c66 ([false, true, false, true, true] : Pl).reverse = some (.loop lp66a) := by kernel_rfl
    rw [this] at hq
    cases hq
    exact lok66a hl hch
  · cases hl
theorem lok66 : LOK Try.prog Sd (ro 66) L66 0 false c66 [] :=
  lok_lo L66_ok c66 [] false (locate_nil _) (by kernel_rfl)
noncomputable def t66 (nm : ByteArray) : Tr ((Bool)) :=
  .cn (g86 (↑nm.size : Int) 1 16) (.cn (!w86_0 (↑nm.size : Int) 1 16) (.lf (false)) (.cn (inb 0 nm.size) (.cn (decide ((↑(nm.data.toList.getD 0 0).toNat : Int) < 97)) (.lf (false)) (.cn (inb 0 nm.size) (.cn (decide ((↑(nm.data.toList.getD 0 0).toNat : Int) > 122)) (.lf (false)) (.cn (i66a_0 nm false 0) (.lf (v66a_0_t2' nm false 0)) (.cn (i66a_1 nm false 0) (.lf (true)) (.nn)))) (.nn))) (.nn))) (.nn)
noncomputable def g66 (nm : ByteArray) : Bool := (t66 nm).g
noncomputable def w66_0 (nm : ByteArray) : Bool := (t66 nm).val
theorem eq66 (nm : ByteArray) : evF Try.prog Sd (ro 66) L66 Try.f66 [.s nm] = (t66 nm).opt (fun (x : (Bool)) => (.b x : AV)) := by kernel_rfl
theorem con66 (nm : ByteArray) (h : g66 nm = true) : Con Try.prog 66 [.s nm] [] (.b (w66_0 nm)) [] :=
  con_of Sd_ok mixed Try.func66 (c := c66) rfl (names 66 _ Try.func66) lok66 ((eq66 nm).trans (Tr.sound _ _ h))
noncomputable def e66 (args : List AV) (rows : List Blk) : Option (Bool × AV × List Blk) := match args, rows with
  | [.s nm], [] => some (g66 nm, .b (w66_0 nm), [])
  | _, _ => none
theorem e66_ok (args : List AV) (rows : List Blk) (pre : Bool) (v : AV) (rows' : List Blk) (h : e66 args rows = some (pre, v, rows')) (hp : pre = true) : Con Try.prog 66 args rows v rows' := by
  unfold e66 at h
  split at h
  · cases h; exact con66 _ hp
  · cases h
-- SPEC 66
end Go.Proofs.Ytgifjphinkbcaaa

set_option maxRecDepth 100000
set_option linter.unusedVariables false
namespace Go.Proofs.Ytgifjphinkbcaaa
open Go Go.Ev
noncomputable def Se : Ev.Spec := insS 66 e66 (insS 61 e61 (Sd))
theorem Se_ok : SpecOK Try.prog Se := insS_ok e66_ok (insS_ok e61_ok (Sd_ok))
end Go.Proofs.Ytgifjphinkbcaaa

set_option maxRecDepth 100000
set_option linter.unusedVariables false
namespace Go.Proofs.Ytgifjphinkbcaaa
open Go Go.Ev

/-! ### ridge.Check -/
noncomputable def c29 : Code := match Try.f29.body with | some c => c | _ => .skip
noncomputable def lp29a : Code := loopAt c29 [true, true, true, false, true, false]
noncomputable def s29a (ra : Int) (rb : Int) (rc : Int) (ps : List (List AV)) (t2 : Int) (t33 : List (List AV)) (t34 : Int) (t35 : Int) (m24 : List (AV × AV)) : St :=
  { t := [(1, .rp [.int .i64, .int .i64, .int .i64, .sl 31] [.i .i64 ra, .i .i64 rb, .i .i64 rc, .rs 31 ps] 0), (2, .i .i64 t2), (3, .mp 24), (33, .rs 31 t33), (34, .i .i64 t34), (35, .i .i64 t35)], m := [(0, .dead), (1, .dead), (2, .dead), (3, .dead), (4, .dead), (5, .dead), (6, .dead), (7, .dead), (8, .dead), (9, .dead), (10, .dead), (11, .dead), (12, .dead), (13, .dead), (14, .dead), (15, .dead), (16, .dead), (17, .dead), (18, .dead), (19, .dead), (20, .dead), (21, .dead), (22, .dead), (23, .dead), (24, .mp 9 4 m24)], nx := 25, nt := 104 }
structure S29a where
  t35 : Int
  m24 : List (AV × AV)
inductive T29a where
  | x0 (t2' : Int) (t35 : Int) (m24 : List (AV × AV))
  | x1 (t35 : Int) (m24 : List (AV × AV))
noncomputable def stp29a (ra : Int) (rb : Int) (rc : Int) (ps : List (List AV)) (t2 : Int) (t33 : List (List AV)) (t34 : Int) (t35 : Int) (m24 : List (AV × AV)) : Lp S29a T29a :=
  cond (decide (t35 < t34)) (cond (inb t35 t33.length) (cond (g61 (fS (t33.getD t35.toNat []) 0)) (cond (!w61_0 (fS (t33.getD t35.toNat []) 0)) (.out (.x0 5 t35 m24)) (cond (toB ((mget (AV.s (fS (t33.getD t35.toNat []) 0)) m24).getD (AV.b false))) (.out (.x0 6 t35 m24)) (cond (g55 (fI (t33.getD t35.toNat []) 1) 1 2000) (cond (!w55_0 (fI (t33.getD t35.toNat []) 1) 1 2000) (.out (.x0 1 t35 m24)) (cond (g55 (fI (t33.getD t35.toNat []) 2) 0 9) (cond (!w55_0 (fI (t33.getD t35.toNat []) 2) 0 9) (.out (.x0 1 t35 m24)) (cond (g55 (fI (t33.getD t35.toNat []) 3) 0 9) (cond (!w55_0 (fI (t33.getD t35.toNat []) 3) 0 9) (.out (.x0 1 t35 m24)) (.go ⟨IntKind.i64.wrap (t35 + 1), mset (AV.s (fS (t33.getD t35.toNat []) 0)) (AV.b true) m24⟩)) (.bad))) (.bad))) (.bad)))) (.bad)) (.bad)) (.out (.x1 t35 m24))
noncomputable def o29a_0 (ra : Int) (rb : Int) (rc : Int) (ps : List (List AV)) (t2 : Int) (t33 : List (List AV)) (t34 : Int) (t2' : Int) (t35 : Int) (m24 : List (AV × AV)) : St :=
  { t := [(1, .rp [.int .i64, .int .i64, .int .i64, .sl 31] [.i .i64 ra, .i .i64 rb, .i .i64 rc, .rs 31 ps] 0), (2, .i .i64 t2'), (3, .mp 24), (33, .rs 31 t33), (34, .i .i64 t34), (35, .i .i64 t35)], m := [(0, .dead), (1, .dead), (2, .dead), (3, .dead), (4, .dead), (5, .dead), (6, .dead), (7, .dead), (8, .dead), (9, .dead), (10, .dead), (11, .dead), (12, .dead), (13, .dead), (14, .dead), (15, .dead), (16, .dead), (17, .dead), (18, .dead), (19, .dead), (20, .dead), (21, .dead), (22, .dead), (23, .dead), (24, .mp 9 4 m24)], nx := 25, nt := 104 }
noncomputable def o29a_1 (ra : Int) (rb : Int) (rc : Int) (ps : List (List AV)) (t2 : Int) (t33 : List (List AV)) (t34 : Int) (t35 : Int) (m24 : List (AV × AV)) : St :=
  { t := [(1, .rp [.int .i64, .int .i64, .int .i64, .sl 31] [.i .i64 ra, .i .i64 rb, .i .i64 rc, .rs 31 ps] 0), (2, .i .i64 t2), (3, .mp 24), (33, .rs 31 t33), (34, .i .i64 t34), (35, .i .i64 t35)], m := [(0, .dead), (1, .dead), (2, .dead), (3, .dead), (4, .dead), (5, .dead), (6, .dead), (7, .dead), (8, .dead), (9, .dead), (10, .dead), (11, .dead), (12, .dead), (13, .dead), (14, .dead), (15, .dead), (16, .dead), (17, .dead), (18, .dead), (19, .dead), (20, .dead), (21, .dead), (22, .dead), (23, .dead), (24, .mp 9 4 m24)], nx := 25, nt := 104 }
noncomputable def ou29a (ra : Int) (rb : Int) (rc : Int) (ps : List (List AV)) (t2 : Int) (t33 : List (List AV)) (t34 : Int) : T29a → Ex × St
  | .x0 t2' t35 m24 => (.ret, o29a_0 ra rb rc ps t2 t33 t34 t2' t35 m24)
  | .x1 t35 m24 => (.ext 1, o29a_1 ra rb rc ps t2 t33 t34 t35 m24)
noncomputable def r29a (ra : Int) (rb : Int) (rc : Int) (ps : List (List AV)) (t2 : Int) (t33 : List (List AV)) (t34 : Int) (t35 : Int) (m24 : List (AV × AV)) : Option T29a := run (fun x => stp29a ra rb rc ps t2 t33 t34 x.t35 x.m24) (⟨t35, m24⟩ : S29a)
noncomputable def i29a_0 (ra : Int) (rb : Int) (rc : Int) (ps : List (List AV)) (t2 : Int) (t33 : List (List AV)) (t34 : Int) (t35 : Int) (m24 : List (AV × AV)) : Bool := match r29a ra rb rc ps t2 t33 t34 t35 m24 with
  | some (.x0 _ _ _) => true
  | _ => false
noncomputable def v29a_0_t2' (ra : Int) (rb : Int) (rc : Int) (ps : List (List AV)) (t2 : Int) (t33 : List (List AV)) (t34 : Int) (t35 : Int) (m24 : List (AV × AV)) : Int := match r29a ra rb rc ps t2 t33 t34 t35 m24 with
  | some (.x0 t2' _ _) => t2'
  | _ => default
noncomputable def v29a_0_t35 (ra : Int) (rb : Int) (rc : Int) (ps : List (List AV)) (t2 : Int) (t33 : List (List AV)) (t34 : Int) (t35 : Int) (m24 : List (AV × AV)) : Int := match r29a ra rb rc ps t2 t33 t34 t35 m24 with
  | some (.x0 _ t35 _) => t35
  | _ => default
noncomputable def v29a_0_m24 (ra : Int) (rb : Int) (rc : Int) (ps : List (List AV)) (t2 : Int) (t33 : List (List AV)) (t34 : Int) (t35 : Int) (m24 : List (AV × AV)) : List (AV × AV) := match r29a ra rb rc ps t2 t33 t34 t35 m24 with
  | some (.x0 _ _ m24) => m24
  | _ => default
noncomputable def i29a_1 (ra : Int) (rb : Int) (rc : Int) (ps : List (List AV)) (t2 : Int) (t33 : List (List AV)) (t34 : Int) (t35 : Int) (m24 : List (AV × AV)) : Bool := match r29a ra rb rc ps t2 t33 t34 t35 m24 with
  | some (.x1 _ _) => true
  | _ => false
noncomputable def v29a_1_t35 (ra : Int) (rb : Int) (rc : Int) (ps : List (List AV)) (t2 : Int) (t33 : List (List AV)) (t34 : Int) (t35 : Int) (m24 : List (AV × AV)) : Int := match r29a ra rb rc ps t2 t33 t34 t35 m24 with
  | some (.x1 t35 _) => t35
  | _ => default
noncomputable def v29a_1_m24 (ra : Int) (rb : Int) (rc : Int) (ps : List (List AV)) (t2 : Int) (t33 : List (List AV)) (t34 : Int) (t35 : Int) (m24 : List (AV × AV)) : List (AV × AV) := match r29a ra rb rc ps t2 t33 t34 t35 m24 with
  | some (.x1 _ m24) => m24
  | _ => default
noncomputable def l29a (st : St) : Option (List (Bool × Ex × St)) := match normW Try.prog [(1, none), (2, none), (3, none), (33, none), (34, none), (35, none)] 25 st with
  | some ([.rp [.int .i64, .int .i64, .int .i64, .sl 31] [.i .i64 ra, .i .i64 rb, .i .i64 rc, .rs 31 ps] 0, .i .i64 t2, .mp 24, .rs 31 t33, .i .i64 t34, .i .i64 t35], (0, .dead) :: (1, .dead) :: (2, .dead) :: (3, .dead) :: (4, .dead) :: (5, .dead) :: (6, .dead) :: (7, .dead) :: (8, .dead) :: (9, .dead) :: (10, .dead) :: (11, .dead) :: (12, .dead) :: (13, .dead) :: (14, .dead) :: (15, .dead) :: (16, .dead) :: (17, .dead) :: (18, .dead) :: (19, .dead) :: (20, .dead) :: (21, .dead) :: (22, .dead) :: (23, .dead) :: (24, .mp 9 4 m24) :: [], 25, 104) => some [(i29a_0 ra rb rc ps t2 t33 t34 t35 m24, .ret, o29a_0 ra rb rc ps t2 t33 t34 (v29a_0_t2' ra rb rc ps t2 t33 t34 t35 m24) (v29a_0_t35 ra rb rc ps t2 t33 t34 t35 m24) (v29a_0_m24 ra rb rc ps t2 t33 t34 t35 m24)), (i29a_1 ra rb rc ps t2 t33 t34 t35 m24, .ext 1, o29a_1 ra rb rc ps t2 t33 t34 (v29a_1_t35 ra rb rc ps t2 t33 t34 t35 m24) (v29a_1_m24 ra rb rc ps t2 t33 t34 t35 m24))]
  | _ => none
noncomputable def lp29b : Code := loopAt c29 [true, true, true, true, false, true, false]
noncomputable def s29b (ra : Int) (rb : Int) (rc : Int) (ps : List (List AV)) (t2 : Int) (t71 : List (List AV)) (t72 : Int) (t73 : Int) : St :=
  { t := [(1, .rp [.int .i64, .int .i64, .int .i64, .sl 31] [.i .i64 ra, .i .i64 rb, .i .i64 rc, .rs 31 ps] 0), (2, .i .i64 t2), (71, .rs 31 t71), (72, .i .i64 t72), (73, .i .i64 t73)], m := [], nx := 0, nt := 104 }
structure S29b where
  t73 : Int
inductive T29b where
  | x0 (t2' : Int) (t73 : Int)
  | x1 (t73 : Int)
noncomputable def stp29b (ra : Int) (rb : Int) (rc : Int) (ps : List (List AV)) (t2 : Int) (t71 : List (List AV)) (t72 : Int) (t73 : Int) : Lp S29b T29b :=
  cond (decide (t73 < t72)) (cond (inb t73 t71.length) (cond (g55 (fI (t71.getD t73.toNat []) 4) 0 (IntKind.i64.wrap ((↑ps.length : Int) - 1))) (cond (!w55_0 (fI (t71.getD t73.toNat []) 4) 0 (IntKind.i64.wrap ((↑ps.length : Int) - 1))) (.out (.x0 7 t73)) (cond (inb (fI (t71.getD t73.toNat []) 4) ps.length) (cond (fI (ps.getD (fI (t71.getD t73.toNat []) 4).toNat []) 4 != t73) (.out (.x0 10 t73)) (cond (!((w62_0 (fS (ps.getD (fI (t71.getD t73.toNat []) 4).toNat []) 0) (fI (ps.getD (fI (t71.getD t73.toNat []) 4).toNat []) 1) (fI (ps.getD (fI (t71.getD t73.toNat []) 4).toNat []) 2) (fI (ps.getD (fI (t71.getD t73.toNat []) 4).toNat []) 3) (fI (ps.getD (fI (t71.getD t73.toNat []) 4).toNat []) 4)).toList == (w63_0 (fS (t71.getD t73.toNat []) 0) (fI (t71.getD t73.toNat []) 1) (fI (t71.getD t73.toNat []) 2) (fI (t71.getD t73.toNat []) 3) (fI (t71.getD t73.toNat []) 4)).toList && (w62_1 (fS (ps.getD (fI (t71.getD t73.toNat []) 4).toNat []) 0) (fI (ps.getD (fI (t71.getD t73.toNat []) 4).toNat []) 1) (fI (ps.getD (fI (t71.getD t73.toNat []) 4).toNat []) 2) (fI (ps.getD (fI (t71.getD t73.toNat []) 4).toNat []) 3) (fI (ps.getD (fI (t71.getD t73.toNat []) 4).toNat []) 4) == w63_1 (fS (t71.getD t73.toNat []) 0) (fI (t71.getD t73.toNat []) 1) (fI (t71.getD t73.toNat []) 2) (fI (t71.getD t73.toNat []) 3) (fI (t71.getD t73.toNat []) 4) && (w62_2 (fS (ps.getD (fI (t71.getD t73.toNat []) 4).toNat []) 0) (fI (ps.getD (fI (t71.getD t73.toNat []) 4).toNat []) 1) (fI (ps.getD (fI (t71.getD t73.toNat []) 4).toNat []) 2) (fI (ps.getD (fI (t71.getD t73.toNat []) 4).toNat []) 3) (fI (ps.getD (fI (t71.getD t73.toNat []) 4).toNat []) 4) == w63_2 (fS (t71.getD t73.toNat []) 0) (fI (t71.getD t73.toNat []) 1) (fI (t71.getD t73.toNat []) 2) (fI (t71.getD t73.toNat []) 3) (fI (t71.getD t73.toNat []) 4) && (w62_3 (fS (ps.getD (fI (t71.getD t73.toNat []) 4).toNat []) 0) (fI (ps.getD (fI (t71.getD t73.toNat []) 4).toNat []) 1) (fI (ps.getD (fI (t71.getD t73.toNat []) 4).toNat []) 2) (fI (ps.getD (fI (t71.getD t73.toNat []) 4).toNat []) 3) (fI (ps.getD (fI (t71.getD t73.toNat []) 4).toNat []) 4) == w63_3 (fS (t71.getD t73.toNat []) 0) (fI (t71.getD t73.toNat []) 1) (fI (t71.getD t73.toNat []) 2) (fI (t71.getD t73.toNat []) 3) (fI (t71.getD t73.toNat []) 4) && w62_4 (fS (ps.getD (fI (t71.getD t73.toNat []) 4).toNat []) 0) (fI (ps.getD (fI (t71.getD t73.toNat []) 4).toNat []) 1) (fI (ps.getD (fI (t71.getD t73.toNat []) 4).toNat []) 2) (fI (ps.getD (fI (t71.getD t73.toNat []) 4).toNat []) 3) (fI (ps.getD (fI (t71.getD t73.toNat []) 4).toNat []) 4) == w63_4 (fS (t71.getD t73.toNat []) 0) (fI (t71.getD t73.toNat []) 1) (fI (t71.getD t73.toNat []) 2) (fI (t71.getD t73.toNat []) 3) (fI (t71.getD t73.toNat []) 4)))))) (.out (.x0 10 t73)) (.go ⟨IntKind.i64.wrap (t73 + 1)⟩))) (.bad))) (.bad)) (.bad)) (.out (.x1 t73))
noncomputable def o29b_0 (ra : Int) (rb : Int) (rc : Int) (ps : List (List AV)) (t2 : Int) (t71 : List (List AV)) (t72 : Int) (t2' : Int) (t73 : Int) : St :=
  { t := [(1, .rp [.int .i64, .int .i64, .int .i64, .sl 31] [.i .i64 ra, .i .i64 rb, .i .i64 rc, .rs 31 ps] 0), (2, .i .i64 t2'), (71, .rs 31 t71), (72, .i .i64 t72), (73, .i .i64 t73)], m := [], nx := 0, nt := 104 }
noncomputable def o29b_1 (ra : Int) (rb : Int) (rc : Int) (ps : List (List AV)) (t2 : Int) (t71 : List (List AV)) (t72 : Int) (t73 : Int) : St :=
  { t := [(1, .rp [.int .i64, .int .i64, .int .i64, .sl 31] [.i .i64 ra, .i .i64 rb, .i .i64 rc, .rs 31 ps] 0), (2, .i .i64 t2), (71, .rs 31 t71), (72, .i .i64 t72), (73, .i .i64 t73)], m := [], nx := 0, nt := 104 }
noncomputable def ou29b (ra : Int) (rb : Int) (rc : Int) (ps : List (List AV)) (t2 : Int) (t71 : List (List AV)) (t72 : Int) : T29b → Ex × St
  | .x0 t2' t73 => (.ret, o29b_0 ra rb rc ps t2 t71 t72 t2' t73)
  | .x1 t73 => (.ext 4, o29b_1 ra rb rc ps t2 t71 t72 t73)
noncomputable def r29b (ra : Int) (rb : Int) (rc : Int) (ps : List (List AV)) (t2 : Int) (t71 : List (List AV)) (t72 : Int) (t73 : Int) : Option T29b := run (fun x => stp29b ra rb rc ps t2 t71 t72 x.t73) (⟨t73⟩ : S29b)
noncomputable def i29b_0 (ra : Int) (rb : Int) (rc : Int) (ps : List (List AV)) (t2 : Int) (t71 : List (List AV)) (t72 : Int) (t73 : Int) : Bool := match r29b ra rb rc ps t2 t71 t72 t73 with
  | some (.x0 _ _) => true
  | _ => false
noncomputable def v29b_0_t2' (ra : Int) (rb : Int) (rc : Int) (ps : List (List AV)) (t2 : Int) (t71 : List (List AV)) (t72 : Int) (t73 : Int) : Int := match r29b ra rb rc ps t2 t71 t72 t73 with
  | some (.x0 t2' _) => t2'
  | _ => default
noncomputable def v29b_0_t73 (ra : Int) (rb : Int) (rc : Int) (ps : List (List AV)) (t2 : Int) (t71 : List (List AV)) (t72 : Int) (t73 : Int) : Int := match r29b ra rb rc ps t2 t71 t72 t73 with
  | some (.x0 _ t73) => t73
  | _ => default
noncomputable def i29b_1 (ra : Int) (rb : Int) (rc : Int) (ps : List (List AV)) (t2 : Int) (t71 : List (List AV)) (t72 : Int) (t73 : Int) : Bool := match r29b ra rb rc ps t2 t71 t72 t73 with
  | some (.x1 _) => true
  | _ => false
noncomputable def v29b_1_t73 (ra : Int) (rb : Int) (rc : Int) (ps : List (List AV)) (t2 : Int) (t71 : List (List AV)) (t72 : Int) (t73 : Int) : Int := match r29b ra rb rc ps t2 t71 t72 t73 with
  | some (.x1 t73) => t73
  | _ => default
noncomputable def l29b (st : St) : Option (List (Bool × Ex × St)) := match normW Try.prog [(1, none), (2, none), (71, none), (72, none), (73, none)] 0 st with
  | some ([.rp [.int .i64, .int .i64, .int .i64, .sl 31] [.i .i64 ra, .i .i64 rb, .i .i64 rc, .rs 31 ps] 0, .i .i64 t2, .rs 31 t71, .i .i64 t72, .i .i64 t73], [], 0, 104) => some [(i29b_0 ra rb rc ps t2 t71 t72 t73, .ret, o29b_0 ra rb rc ps t2 t71 t72 (v29b_0_t2' ra rb rc ps t2 t71 t72 t73) (v29b_0_t73 ra rb rc ps t2 t71 t72 t73)), (i29b_1 ra rb rc ps t2 t71 t72 t73, .ext 4, o29b_1 ra rb rc ps t2 t71 t72 (v29b_1_t73 ra rb rc ps t2 t71 t72 t73))]
  | _ => none
noncomputable def L29 : LSpec := fun p st => match p with
  | [false, true, false, true, true, true] => l29a st
  | [false, true, false, true, true, true, true] => l29b st
  | _ => none
theorem is29a_0 (ra : Int) (rb : Int) (rc : Int) (ps : List (List AV)) (t2 : Int) (t33 : List (List AV)) (t34 : Int) (t35 : Int) (m24 : List (AV × AV)) (h : i29a_0 ra rb rc ps t2 t33 t34 t35 m24 = true) : r29a ra rb rc ps t2 t33 t34 t35 m24 = some (.x0 (v29a_0_t2' ra rb rc ps t2 t33 t34 t35 m24) (v29a_0_t35 ra rb rc ps t2 t33 t34 t35 m24) (v29a_0_m24 ra rb rc ps t2 t33 t34 t35 m24)) := by
  unfold i29a_0 at h
  unfold v29a_0_t2' v29a_0_t35 v29a_0_m24
  generalize r29a ra rb rc ps t2 t33 t34 t35 m24 = r at h ⊢
  rcases r with _ | y
  · cases h
  · cases y <;> first | rfl | cases h
theorem is29a_1 (ra : Int) (rb : Int) (rc : Int) (ps : List (List AV)) (t2 : Int) (t33 : List (List AV)) (t34 : Int) (t35 : Int) (m24 : List (AV × AV)) (h : i29a_1 ra rb rc ps t2 t33 t34 t35 m24 = true) : r29a ra rb rc ps t2 t33 t34 t35 m24 = some (.x1 (v29a_1_t35 ra rb rc ps t2 t33 t34 t35 m24) (v29a_1_m24 ra rb rc ps t2 t33 t34 t35 m24)) := by
  unfold i29a_1 at h
  unfold v29a_1_t35 v29a_1_m24
  generalize r29a ra rb rc ps t2 t33 t34 t35 m24 = r at h ⊢
  rcases r with _ | y
  · cases h
  · cases y <;> first | rfl | cases h
theorem round29a (ra : Int) (rb : Int) (rc : Int) (ps : List (List AV)) (t2 : Int) (t33 : List (List AV)) (t34 : Int) (t35 : Int) (m24 : List (AV × AV)) : round Try.prog Se (ro 29) L29 lp29a [false, true, false, true, true, true] [(1, none), (2, none), (3, none), (33, none), (34, none), (35, none)] 25 (s29a ra rb rc ps t2 t33 t34 t35 m24) =
    cond (decide (t35 < t34)) (cond (inb t35 t33.length) (cond (g61 (fS (t33.getD t35.toNat []) 0)) (cond (!w61_0 (fS (t33.getD t35.toNat []) 0)) (some (.ret, o29a_0 ra rb rc ps t2 t33 t34 5 t35 m24)) (cond (toB ((mget (AV.s (fS (t33.getD t35.toNat []) 0)) m24).getD (AV.b false))) (some (.ret, o29a_0 ra rb rc ps t2 t33 t34 6 t35 m24)) (cond (g55 (fI (t33.getD t35.toNat []) 1) 1 2000) (cond (!w55_0 (fI (t33.getD t35.toNat []) 1) 1 2000) (some (.ret, o29a_0 ra rb rc ps t2 t33 t34 1 t35 m24)) (cond (g55 (fI (t33.getD t35.toNat []) 2) 0 9) (cond (!w55_0 (fI (t33.getD t35.toNat []) 2) 0 9) (some (.ret, o29a_0 ra rb rc ps t2 t33 t34 1 t35 m24)) (cond (g55 (fI (t33.getD t35.toNat []) 3) 0 9) (cond (!w55_0 (fI (t33.getD t35.toNat []) 3) 0 9) (some (.ret, o29a_0 ra rb rc ps t2 t33 t34 1 t35 m24)) (some (.nrm, s29a ra rb rc ps t2 t33 t34 (IntKind.i64.wrap (t35 + 1)) (mset (AV.s (fS (t33.getD t35.toNat []) 0)) (AV.b true) m24)))) (none))) (none))) (none)))) (none)) (none)) (some (.ext 1, o29a_1 ra rb rc ps t2 t33 t34 t35 m24)) := by kernel_rfl
theorem rnd29a (ra : Int) (rb : Int) (rc : Int) (ps : List (List AV)) (t2 : Int) (t33 : List (List AV)) (t34 : Int) (x : S29a) : round Try.prog Se (ro 29) L29 lp29a [false, true, false, true, true, true] [(1, none), (2, none), (3, none), (33, none), (34, none), (35, none)] 25 ((fun x => s29a ra rb rc ps t2 t33 t34 x.t35 x.m24) x) = toR (fun x => s29a ra rb rc ps t2 t33 t34 x.t35 x.m24) (ou29a ra rb rc ps t2 t33 t34) (stp29a ra rb rc ps t2 t33 t34 x.t35 x.m24) := by
  refine (round29a _ _ _ _ _ _ _ _ _ ).trans ?_
  unfold stp29a
  simp only [toR_cond]
  rfl
theorem lok29a {st : St} {outs : List (Bool × Ex × St)} {e : Ex} {s : St} (hl : l29a st = some outs) (hch : Chosen outs e s) :
    ∃ keep nb, 0 ≤ nb ∧ LB Try.prog Se (ro 29) L29 lp29a [false, true, false, true, true, true] keep nb st e s := by
  unfold l29a at hl
  split at hl
  · rename_i ra rb rc ps t2 t33 t34 t35 m24 hno
    cases hl
    have hno := normW_norm hno
    refine ⟨_, _, ?_, .enter hno ?_⟩
    · decide
    have main := fun y h => LB_run (x := (⟨t35, m24⟩ : S29a)) (y := y) (nb := 25) (fun y => by cases y <;> simp [ou29a]) (rnd29a ra rb rc ps t2 t33 t34) h
    obtain ⟨x, hx, hg, rfl, rfl⟩ := chosen_any hch
    simp only [List.mem_cons, List.not_mem_nil, or_false] at hx
    rcases hx with rfl | rfl
    · exact main _ (is29a_0 ra rb rc ps t2 t33 t34 t35 m24 hg)
    · exact main _ (is29a_1 ra rb rc ps t2 t33 t34 t35 m24 hg)
  · cases hl
theorem is29b_0 (ra : Int) (rb : Int) (rc : Int) (ps : List (List AV)) (t2 : Int) (t71 : List (List AV)) (t72 : Int) (t73 : Int) (h : i29b_0 ra rb rc ps t2 t71 t72 t73 = true) : r29b ra rb rc ps t2 t71 t72 t73 = some (.x0 (v29b_0_t2' ra rb rc ps t2 t71 t72 t73) (v29b_0_t73 ra rb rc ps t2 t71 t72 t73)) := by
  unfold i29b_0 at h
  unfold v29b_0_t2' v29b_0_t73
  generalize r29b ra rb rc ps t2 t71 t72 t73 = r at h ⊢
  rcases r with _ | y
  · cases h
  · cases y <;> first | rfl | cases h
theorem is29b_1 (ra : Int) (rb : Int) (rc : Int) (ps : List (List AV)) (t2 : Int) (t71 : List (List AV)) (t72 : Int) (t73 : Int) (h : i29b_1 ra rb rc ps t2 t71 t72 t73 = true) : r29b ra rb rc ps t2 t71 t72 t73 = some (.x1 (v29b_1_t73 ra rb rc ps t2 t71 t72 t73)) := by
  unfold i29b_1 at h
  unfold v29b_1_t73
  generalize r29b ra rb rc ps t2 t71 t72 t73 = r at h ⊢
  rcases r with _ | y
  · cases h
  · cases y <;> first | rfl | cases h
theorem round29b (ra : Int) (rb : Int) (rc : Int) (ps : List (List AV)) (t2 : Int) (t71 : List (List AV)) (t72 : Int) (t73 : Int) : round Try.prog Se (ro 29) L29 lp29b [false, true, false, true, true, true, true] [(1, none), (2, none), (71, none), (72, none), (73, none)] 0 (s29b ra rb rc ps t2 t71 t72 t73) =
    cond (decide (t73 < t72)) (cond (inb t73 t71.length) (cond (g55 (fI (t71.getD t73.toNat []) 4) 0 (IntKind.i64.wrap ((↑ps.length : Int) - 1))) (cond (!w55_0 (fI (t71.getD t73.toNat []) 4) 0 (IntKind.i64.wrap ((↑ps.length : Int) - 1))) (some (.ret, o29b_0 ra rb rc ps t2 t71 t72 7 t73)) (cond (inb (fI (t71.getD t73.toNat []) 4) ps.length) (cond (fI (ps.getD (fI (t71.getD t73.toNat []) 4).toNat []) 4 != t73) (some (.ret, o29b_0 ra rb rc ps t2 t71 t72 10 t73)) (cond (!((w62_0 (fS (ps.getD (fI (t71.getD t73.toNat []) 4).toNat []) 0) (fI (ps.getD (fI (t71.getD t73.toNat []) 4).toNat []) 1) (fI (ps.getD (fI (t71.getD t73.toNat []) 4).toNat []) 2) (fI (ps.getD (fI (t71.getD t73.toNat []) 4).toNat []) 3) (fI (ps.getD (fI (t71.getD t73.toNat []) 4).toNat []) 4)).toList == (w63_0 (fS (t71.getD t73.toNat []) 0) (fI (t71.getD t73.toNat []) 1) (fI (t71.getD t73.toNat []) 2) (fI (t71.getD t73.toNat []) 3) (fI (t71.getD t73.toNat []) 4)).toList && (w62_1 (fS (ps.getD (fI (t71.getD t73.toNat []) 4).toNat []) 0) (fI (ps.getD (fI (t71.getD t73.toNat []) 4).toNat []) 1) (fI (ps.getD (fI (t71.getD t73.toNat []) 4).toNat []) 2) (fI (ps.getD (fI (t71.getD t73.toNat []) 4).toNat []) 3) (fI (ps.getD (fI (t71.getD t73.toNat []) 4).toNat []) 4) == w63_1 (fS (t71.getD t73.toNat []) 0) (fI (t71.getD t73.toNat []) 1) (fI (t71.getD t73.toNat []) 2) (fI (t71.getD t73.toNat []) 3) (fI (t71.getD t73.toNat []) 4) && (w62_2 (fS (ps.getD (fI (t71.getD t73.toNat []) 4).toNat []) 0) (fI (ps.getD (fI (t71.getD t73.toNat []) 4).toNat []) 1) (fI (ps.getD (fI (t71.getD t73.toNat []) 4).toNat []) 2) (fI (ps.getD (fI (t71.getD t73.toNat []) 4).toNat []) 3) (fI (ps.getD (fI (t71.getD t73.toNat []) 4).toNat []) 4) == w63_2 (fS (t71.getD t73.toNat []) 0) (fI (t71.getD t73.toNat []) 1) (fI (t71.getD t73.toNat []) 2) (fI (t71.getD t73.toNat []) 3) (fI (t71.getD t73.toNat []) 4) && (w62_3 (fS (ps.getD (fI (t71.getD t73.toNat []) 4).toNat []) 0) (fI (ps.getD (fI (t71.getD t73.toNat []) 4).toNat []) 1) (fI (ps.getD (fI (t71.getD t73.toNat []) 4).toNat []) 2) (fI (ps.getD (fI (t71.getD t73.toNat []) 4).toNat []) 3) (fI (ps.getD (fI (t71.getD t73.toNat []) 4).toNat []) 4) == w63_3 (fS (t71.getD t73.toNat []) 0) (fI (t71.getD t73.toNat []) 1) (fI (t71.getD t73.toNat []) 2) (fI (t71.getD t73.toNat []) 3) (fI (t71.getD t73.toNat []) 4) && w62_4 (fS (ps.getD (fI (t71.getD t73.toNat []) 4).toNat []) 0) (fI (ps.getD (fI (t71.getD t73.toNat []) 4).toNat []) 1) (fI (ps.getD (fI (t71.getD t73.toNat []) 4).toNat []) 2) (fI (ps.getD (fI (t71.getD t73.toNat []) 4).toNat []) 3) (fI (ps.getD (fI (t71.getD t73.toNat []) 4).toNat []) 4) == w63_4 (fS (t71.getD t73.toNat []) 0) (fI (t71.getD t73.toNat []) 1) (fI (t71.getD t73.toNat []) 2) (fI (t71.getD t73.toNat []) 3) (fI (t71.getD t73.toNat []) 4)))))) (some (.ret, o29b_0 ra rb rc ps t2 t71 t72 10 t73)) (some (.nrm, s29b ra rb rc ps t2 t71 t72 (IntKind.i64.wrap (t73 + 1)))))) (none))) (none)) (none)) (some (.ext 4, o29b_1 ra rb rc ps t2 t71 t72 t73)) := by kernel_rfl
theorem rnd29b (ra : Int) (rb : Int) (rc : Int) (ps : List (List AV)) (t2 : Int) (t71 : List (List AV)) (t72 : Int) (x : S29b) : round Try.prog Se (ro 29) L29 lp29b [false, true, false, true, true, true, true] [(1, none), (2, none), (71, none), (72, none), (73, none)] 0 ((fun x => s29b ra rb rc ps t2 t71 t72 x.t73) x) = toR (fun x => s29b ra rb rc ps t2 t71 t72 x.t73) (ou29b ra rb rc ps t2 t71 t72) (stp29b ra rb rc ps t2 t71 t72 x.t73) := by
  refine (round29b _ _ _ _ _ _ _ _ ).trans ?_
  unfold stp29b
  simp only [toR_cond]
  rfl
theorem lok29b {st : St} {outs : List (Bool × Ex × St)} {e : Ex} {s : St} (hl : l29b st = some outs) (hch : Chosen outs e s) :
    ∃ keep nb, 0 ≤ nb ∧ LB Try.prog Se (ro 29) L29 lp29b [false, true, false, true, true, true, true] keep nb st e s := by
  unfold l29b at hl
  split at hl
  · rename_i ra rb rc ps t2 t71 t72 t73 hno
    cases hl
    have hno := normW_norm hno
    refine ⟨_, _, ?_, .enter hno ?_⟩
    · decide
    have main := fun y h => LB_run (x := (⟨t73⟩ : S29b)) (y := y) (nb := 0) (fun y => by cases y <;> simp [ou29b]) (rnd29b ra rb rc ps t2 t71 t72) h
    obtain ⟨x, hx, hg, rfl, rfl⟩ := chosen_any hch
    simp only [List.mem_cons, List.not_mem_nil, or_false] at hx
    rcases hx with rfl | rfl
    · exact main _ (is29b_0 ra rb rc ps t2 t71 t72 t73 hg)
    · exact main _ (is29b_1 ra rb rc ps t2 t71 t72 t73 hg)
  · cases hl
theorem L29_ok (q : Pl) (c : Code) (hq : locate c29 q.reverse = some (.loop c)) (st : St) (outs : List (Bool × Ex × St)) (e : Ex) (s : St) (hl : L29 q st = some outs) (hch : Chosen outs e s) :
    ∃ keep nb, 0 ≤ nb ∧ LB Try.prog Se (ro 29) L29 c q keep nb st e s := by
  unfold L29 at hl
  split at hl
  · have : locate c29 ([false, true, false, true, true, true] : Pl).reverse = some (.loop lp29a) := by kernel_rfl
    rw [this] at hq
    cases hq
    exact lok29a hl hch
  · have : locate c29 ([false, true, false, true, true, true, true] : Pl).reverse = some (.loop lp29b) := by kernel_rfl
    rw [this] at hq
    cases hq
    exact lok29b hl hch
  · cases hl
theorem lok29 : LOK Try.prog Se (ro 29) L29 0 false c29 [] :=
  lok_lo L29_ok c29 [] false (locate_nil _) (by kernel_rfl)
noncomputable def t29 (ra rb rc : Int) (ps : List (List AV)) : Tr ((Int)) :=
  .cn (g55 ra 0 2000) (.cn (!w55_0 ra 0 2000) (.lf (1)) (.cn (g55 rb 0 9) (.cn (!w55_0 rb 0 9) (.lf (1)) (.cn (g55 rc 0 9) (.cn (!w55_0 rc 0 9) (.lf (1)) (.cn (decide ((↑ps.length : Int) > 10)) (.lf (3)) (.cn (i29a_0 ra rb rc ps 0 ps (↑ps.length : Int) 0 []) (.lf (v29a_0_t2' ra rb rc ps 0 ps (↑ps.length : Int) 0 [])) (.cn (i29a_1 ra rb rc ps 0 ps (↑ps.length : Int) 0 []) (.cn (i29b_0 ra rb rc ps 0 ps (↑ps.length : Int) 0) (.lf (v29b_0_t2' ra rb rc ps 0 ps (↑ps.length : Int) 0)) (.cn (i29b_1 ra rb rc ps 0 ps (↑ps.length : Int) 0) (.lf (0)) (.nn))) (.nn))))) (.nn))) (.nn))) (.nn)
noncomputable def g29 (ra rb rc : Int) (ps : List (List AV)) : Bool := (t29 ra rb rc ps).g
noncomputable def w29_0 (ra rb rc : Int) (ps : List (List AV)) : Int := (t29 ra rb rc ps).val
theorem eq29 (ra rb rc : Int) (ps : List (List AV)) : evF Try.prog Se (ro 29) L29 Try.f29 [.agg [.i .i64 ra, .i .i64 rb, .i .i64 rc, .rs 31 ps]] = (t29 ra rb rc ps).opt (fun (x : (Int)) => (.i .i64 x : AV)) := by kernel_rfl
theorem con29 (ra rb rc : Int) (ps : List (List AV)) (h : g29 ra rb rc ps = true) : Con Try.prog 29 [.agg [.i .i64 ra, .i .i64 rb, .i .i64 rc, .rs 31 ps]] [] (.i .i64 (w29_0 ra rb rc ps)) [] :=
  con_of Se_ok mixed Try.func29 (c := c29) rfl (names 29 _ Try.func29) lok29 ((eq29 ra rb rc ps).trans (Tr.sound _ _ h))
noncomputable def e29 (args : List AV) (rows : List Blk) : Option (Bool × AV × List Blk) := match args, rows with
  | [.agg [.i .i64 ra, .i .i64 rb, .i .i64 rc, .rs 31 ps]], [] => some (g29 ra rb rc ps, .i .i64 (w29_0 ra rb rc ps), [])
  | _, _ => none
theorem e29_ok (args : List AV) (rows : List Blk) (pre : Bool) (v : AV) (rows' : List Blk) (h : e29 args rows = some (pre, v, rows')) (hp : pre = true) : Con Try.prog 29 args rows v rows' := by
  unfold e29 at h
  split at h
  · cases h; exact con29 _ _ _ _ hp
  · cases h
-- SPEC 29
end Go.Proofs.Ytgifjphinkbcaaa

set_option maxRecDepth 100000
set_option linter.unusedVariables false
namespace Go.Ev
open Go
/-- Rounds that come to an end. -/
theorem run_total {σ τ : Type} {step : σ → Lp σ τ} (μ : σ → Nat) (Inv : σ → Prop) (h : ∀ x, Inv x → (∃ y, step x = .go y ∧ Inv y ∧ μ y < μ x) ∨ ∃ y, step x = .out y) : ∀ x, Inv x → ∃ y, run step x = some y := by
  have key : ∀ (n : Nat) x, μ x < n → Inv x → ∃ y, run step x = some y := by
    intro n
    induction n with
    | zero => intro x hx; omega
    | succ n ih =>
      intro x hx hi
      rcases h x hi with ⟨y, h1, h2, h3⟩ | ⟨y, h1⟩
      · rw [run_go h1]
        exact ih y (by omega) h2
      · exact ⟨y, run_out h1⟩
  exact fun x hi => key (μ x + 1) x (by omega) hi
/-- What holds of the end, back through the rounds. -/
theorem run_ind {σ τ : Type} {step : σ → Lp σ τ} {Q : σ → τ → Prop} (h1 : ∀ x y, step x = .out y → Q x y) (h2 : ∀ x x' y, step x = .go x' → Q x' y → Q x y) {x : σ} {y : τ} (h : run step x = some y) : Q x y := by
  obtain ⟨n, hn⟩ := run_iter h
  clear h
  induction n generalizing x with
  | zero => cases hn
  | succ n ih =>
    rw [iter_succ] at hn
    split at hn
    · rename_i x' hs
      exact h2 x x' y hs (ih hn)
    · rename_i y' hs
      cases hn
      exact h1 x _ hs
    · cases hn
end Go.Ev
namespace Go.Proofs.Ytgifjphinkbcaaa
open Go Go.Ev
/-! ### Names -/
theorem g85_true (c : Int) : g85 c = true := by
  unfold g85 t85
  cases decide (c ≥ 97) <;> cases decide (c ≤ 122) <;> cases decide (c ≥ 48) <;> cases decide (c ≤ 57) <;> rfl
theorem run94 (nm : ByteArray) (tr : Bool) : ∃ y, r94a tr 0 nm 0 = some y := by
  unfold r94a
  refine run_total (fun x => nm.size - x.m2_1) (fun _ => True) (fun x _ => ?_) _ trivial
  unfold stp94a
  simp only [g85_true, cond_true]
  cases hb : x.m2_1.blt nm.size with
  | false => exact .inr ⟨_, rfl⟩
  | true =>
    have hb : x.m2_1 < nm.size := by simpa [Nat.blt_eq] using hb
    simp only [cond_true]
    cases w85_0 ↑(Utf8.decode nm x.m2_1).fst == tr with
    | true => exact .inr ⟨_, rfl⟩
    | false =>
      have := (decode_bounds nm x.m2_1).2
      exact .inl ⟨_, rfl, trivial, by show nm.size - (x.m2_1 + _) < nm.size - x.m2_1; omega⟩
theorem g94_true (nm : ByteArray) (tr : Bool) : g94 nm tr = true := by
  obtain ⟨y, hy⟩ := run94 nm tr
  unfold g94 t94 i94a_0 i94a_1
  rw [hy]
  cases y <;> rfl
theorem g84_true (nm : ByteArray) : g84 nm = true := by
  have : g91 nm = true := by
    unfold g91 t91
    rw [g94_true]; rfl
  unfold g84 t84
  rw [this]; rfl
theorem g61_true (nm : ByteArray) : g61 nm = true := by
  unfold g61 t61
  rw [g84_true]
  cases h1 : (nm.toList == (⟨#[]⟩ : ByteArray).toList) with
  | true => rfl
  | false =>
    have hs : 0 < nm.size := by
      rcases Nat.eq_zero_or_pos nm.size with e | e
      · exfalso
        have hnil : nm.toList = (⟨#[]⟩ : ByteArray).toList := by
          have : nm.data = #[] := Array.eq_empty_of_size_eq_zero e
          cases nm
          simp at this
          subst this
          rfl
        rw [hnil] at h1
        simp at h1
      · exact e
    have hi : inb 0 nm.size = true := by simp [inb, hs]
    rw [hi]
    cases decide ((nm.size : Int) > 16) <;> cases decide (((nm.data.toList.getD 0 0).toNat : Int) < 97) <;> cases decide (((nm.data.toList.getD 0 0).toNat : Int) > 122) <;> rfl
theorem g55_true (a b c : Int) : g55 a b c = true := by
  unfold g55 t55
  cases decide (b ≤ a) <;> rfl
theorem w55_eq (a b c : Int) : w55_0 a b c = (decide (b ≤ a) && decide (a ≤ c)) := by
  unfold w55_0 t55
  cases decide (b ≤ a) <;> rfl
end Go.Proofs.Ytgifjphinkbcaaa

set_option maxRecDepth 100000
set_option linter.unusedVariables false
namespace Go.Proofs.Ytgifjphinkbcaaa
open Go Go.Ev
theorem stepA {ra rb rc : Int} {ps : List (List AV)} {k : Nat} {m : List (AV × AV)} (hk : k < ps.length) (hl : ps.length ≤ 10) :
    (∃ a b c, a ≠ 0 ∧ stp29a ra rb rc ps 0 ps (ps.length : Int) (k : Int) m = .out (.x0 a b c)) ∨ (okPc (ps.getD k []) ∧ ∃ m', stp29a ra rb rc ps 0 ps (ps.length : Int) (k : Int) m = .go ⟨((k + 1 : Nat) : Int), m'⟩) := by
  unfold stp29a
  have e1 : decide ((k : Int) < (ps.length : Int)) = true := decide_eq_true (by omega)
  have e2 : inb (k : Int) ps.length = true := by simp [inb_nat, hk]
  have ew : IntKind.i64.wrap ((k : Int) + 1) = ((k + 1 : Nat) : Int) := (wrap64 (by omega) (by omega)).trans (by omega)
  simp only [e1, e2, cond_true, g61_true, g55_true, Int.toNat_natCast, ew, w55_eq]
  generalize ps.getD k [] = p
  cases w61_0 (fS p 0) with
  | false => exact .inl ⟨_, _, _, by decide, rfl⟩
  | true =>
    simp only [Bool.not_true, cond_false]
    cases toB ((mget (AV.s (fS p 0)) m).getD (AV.b false)) with
    | true => exact .inl ⟨_, _, _, by decide, rfl⟩
    | false =>
      simp only [cond_false]
      cases h1 : (decide (1 ≤ fI p 1) && decide (fI p 1 ≤ 2000)) with
      | false => exact .inl ⟨_, _, _, by decide, rfl⟩
      | true =>
        simp only [Bool.not_true, cond_false]
        cases h2 : (decide (0 ≤ fI p 2) && decide (fI p 2 ≤ 9)) with
        | false => exact .inl ⟨_, _, _, by decide, rfl⟩
        | true =>
          simp only [Bool.not_true, cond_false]
          cases h3 : (decide (0 ≤ fI p 3) && decide (fI p 3 ≤ 9)) with
          | false => exact .inl ⟨_, _, _, by decide, rfl⟩
          | true =>
            simp only [Bool.and_eq_true, decide_eq_true_eq] at h1 h2 h3
            exact .inr ⟨⟨h1.1, h1.2, h2.1, by omega, h3.1, by omega⟩, _, rfl⟩
theorem stepA_end {ra rb rc : Int} {ps : List (List AV)} {m : List (AV × AV)} : stp29a ra rb rc ps 0 ps (ps.length : Int) (ps.length : Int) m = .out (.x1 (ps.length : Int) m) := by
  unfold stp29a
  have e1 : decide ((ps.length : Int) < (ps.length : Int)) = false := decide_eq_false (by omega)
  rw [e1]; rfl
theorem loopA (ra rb rc : Int) {ps : List (List AV)} (hl : ps.length ≤ 10) : ∃ y, r29a ra rb rc ps 0 ps (ps.length : Int) 0 [] = some y ∧ (∀ t m, y = .x1 t m → okPs ps) ∧ (∀ a t m, y = .x0 a t m → a ≠ 0) := by
  have key : ∀ (n k : Nat) (m : List (AV × AV)), ps.length - k = n → k ≤ ps.length → ∃ y, run (fun x : S29a => stp29a ra rb rc ps 0 ps (ps.length : Int) x.t35 x.m24) ⟨(k : Int), m⟩ = some y ∧ (∀ t m', y = .x1 t m' → ∀ j, k ≤ j → j < ps.length → okPc (ps.getD j [])) ∧ (∀ a t m, y = .x0 a t m → a ≠ 0) := by
    intro n
    induction n with
    | zero =>
      intro k m hn hk
      have : k = ps.length := by omega
      subst this
      exact ⟨_, run_out stepA_end, fun t m' _ j h1 h2 => (by omega), fun a t m e => by cases e⟩
    | succ n ih =>
      intro k m hn hk
      rcases stepA (ra := ra) (rb := rb) (rc := rc) (m := m) (show k < ps.length by omega) hl with ⟨a, b, c, ha, h⟩ | ⟨hp, m', h⟩
      · exact ⟨_, run_out h, fun t m' e => (by cases e), fun a t m e => by cases e; exact ha⟩
      · obtain ⟨y, h1, h2, h3⟩ := ih (k + 1) m' (by omega) (by omega)
        refine ⟨y, (run_go (step := fun x : S29a => stp29a ra rb rc ps 0 ps (ps.length : Int) x.t35 x.m24) h).trans h1, fun t m' e j hj hj' => ?_, h3⟩
        rcases Nat.eq_or_lt_of_le hj with e' | e'
        · rw [← e']; exact hp
        · exact h2 t m' e j e' hj'
  obtain ⟨y, h1, h2, h3⟩ := key ps.length 0 [] rfl (Nat.zero_le _)
  refine ⟨y, h1, fun t m e => ⟨hl, fun p hp => ?_⟩, h3⟩
  obtain ⟨j, hj, rfl⟩ := List.getElem_of_mem hp
  have := h2 t m e j (Nat.zero_le _) hj
  simpa [List.getD_eq_getElem?_getD, List.getElem?_eq_getElem hj] using this
end Go.Proofs.Ytgifjphinkbcaaa

set_option maxRecDepth 100000
set_option linter.unusedVariables false
namespace Go.Proofs.Ytgifjphinkbcaaa
open Go Go.Ev
theorem stepB {ra rb rc : Int} {ps : List (List AV)} {k : Nat} (hk : k < ps.length) (hl : ps.length ≤ 10) :
    (∃ a b, a ≠ 0 ∧ stp29b ra rb rc ps 0 ps (ps.length : Int) (k : Int) = .out (.x0 a b)) ∨ stp29b ra rb rc ps 0 ps (ps.length : Int) (k : Int) = .go ⟨((k + 1 : Nat) : Int)⟩ := by
  unfold stp29b
  have e1 : decide ((k : Int) < (ps.length : Int)) = true := decide_eq_true (by omega)
  have e2 : inb (k : Int) ps.length = true := by simp [inb_nat, hk]
  have ew : IntKind.i64.wrap ((k : Int) + 1) = ((k + 1 : Nat) : Int) := (wrap64 (by omega) (by omega)).trans (by omega)
  have ew2 : IntKind.i64.wrap ((ps.length : Int) - 1) = (ps.length : Int) - 1 := wrap64 (by omega) (by omega)
  simp only [e1, e2, cond_true, g55_true, Int.toNat_natCast, ew, ew2, w55_eq]
  cases h1 : (decide (0 ≤ fI (ps.getD k []) 4) && decide (fI (ps.getD k []) 4 ≤ (ps.length : Int) - 1)) with
  | false => exact .inl ⟨_, _, by decide, rfl⟩
  | true =>
    simp only [Bool.and_eq_true, decide_eq_true_eq] at h1
    have hi : inb (fI (ps.getD k []) 4) ps.length = true := by
      obtain ⟨q, hq⟩ : ∃ q : Nat, fI (ps.getD k []) 4 = (q : Int) := ⟨(fI (ps.getD k []) 4).toNat, by omega⟩
      rw [hq, inb_nat]
      exact decide_eq_true (by omega)
    simp only [Bool.not_true, cond_false, hi, cond_true]
    have key : ∀ (c d : Bool), (∃ a b, a ≠ 0 ∧ (cond c (Lp.out (T29b.x0 10 (k : Int))) (cond d (Lp.out (T29b.x0 10 (k : Int))) (Lp.go (⟨((k + 1 : Nat) : Int)⟩ : S29b))) : Lp S29b T29b) = .out (.x0 a b)) ∨ (cond c (Lp.out (T29b.x0 10 (k : Int))) (cond d (Lp.out (T29b.x0 10 (k : Int))) (Lp.go (⟨((k + 1 : Nat) : Int)⟩ : S29b))) : Lp S29b T29b) = .go ⟨((k + 1 : Nat) : Int)⟩ := by
      intro c d
      cases c <;> cases d <;> first | exact .inl ⟨_, _, by decide, rfl⟩ | exact .inr rfl
    exact key _ _
theorem stepB_end {ra rb rc : Int} {ps : List (List AV)} : stp29b ra rb rc ps 0 ps (ps.length : Int) (ps.length : Int) = .out (.x1 (ps.length : Int)) := by
  unfold stp29b
  have e1 : decide ((ps.length : Int) < (ps.length : Int)) = false := decide_eq_false (by omega)
  rw [e1]; rfl
theorem loopB (ra rb rc : Int) {ps : List (List AV)} (hl : ps.length ≤ 10) : ∃ y, r29b ra rb rc ps 0 ps (ps.length : Int) 0 = some y ∧ (∀ a t, y = .x0 a t → a ≠ 0) := by
  have key : ∀ (n k : Nat), ps.length - k = n → k ≤ ps.length → ∃ y, run (fun x : S29b => stp29b ra rb rc ps 0 ps (ps.length : Int) x.t73) ⟨(k : Int)⟩ = some y ∧ (∀ a t, y = .x0 a t → a ≠ 0) := by
    intro n
    induction n with
    | zero =>
      intro k hn hk
      have : k = ps.length := by omega
      subst this
      exact ⟨_, run_out stepB_end, fun a t e => by cases e⟩
    | succ n ih =>
      intro k hn hk
      rcases stepB (ra := ra) (rb := rb) (rc := rc) (show k < ps.length by omega) hl with ⟨a, b, ha, h⟩ | h
      · exact ⟨_, run_out h, fun a t e => by cases e; exact ha⟩
      · obtain ⟨y, h1, h2⟩ := ih (k + 1) (by omega) (by omega)
        exact ⟨y, (run_go (step := fun x : S29b => stp29b ra rb rc ps 0 ps (ps.length : Int) x.t73) h).trans h1, h2⟩
  exact key ps.length 0 rfl (Nat.zero_le _)
/-- Check always answers. -/
theorem g29_true (ra rb rc : Int) (ps : List (List AV)) : g29 ra rb rc ps = true := by
  unfold g29 t29
  simp only [g55_true, w55_eq]
  cases decide (0 ≤ ra) && decide (ra ≤ 2000) with
  | false => rfl
  | true =>
  cases decide (0 ≤ rb) && decide (rb ≤ 9) with
  | false => rfl
  | true =>
  cases decide (0 ≤ rc) && decide (rc ≤ 9) with
  | false => rfl
  | true =>
  cases h : decide ((ps.length : Int) > 10) with
  | true => rfl
  | false =>
  have hl : ps.length ≤ 10 := by have := of_decide_eq_false h; omega
  obtain ⟨y, hy, _⟩ := loopA ra rb rc hl
  obtain ⟨z, hz, _⟩ := loopB ra rb rc hl
  unfold i29a_0 i29a_1 i29b_0 i29b_1
  rw [hy, hz]
  cases y <;> cases z <;> rfl
/-- What a Ridge is that passes Check. -/
structure Fine (ra rb rc : Int) (ps : List (List AV)) : Prop where
  a : 0 ≤ ra ∧ ra ≤ 2000
  b : 0 ≤ rb ∧ rb ≤ 9
  c : 0 ≤ rc ∧ rc ≤ 9
  ps : okPs ps
theorem check_err (ra rb rc : Int) (ps : List (List AV)) : w29_0 ra rb rc ps ≠ 0 ∨ (Fine ra rb rc ps ∧ ∀ ra' rb', 0 ≤ ra' → ra' ≤ 2000 → 0 ≤ rb' → rb' ≤ 9 → w29_0 ra' rb' rc ps = 0) := by
  cases ha : (decide (0 ≤ ra) && decide (ra ≤ 2000)) with
  | false =>
    left
    unfold w29_0 t29
    simp only [g55_true, w55_eq, ha, Tr.val, cond_true, Bool.not_false]
    decide
  | true =>
  cases hb : (decide (0 ≤ rb) && decide (rb ≤ 9)) with
  | false =>
    left
    unfold w29_0 t29
    simp only [g55_true, w55_eq, ha, hb, Tr.val, cond_true, cond_false, Bool.not_false, Bool.not_true]
    decide
  | true =>
  cases hc : (decide (0 ≤ rc) && decide (rc ≤ 9)) with
  | false =>
    left
    unfold w29_0 t29
    simp only [g55_true, w55_eq, ha, hb, hc, Tr.val, cond_true, cond_false, Bool.not_false, Bool.not_true]
    decide
  | true =>
  cases h : decide ((ps.length : Int) > 10) with
  | true =>
    left
    unfold w29_0 t29
    simp only [g55_true, w55_eq, ha, hb, hc, h, Tr.val, cond_true, cond_false, Bool.not_true]
    decide
  | false =>
  have hl : ps.length ≤ 10 := by have := of_decide_eq_false h; omega
  obtain ⟨y, hy, hy1, hy0⟩ := loopA ra rb rc hl
  obtain ⟨z, hz, hz0⟩ := loopB ra rb rc hl
  have val : ∀ ra' rb', (decide (0 ≤ ra') && decide (ra' ≤ 2000)) = true → (decide (0 ≤ rb') && decide (rb' ≤ 9)) = true → w29_0 ra' rb' rc ps = (match y with
      | .x0 a _ _ => a
      | .x1 _ _ => match z with
        | .x0 a _ => a
        | .x1 _ => 0) := by
    intro ra' rb' ha' hb'
    have hy' : r29a ra' rb' rc ps 0 ps (ps.length : Int) 0 [] = some y := hy
    have hz' : r29b ra' rb' rc ps 0 ps (ps.length : Int) 0 = some z := hz
    unfold w29_0 t29
    simp only [g55_true, w55_eq, ha', hb', hc, h, Tr.val, cond_true, cond_false, Bool.not_true]
    unfold i29a_0 i29a_1 i29b_0 i29b_1 v29a_0_t2' v29b_0_t2'
    rw [hy', hz']
    cases y <;> cases z <;> rfl
  have v0 := val ra rb ha hb
  simp only [Bool.and_eq_true, decide_eq_true_eq] at ha hb hc
  cases y with
  | x0 a t m => left; rw [v0]; exact hy0 a t m rfl
  | x1 t m =>
    cases z with
    | x0 a t' => left; rw [v0]; exact hz0 a t' rfl
    | x1 t' =>
      right
      exact ⟨⟨ha, hb, hc, hy1 t m rfl⟩, fun ra' rb' h1 h2 h3 h4 => val ra' rb' (by simp [h1, h2]) (by simp [h3, h4])⟩
end Go.Proofs.Ytgifjphinkbcaaa
